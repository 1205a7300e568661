/-
  AX, AxP3: parts U to ZA of the abstract executor: values, environments, steps, regions, loops, functions. No conditions.
-/
import Derived.Test.YtiepfglppnhpgaaGreatAxP2p3
set_option linter.all false
open Array renaming getD_eq_getD_getElem?->zD,getElem?_eq_some_iff->yU,getElem?_setIfInBounds_self_of_lt->ZV
open Bool renaming and_eq_true->zh,false_eq_true->yJ,not_eq_true'->yK,or_eq_false_iff->jh,or_eq_true->jg
open List renaming all_eq_true->yc,getElem?_eq_some_iff->zq,map_congr_left->kS,map_cons->qo,mem_append->qz,mem_cons->zJ,mem_cons_of_mem->zI,mem_filter->jJ,range_succ_eq_map->JS
open List.cons renaming injEq->kG
open Nat renaming add_assoc->YZ,add_comm->YJ,le_refl->zw,le_succ->zii,le_trans->je,lt_or_gt_of_ne->YI
open Option renaming map_eq_some_iff->zP
open Option.some renaming injEq->za
open Prod.mk renaming injEq->zb
namespace Go.Ax
open Go.RowKit
def step(C:Ctx)(ops:Array Oper)(t:Bool)(D:Env)(o:Oper):Option (Prop×Env):=
 if t then
  match qH C ops D o with
  |some r=>some r
  |none=>qQ C D o
 else match o.dst with
  |some d=>if(D d).owner then none else qH C ops D o
  |none=>none
def ev(C:Ctx)(ops:Array Oper):List Oper->List Bool->Env->(Env->Prop)->Prop
 |o::l,t::ts,D,K=>match step C ops t D o with
  |some (p,D')=>p/\ev C ops l ts D' K
  |none=>False
 |[],_,D,K=>K D
 |_::_,[],_,_=>False
section
variable {C:Ctx}{F:Nat->Prop}{O:Nat->Nat->Prop}{Z:Nat->Prop}{D D':Env}{a:Act}{w w':World}{ops:Array Oper}
theorem zh1(hI:Inv C F O (fun _=>False) D a w){o:Oper}{i:Nat}(hi:ops[i]? =some o){p:Prop}(h:qQ C D o=some (p,D'))(hp:p){Q:Exit->Act->World->Prop}:wpOp C.P ops Q i (G C D') a w:=by
 have hg:o.guard=none:=by
  cases hh:o.guard with
  |none=>rfl
  |some g=>simp[qQ,hh]at h
 have hw:o.wp C.P a w (G C D') Q:=by
  have h':=h;simp only[qQ,hg]at h';split at h'
  ·rename_i x d hop hd;exact zsc hI hg hop hd h hp
  ·rename_i t x v hop hd;exact zvl hI hg hop hd h hp
  ·rename_i args ats d hop hd;exact zkM hI hg hop hd h hp
  ·cases h'
 unfold wpOp;rw[hi];dsimp only;rw[show Region.wanted o (yielded ops a.tmps)=true from by unfold Region.wanted;rw[hg]];exact .inl hw
theorem zxY(hC:Yy C){t:Bool}{o:Oper}{i:Nat}(hi:ops[i]? =some o){p:Prop}(h:step C ops t D o=some (p,D'))(hp:p){Q:Exit->Act->World->Prop}(hG:G C D a w):wpOp C.P ops Q i (G C D') a w:=by
 obtain⟨F,O,hI⟩:=hG;unfold step at h;split at h
 ·split at h
  ·rename_i r hr;simp only[za]at h;subst h;exact Qy hC hI hi hr hp
  ·exact zh1 hI hi h hp
 ·split at h
  ·split at h
   ·cases h
   ·exact Qy hC hI hi h hp
  ·cases h
theorem G.drew(h:G C D a w):G C D a {w with drawn:=w.drawn+1}:=by
 obtain⟨F,O,hI⟩:=h;exact⟨F,O,hI.worldZ (zw _) (fun _ _ _=>rfl) (fun _ h=>h.elim) (fun _ _ _ _ _ h=>h.elim) rfl rfl ⟨rfl,zz9 (zii _)⟩⟩
def St(C:Ctx)(ops:Array Oper)(ts:List Bool)(i:Nat)(D D':Env):Prop:=∃o p,ops[i]? =some o/\step C ops (ts.getD i true) D o=some (p,D')/\p
theorem zpl(hC:Yy C){ts:List Bool}{K:Env->Prop}{Q:Exit->Act->World->Prop}(hK:∀D a w,K D->G C D a w->Q .normal a w):∀(n:Nat) (listed:Array Bool) (D:Env) (a:Act) (w:World),zko (St C ops ts) ops K n listed D->G C D a w->
 wpAny C.P .any ops Q n listed a w
 |0,_,D,a,w,h,hG=>⟨h.1,hK D a w h.2 hG⟩
 |n+1,listed,D,a,w,h,hG=>by
  refine⟨fun h0=>hK D a w (h.1 h0) hG,fun i hi=>?_⟩;obtain⟨D',⟨o,p,ho,hs,hp⟩,h2⟩:=h.2 i hi;exact wpOp_mono (fun a' w' hG'=>zpl hC hK n _ D' a' w' h2 hG') (zxY hC ho hs hp hG)
theorem zaC{o:Oper}{t:Nat}(h:Operand.tmp t∈o.op.operands):t∈o.looksAt ops:=by
 unfold Oper.looksAt;refine qz.2 (.inl (List.mem_filterMap.2 ⟨.tmp t,by simpa using h,rfl⟩))
theorem zpR{P:Program}{ty:TypeId}{x:Operand}{d:Nat}{g:Bool}{A:A}(h:x≠.tmp d):opd P (D.put d g A) ty x=opd P D ty x:=by
 cases x with
 |tmp t=>
  have htd:t≠d:=fun e=>h (by rw[e]);simp only[opd,Env.put,htd,if_false]
 |_=>rfl
theorem zzT{o:Oper}{d:Nat}{g:Bool}{A:A}(h:d∉o.looksAt ops):gd ops (D.put d g A) o=gd ops D o:=by
 unfold gd
 cases hg:o.guard with
 |none=>rfl
 |some jw=>
  obtain⟨j,want⟩:=jw
  cases ht:(ops[j]?).bind (·.dst)with
  |none=>simp[ht]
  |some t=>
   have:t≠d:=by
    rintro rfl;refine h ?_;unfold Oper.looksAt;refine qz.2 (.inr ?_);simp[hg,ht]
   simp[ht,Env.put,this]
def zcG(C:Ctx)(ops:Array Oper)(D:Env)(o:Oper):Option (Prop×Bool×A):=
 match gd ops D o with
 |some true=>match yC C D true o with
  |some (p,A)=>some (p,true,A)
  |none=>none
 |some false=>some (True,false,.val (.hole 0))
 |none=>none
theorem zaX{o:Oper}{d:Nat}(hd:o.dst=some d):qH C ops D o=match zcG C ops D o with
 |some (p,g,A)=>if C.dst d then some (p,D.put d g A)else none
 |none=>none:=by
 unfold qH zcG;rw[hd]
 cases gd ops D o with
 |none=>rfl
 |some b=>
  cases b with
  |true=>
   dsimp only
   cases hl:yC C D true o with
   |none=>rfl
   |some r=>rfl
  |false=>rfl
theorem zq9(hw:Wf D){o:Oper}{p:Prop}{g:Bool}{A:A}(h:zcG C ops D o=some (p,g,A)):∀s ver,A.refs=some (s,ver)->ver<=(D s).ver:=by
 unfold zcG at h;split at h
 ·split at h
  ·rename_i hl;simp only[za,zb]at h;obtain⟨_,_,rfl⟩:=h;exact ztg hw hl
  ·cases h
 ·simp only[za,zb]at h;obtain⟨_,_,rfl⟩:=h;intro s ver hr;simp[A.refs]at hr
 ·cases h
theorem zcV{o:Oper}{r:Prop×Bool×A}(hg:gd ops D o=gd ops D' o)(h:LeR C.P D D' o.op.operands.toList)(ho:∀ty x,x∈o.op.operands->opd C.P D ty x=opd C.P D' ty x)(hl:zcG C ops D o=some r):zcG C ops D' o=some r:=by
 unfold zcG at hl ⊢;rw[<-hg];split at hl
 ·split at hl
  ·rename_i h2;rw[zBY h ho h2];exact hl
  ·cases hl
 ·exact hl
 ·cases hl
theorem zBF{d e:Nat}{g h:Bool}{A B:Go.Ax.A}(hne:d≠e):(D.put d g A).put e h B=(D.put e h B).put d g A:=by
 funext t
 simp only[Env.put];by_cases h1:t=d
 ·subst h1;simp[hne]
 ·by_cases h2:t=e
  ·subst h2;simp[h1]
  ·simp[h1,h2]
theorem Wf.put(hw:Wf D){d:Nat}{g:Bool}{A:A}(h:∀s ver,A.refs=some (s,ver)->ver<=(D s).ver):Wf (D.put d g A):=by
 intro t s ver hr;have hle:(D s).ver<=((D.put d g A) s).ver:=by simp only[Env.put];split<;>simp_all
 by_cases ht:t=d
 ·subst ht;simp only[Env.put,if_true]at hr;exact je (h s ver hr) hle
 ·simp only[Env.put,ht,if_false]at hr;exact je (hw t s ver hr) hle
theorem Env.own_put_some{d s ver:Nat}{g:Bool}{A:Go.Ax.A}{y:V}(ho:(D d).owner=false)(h:D.own s ver=some y):(D.put d g A).own s ver=some y:=by
 by_cases hs:s=d
 ·subst hs;obtain⟨h1,h2,h3,h4⟩:=Env.own_iff'.1 h;simp[E.owner,h1,h3,h4]at ho
 ·rw[Env.own_put_ne hs];exact h
theorem zoL{oi oj:Oper}{di dj:Nat}(hap:oi.apart ops oj=true)(hdi:oi.dst=some di)(hdj:oj.dst=some dj)(hw:Wf D)(hoi:(D di).owner=false){Di Dij:Env}{pi pj:Prop}
 (hi:qH C ops D oi=some (pi,Di)) (hoj:(Di dj).owner=false) (hj:qH C ops Di oj=some (pj,Dij)):
 ∃Dj,qH C ops D oj=some (pj,Dj)/\qH C ops Dj oi=some (pi,Dij)/\(D dj).owner=false/\(Dj di).owner=false/\Wf Dj:=by
 obtain⟨a1,a2,a3⟩:=Oper.apart_spec hap;have hne:di≠dj:=fun e=>a2 di hdi (by rw[hdj,e]);rw[zaX hdi]at hi;split at hi
 ·rename_i p g A hli;split at hi
  ·rename_i hdn;simp only[za,zb]at hi;obtain⟨rfl,rfl⟩:=hi;rw[zaX hdj]at hj;split at hj
   ·rename_i p' g' B hlj;split at hj
    ·rename_i hdn';simp only[za,zb]at hj;obtain⟨rfl,rfl⟩:=hj;have n1:∀x,x∈oj.op.operands.toList->x≠.tmp di:=fun x hx e=>a1 di hdi (zaC (by subst e;simpa using hx));have n2:∀x,x∈oi.op.operands.toList->x≠.tmp dj:=fun x hx e=>a3 dj hdj (zaC (by subst e;simpa using hx))
     have hlj':zcG C ops D oj=some (p',g',B):=by
      refine zcV (zzT (a1 di hdi)) (fun ty x gx A' s ver y hx ho hr hy=>?_) (fun ty x hx=>zpR (n1 x (by simpa using hx))) hlj;rw[zpR (n1 x hx)]at ho;by_cases hs:s=di
      ·subst hs;rw[Env.own_put_eq (ZH hw ho _ _ hr)]at hy;cases hy
      ·rwa [Env.own_put_ne hs]at hy
     have hod:(D dj).owner=false:=by
      have:=hoj;simp only[Env.put,if_neg (Ne.symm hne)]at this;exact this
     have hli':zcG C ops (D.put dj g' B) oi=some (p,g,A):=by
      refine zcV (zzT (a3 dj hdj)).symm (fun ty x gx A' s ver y hx ho hr hy=>Env.own_put_some hod hy) (fun ty x hx=>(zpR (n2 x (by simpa using hx))).symm) hli
     refine⟨D.put dj g' B,?_,?_,hod,?_,Wf.put hw (zq9 hw hlj')⟩
     ·rw[zaX hdj,hlj'];dsimp only;rw[if_pos hdn']
     ·rw[zaX hdi,hli'];dsimp only;rw[if_pos hdn,zBF (Ne.symm hne)]
     ·simp only[Env.put,if_neg hne];exact hoi
    ·cases hj
   ·cases hj
  ·cases hi
 ·cases hi
def ZB(D D':Env):Prop:=∀t,(D t).ver<=(D' t).ver/\((D' t).a=(D t).a\/(D' t).a.refs=none)
theorem ZB.refl:ZB D D:=fun _=>⟨zw _,.inl rfl⟩
theorem ZB.trans{D'':Env}(h:ZB D D')(h':ZB D' D''):ZB D D'':=fun t=>⟨je (h t).1 (h' t).1,by
 rcases (h' t).2 with e|e
 ·rcases (h t).2 with e'|e'
  ·exact .inl (e.trans e')
  ·exact .inr (by rw[e];exact e')
 ·exact .inr e⟩
theorem ZB.wf(h:ZB D D')(hw:Wf D):Wf D':=fun t s ver hr=>by
 rcases (h t).2 with e|e
 ·rw[e]at hr;exact je (hw t s ver hr) (h s).1
 ·rw[e]at hr;cases hr
theorem ZB.drp{d:Nat}:ZB D (D.drp d):=fun t=>by
 simp only[Env.drp];split
 ·rename_i h;subst h;exact⟨zii _,.inr rfl⟩
 ·exact⟨zw _,.inl rfl⟩
theorem ZB.mod{d:Nat}{x:V}:ZB D (D.mod d x):=fun t=>by
 simp only[Env.mod];split
 ·rename_i h;subst h;exact⟨zw _,.inr rfl⟩
 ·exact⟨zw _,.inl rfl⟩
theorem ZB.bmp{d:Nat}{x:V}:ZB D (D.bmp d x):=fun t=>by
 simp only[Env.bmp];split
 ·rename_i h;subst h;exact⟨zii _,.inr rfl⟩
 ·exact⟨zw _,.inl rfl⟩
theorem ZB.putVal{d:Nat}{g:Bool}{x:V}:ZB D (D.put d g (.val x)):=fun t=>by
 simp only[Env.put];split
 ·rename_i h;subst h;exact⟨zii _,.inr rfl⟩
 ·exact⟨zw _,.inl rfl⟩
mutual
theorem zn6{s ver:Nat}:∀(x:V) (p:List Nat) (D D':Env) (q:Prop) (y:V),qR s ver x p D=some (q,y,D')->ZB D D'
 | .agg fs,p,D,D',q,y,h=>by
   simp only[qR]at h;split at h
   ·rename_i q1 vs D1 h1;simp only[za,zb]at h;obtain⟨_,_,rfl⟩:=h;exact zmF fs p 0 D _ _ _ h1
   ·cases h
 | .slc true e d es,p,D,D',q,y,h=>by
   simp only[qR]at h;split at h
   ·simp only[za,zb]at h;obtain⟨_,_,rfl⟩:=h;exact .mod
   ·cases h
 | .slc false e d es,p,D,D',q,y,h=>by
   simp only[qR]at h;split at h
   ·cases h
   ·simp only[za,zb]at h;obtain⟨_,_,rfl⟩:=h;exact .refl
 | .box e c,p,D,D',q,y,h=>by
   simp only[qR]at h;split at h
   ·simp only[za,zb]at h;obtain⟨_,_,rfl⟩:=h;exact .mod
   ·cases h
 | .int _ _,p,D,D',q,y,h=>by
   simp only[qR]at h;split at h
   ·cases h
   ·simp only[za,zb]at h;obtain⟨_,_,rfl⟩:=h;exact .refl
 | .bool _,p,D,D',q,y,h=>by
   simp only[qR]at h;split at h
   ·cases h
   ·simp only[za,zb]at h;obtain⟨_,_,rfl⟩:=h;exact .refl
 | .str _,p,D,D',q,y,h=>by
   simp only[qR]at h;split at h
   ·cases h
   ·simp only[za,zb]at h;obtain⟨_,_,rfl⟩:=h;exact .refl
 | .tup _,p,D,D',q,y,h=>by
   simp only[qR]at h;split at h
   ·cases h
   ·simp only[za,zb]at h;obtain⟨_,_,rfl⟩:=h;exact .refl
 | .fn _ _,p,D,D',q,y,h=>by
   simp only[qR]at h;split at h
   ·cases h
   ·simp only[za,zb]at h;obtain⟨_,_,rfl⟩:=h;exact .refl
 | .hole _,p,D,D',q,y,h=>by
   simp only[qR]at h;split at h
   ·cases h
   ·simp only[za,zb]at h;obtain⟨_,_,rfl⟩:=h;exact .refl
theorem zmF{s ver:Nat}:∀(fs:List V) (p:List Nat) (i:Nat) (D D':Env) (q:Prop) (ys:List V),ZY s ver fs p i D=some (q,ys,D')->ZB D D'
 |[],p,i,D,D',q,ys,h=>by
  simp only[ZY,za,zb]at h;obtain⟨_,_,rfl⟩:=h;exact .refl
 |x::xs,p,i,D,D',q,ys,h=>by
  simp only[ZY]at h;split at h
  ·rename_i q1 v D1 h1;split at h
   ·rename_i q2 vs D2 h2;simp only[za,zb]at h;obtain⟨_,_,rfl⟩:=h;exact(zn6 x _ D D1 _ _ h1).trans (zmF xs p _ D1 _ _ _ h2)
   ·cases h
  ·cases h
end
theorem Yp{A:A}{q:Prop}{x:V}(h:ju D A=some (q,x,D')):ZB D D':=by
 unfold ju at h;split at h
 ·simp only[za,zb]at h;obtain⟨_,_,rfl⟩:=h;exact .refl
 ·split at h
  ·split at h
   ·simp only[za,zb]at h;obtain⟨_,_,rfl⟩:=h;exact .drp
   ·split at h
    ·split at h
     ·simp only[za,zb]at h;obtain⟨_,_,rfl⟩:=h;exact .mod
     ·cases h
    ·simp only[za,zb]at h;obtain⟨_,_,rfl⟩:=h;exact .mod
  ·cases h
 ·exact zn6 _ _ _ _ _ _ h
 ·cases h
theorem zeq(hw:Wf D){o:Oper}{p:Prop}(h:qH C ops D o=some (p,D')):Wf D':=by
 cases hd:o.dst with
 |none=>unfold qH at h;rw[hd]at h;split at h<;>simp_all
 |some d=>
  rw[zaX hd]at h;split at h
  ·rename_i hl;split at h
   ·simp only[za,zb]at h;obtain⟨_,rfl⟩:=h;exact hw.put (zq9 hw hl)
   ·cases h
  ·cases h
theorem zsb(hw:Wf D){o:Oper}{p:Prop}(h:qQ C D o=some (p,D')):Wf D':=by
 unfold qQ at h;split at h
 ·cases h
 ·split at h
  ·split at h
   ·rename_i gx A h1;split at h
    ·rename_i q y D1 ht;have g1:=Yp ht;split at h
     ·split at h
      ·split at h
       ·cases h
       ·rename_i s ver hsd;simp only[za,zb]at h;obtain⟨_,rfl⟩:=h;refine Wf.put ((g1.trans .putVal).wf hw) (fun s' ver' hr=>?_);simp only[A.refs,za,zb]at hr;obtain⟨rfl,rfl⟩:=hr;simp[Env.put]
      ·simp only[za,zb]at h;obtain⟨_,rfl⟩:=h;exact(g1.trans .putVal).wf hw
     ·cases h
    ·cases h
   ·cases h
  ·split at h
   ·split at h
    ·rename_i q y D1 ht;have g1:=Yp ht;split at h
     ·split at h
      ·split at h
       ·simp only[za,zb]at h;obtain⟨_,rfl⟩:=h;split
        ·exact(g1.trans .mod).wf hw
        ·exact(g1.trans .bmp).wf hw
       ·cases h
      ·cases h
     ·split at h
      ·split at h
       ·split at h
        ·simp only[za,zb]at h;obtain⟨_,rfl⟩:=h;split
         ·exact(g1.trans .mod).wf hw
         ·exact(g1.trans .bmp).wf hw
        ·cases h
       ·cases h
      ·cases h
     ·cases h
    ·cases h
   ·cases h
  ·split at h
   ·split at h
    ·split at h
     ·split at h
      ·rename_i q e' dd es D1 ht;have g1:=Yp ht;split at h
       ·split at h
        ·split at h
         ·split at h
          ·split at h
           ·rename_i q2 e2 d2 es3 D2 ht2;simp only[za,zb]at h;obtain⟨_,rfl⟩:=h;exact((g1.trans (Yp ht2)).trans .putVal).wf hw
           ·cases h
          ·simp only[za,zb]at h;obtain⟨_,rfl⟩:=h;exact(g1.trans .putVal).wf hw
         ·cases h
        ·cases h
       ·cases h
      ·cases h
     ·cases h
    ·cases h
   ·cases h
  ·cases h
theorem zDz(hw:Wf D){t:Bool}{o:Oper}{p:Prop}(h:step C ops t D o=some (p,D')):Wf D':=by
 unfold step at h;split at h
 ·split at h
  ·rename_i r hr;simp only[za]at h;subst h;exact zeq hw hr
  ·exact zsb hw h
 ·split at h
  ·split at h
   ·cases h
   ·exact zeq hw h
  ·cases h
theorem zj4{l:Array Bool}{i:Nat}(h:l.getD i true=false):l.getD i false=false:=by
 simp only[zD]at h ⊢
 cases hh:l[i]? with
 |none=>simp[hh]at h
 |some b=>simp[hh]at h ⊢;exact h
theorem zvu{ts:List Bool}(hk:chk ops ts=true){listed:Array Bool}(hc:zbs ops listed){i j:Nat}(hi:i∈Region.ready .any ops listed)(hj:j∈Region.ready .any ops listed)(hne:i≠j):
 ts.getD i true=false/\ts.getD j true=false/\∃x y,ops[i]? =some x/\ops[j]? =some y/\x.apart ops y=true/\y.apart ops x=true:=by
 have key:∀i j,i<j->i∈Region.ready .any ops listed->j∈Region.ready .any ops listed->ts.getD i true=false/\ts.getD j true=false/\∃x y,ops[i]? =some x/\ops[j]? =some y/\x.apart ops y=true/\y.apart ops x=true:=by
  intro i j hij hi hj;obtain⟨hju,oj,hoj,hall⟩:=mem_ready.1 hj;obtain⟨hiu,oi,hoi,_⟩:=mem_ready.1 hi;simp only[chk,zh]at hk;have hjn:j<ops.size:=(yU.1 hoj).1;rcases zkG hk.2 j (by simpa using hjn) i hij with hb|hb
  ·have hw:=zjZ (ops:=ops) ops.toList [] (fun j=>by simp) (fun j i h=>by simp at h) j i hb;have:=hw.listed hc (fun o ho=>by rw[hoj]at ho;simp only[za]at ho;subst ho;exact hall);rw[zj4 hiu]at this;cases this
  ·exact hb
 rcases YI hne with h|h
 ·exact key i j h hi hj
 ·obtain⟨h1,h2,x,y,h3,h4,h5,h6⟩:=key j i h hj hi;exact⟨h2,h1,y,x,h4,h3,h6,h5⟩
theorem zob{o:Oper}{p:Prop}(h:step C ops false D o=some (p,D')):∃d,o.dst=some d/\(D d).owner=false/\qH C ops D o=some (p,D'):=by
 unfold step at h;rw[if_neg (by simp)]at h;split at h
 ·rename_i d hd;split at h
  ·cases h
  ·rename_i ho;exact⟨d,hd,by simpa using ho,h⟩
 ·cases h
theorem zmK{o:Oper}{p:Prop}{d:Nat}(hd:o.dst=some d)(ho:(D d).owner=false)(h:qH C ops D o=some (p,D')):step C ops false D o=some (p,D'):=by
 unfold step;rw[if_neg (by simp),hd];dsimp only;rw[ho,if_neg (by simp)];exact h
theorem zz2{ts:List Bool}{K:Env->Prop}(hk:chk ops ts=true):∀(l:List Oper) (k:Nat) (tl:List Bool) (D:Env),(∀j,l[j]? =ops[k+j]?)->(∀j,tl[j]? =ts[k+j]?)->k+l.length=ops.size->ev C ops l tl D K->Wf D->
 zko (St C ops ts) ops K l.length (zaO ops.size k) D
 |[],k,tl,D,hl,ht,hn,h,hw=>by
  have hK:K D:=by cases tl<;>exact h
  refine⟨?_,hK⟩
  cases hr:Region.ready .any ops (zaO ops.size k)with
  |nil=>rfl
  |cons x xs=>
   have hx:x∈Region.ready .any ops (zaO ops.size k):=(by rw[hr];simp);obtain⟨h1,o,ho,_⟩:=mem_ready.1 hx;have hxn:x<ops.size:=(yU.1 ho).1;rw[zf9,if_pos hxn]at h1;simp at hn h1;omega
 |o::l,k,tl,D,hl,ht,hn,h,hw=>by
  cases tl with
  |nil=>exact h.elim
  |cons t tl=>
   simp only[ev]at h;split at h
   ·rename_i p D' hs;have ho:ops[k]? =some o:=by simpa using(hl 0).symm
    have htk:ts.getD k true=t:=by
     have:=(ht 0).symm;simp at this;simp[List.getD_eq_getElem?_getD,this]
    have hkn:k<ops.size:=by simp at hn;omega
    have hr:k∈Region.ready .any ops (zaO ops.size k):=by
     refine mem_ready.2 ⟨by rw[zf9,if_pos hkn];simp,o,ho,fun e he hb=>?_⟩;have:=hk;simp only[chk,zh]at this;have:=zcu this.1 k o (by simpa using ho) e he hb;rw[zf9,if_pos (by omega)];simpa using this
    have hcl:zbs ops (zaO ops.size k):=by
     intro j oj hoj hj e he hb;have hjn:j<ops.size:=(yU.1 hoj).1;rw[zf9,if_pos hjn]at hj;simp at hj;have:=hk;simp only[chk,zh]at this;have:=zcu this.1 j oj (by simpa using hoj) e he hb;rw[zf9,if_pos (by omega)];simp;omega
    refine zyX (I:=Wf) (i:=k) (fun listed j D Di Dij hc hi hj hne hw ⟨oi,pi,hoi,hsi,hpi⟩ ⟨oj,pj,hoj,hsj,hpj⟩=>?ex) l.length _ D D' hcl hw hr ⟨o,p,ho,by rw[htk];exact hs,h.1⟩ ?main
    case ex=>
     obtain⟨t1,t2,x,y,hx,hy,ap1,_⟩:=zvu hk hc hi hj (Ne.symm hne);rw[hoi]at hx;rw[hoj]at hy;simp only[za]at hx hy;subst hx;subst hy;rw[t1]at hsi;rw[t2]at hsj;obtain⟨di,hdi,hoi',hli⟩:=zob hsi;obtain⟨dj,hdj,hoj',hlj⟩:=zob hsj;obtain⟨Dj,e1,e2,e3,e4,e5⟩:=zoL ap1 hdi hdj hw hoi' hli hoj' hlj;exact⟨Dj,⟨oj,pj,hoj,by rw[t2];exact zmK hdj e3 e1,hpj⟩,⟨oi,pi,hoi,by rw[t1];exact zmK hdi e4 e2,hpi⟩,e5⟩
    case main=>
     rw[zBf hkn];exact zz2 hk l (k+1) tl D' (fun j=>by have:=hl (j+1);simpa [YZ,YJ 1 j]using this) (fun j=>by have:=ht (j+1);simpa [YZ,YJ 1 j]using this) (by simp at hn;omega) h.2 (zDz hw hs)
   ·exact h.elim
theorem zy7(n:Nat):zaO n 0=Array.replicate n false:=by
 apply Array.ext';simp[zaO]
 induction n with
 |zero=>rfl
 |succ n ih=>rw[List.range_succ,List.map_append,ih,List.replicate_succ'];rfl
theorem zx5(hC:Yy C)(hm:C.P.follows .mixedOrders=true){id:Nat}{ts:List Bool}{K:Env->Prop}{Q:Exit->Act->World->Prop}(hk:chk ops ts=true)(hG:G C D a w)(h:ev C ops ops.toList ts D K)
 (hK:∀D a w,K D->G C D a w->Q .normal a w):(Code.region id ops true).wp C.P Q a w:=by
 refine wp_region_any hm ?_;have hw:Wf D:=by obtain⟨F,O,hI⟩:=hG;exact hI.wf
 have:=zz2 (C:=C) hk ops.toList 0 ts D (fun j=>by simp) (fun j=>by simp) (by simp) h hw;rw[zy7]at this;exact zpl hC hK _ _ D a _ (by simpa using this) hG.drew
end
def zeT(C:Ctx)(ops:Array Oper)(D:Env)(o:Oper)(r:Prop×Env):Prop:=
 qH C ops D o=some r\/qQ C D o=some r\/YN C D o=some r\/zpe C D o=some r\/zdx C D o=some r\/zr0 C D o=some r\/zfz C D o=some r
def zeJ(C:Ctx)(ops:Array Oper)(D:Env)(o:Oper):Option (Prop×Env):=match o.dst with
 |some d=>match qH C ops D o with
  |some (p,D1)=>match D1.own d (D1 d).ver with
   |some y=>some (p/\C.st=false,(D1.drp d).put d true (.val y.frz))
   |none=>none
  |none=>none
 |none=>none
def Gh(D D':Env):Prop:=D'=D\/∃s ver e d d' es,D.own s ver=some (.slc true e d es)/\(d'.isBox=true->es≠[])/\D'=(D.drp s).put s true (.val (.slc true e d' es))
def YE(D:Env):List Nat->Env
 |[]=>D
 |t::l=>match D.own t (D t).ver with
  |some y=>YE ((D.drp t).put t true (.val y.frz)) l
  |none=>YE D l
def FzR(C:Ctx)(D D0:Env):Prop:=∃l,(l=[]\/C.st=false)/\D0=YE D l
theorem FzR.refl{C:Ctx}{D:Env}:FzR C D D:=⟨[],.inl rfl,rfl⟩
def zoS(C:Ctx)(ops:Array Oper)(D:Env)(o:Oper):Option (Prop×Env):=match gd ops D o with
 |some true=>YN C D {o with guard:=none}
 |_=>none
def evO(C:Ctx)(ops:Array Oper):List Oper->Env->(Env->Prop)->Prop
 |o::l,D,K=>(∃D0 p D1 D',FzR C D D0/\(zeT C ops D0 o (p,D1)\/zeJ C ops D0 o=some (p,D1)\/zhD C D0 o=some (p,D1)\/zma C D0 o=some (p,D1))/\p/\Gh D1 D'/\evO C ops l D' K)\/
   (∃p D',zoS C ops D o=some (p,D')/\p/\evO C ops l D' K)\/
   (∃d q es xx ng,zlc C D o=some (d,q,es,xx,ng)/\q/\∀b:Bool,(es≠[]->b=false)->(xx=true->es=[]->b=true)->evO C ops l (D.put d true (.val (.bool (b !=ng)))) K)\/
   (∃p D',zx3 C D o=some (p,D')/\p/\evO C ops l D' K)\/
   (match l with
    |o2::l2=>∃p D',zuA C D o o2=some (p,D')/\p/\evO C ops l2 D' K
    |[]=>False)
 |[],D,K=>K D
section
variable {C:Ctx}{F:Nat->Prop}{O:Nat->Nat->Prop}{Z:Nat->Prop}{D D':Env}{a:Act}{w w':World}{ops:Array Oper}
theorem zvo(hC:Yy C)(hIO:IOk C){o:Oper}{i:Nat}(hi:ops[i]? =some o){p:Prop}(h:zeT C ops D o (p,D'))(hp:p){Q:Exit->Act->World->Prop}(hG:G C D a w):wpOp C.P ops Q i (G C D') a w:=by
 obtain⟨F,O,hI⟩:=hG
 have fin:o.guard=none/\o.wp C.P a w (G C D') Q->wpOp C.P ops Q i (G C D') a w:=by
  rintro⟨hg,hw⟩;unfold wpOp;rw[hi];dsimp only;rw[show Region.wanted o (yielded ops a.tmps)=true from by unfold Region.wanted;rw[hg]];exact .inl hw
 rcases h with h|h|h|h|h|h|h
 ·exact Qy hC hI hi h hp
 ·exact zh1 hI hi h hp
 ·exact fin (zid hIO hI h hp)
 ·exact fin (zvL hI h hp)
 ·exact fin (zmP hI h hp)
 ·exact fin (zvI hI h hp)
 ·exact fin (zmD hIO hI h hp)
theorem zvk(hC:Yy C){o:Oper}{i:Nat}(hi:ops[i]? =some o){p:Prop}(h:zeJ C ops D o=some (p,D'))(hp:p){Q:Exit->Act->World->Prop}(hG:G C D a w):wpOp C.P ops Q i (G C D') a w:=by
 obtain⟨F,O,hI⟩:=hG;unfold zeJ at h;split at h
 ·split at h
  ·rename_i hl;split at h
   ·rename_i hy;simp only[za,zb]at h;obtain⟨rfl,rfl⟩:=h;refine wpOp_mono (fun a' w' hG'=>?_) (Qy hC hI hi hl hp.1);obtain⟨F',O',hI'⟩:=hG';exact hI'.frzG hp.2 hy
   ·cases h
  ·cases h
 ·cases h
theorem zB2{o:Oper}{i:Nat}(hi:ops[i]? =some o){p:Prop}(h:zhD C D o=some (p,D'))(hp:p){Q:Exit->Act->World->Prop}(hG:G C D a w):wpOp C.P ops Q i (G C D') a w:=by
 obtain⟨F,O,hI⟩:=hG;obtain⟨hg,hw⟩:=zvD hI h hp (Q:=Q);unfold wpOp;rw[hi];dsimp only;rw[show Region.wanted o (yielded ops a.tmps)=true from by unfold Region.wanted;rw[hg]];exact .inl hw
theorem zBV{o:Oper}{i:Nat}(hi:ops[i]? =some o){p:Prop}(h:zma C D o=some (p,D')){Q:Exit->Act->World->Prop}(hG:G C D a w):wpOp C.P ops Q i (G C D') a w:=by
 obtain⟨F,O,hI⟩:=hG;obtain⟨hg,hw⟩:=zvz hI h (Q:=Q);unfold wpOp;rw[hi];dsimp only;rw[show Region.wanted o (yielded ops a.tmps)=true from by unfold Region.wanted;rw[hg]];exact .inl hw
theorem Gh.g{a:Act}{w:World}(h:Gh D D')(hG:G C D a w):G C D' a w:=by
 rcases h with rfl|⟨s,ver,e,d,d',es,h1,h2,rfl⟩
 ·exact hG
 ·obtain⟨F,O,hI⟩:=hG;obtain⟨F',O',hI'⟩:=hI.ghost h1 h2;exact⟨F',O',hI'⟩
theorem ztE(hst:C.st=false):∀(l:List Nat) {D:Env} {a:Act} {w:World},G C D a w->G C (YE D l) a w
 |[],_,_,_,h=>h
 |t::l,D,a,w,h=>by
  simp only[YE];split
  ·rename_i y hy;obtain⟨F,O,hI⟩:=h;exact ztE hst l (hI.frzG hst hy)
  ·exact ztE hst l h
theorem FzR.g{D0:Env}{a:Act}{w:World}(h:FzR C D D0)(hG:G C D a w):G C D0 a w:=by
 obtain⟨l,h1|h1,rfl⟩:=h
 ·subst h1;exact hG
 ·exact ztE h1 l hG
theorem ztz(hIO:IOk C){o:Oper}{i:Nat}(hi:ops[i]? =some o){p:Prop}(h:zoS C ops D o=some (p,D'))(hp:p){Q:Exit->Act->World->Prop}(hG:G C D a w):wpOp C.P ops Q i (G C D') a w:=by
 obtain⟨F,O,hI⟩:=hG;unfold zoS at h;split at h
 ·rename_i hg;obtain⟨_,hw⟩:=zid hIO hI h hp (Q:=Q);unfold wpOp;rw[hi];dsimp only;rw[znF hI hg];exact .inl hw
 ·cases h
theorem zf1(hC:Yy C)(hIO:IOk C){K:Env->Prop}{Q:Exit->Act->World->Prop}(hK:∀D a w,K D->G C D a w->Q .normal a w):∀(l:List Oper) (k:Nat) (D:Env) (a:Act) (w:World),(∀j,l[j]? =ops[k+j]?)->evO C ops l D K->G C D a w->
 wpOps C.P ops Q ((List.range l.length).map (k+ ·)) a w
 |[],k,D,a,w,_,h,hG=>hK D a w h hG
 |o::l,k,D,a,w,hl,h,hG=>by
  have hi:ops[k]? =some o:=by simpa using(hl 0).symm
  have e:(List.range (o::l).length).map (k+ ·)=k::(List.range l.length).map (k+1+ ·):=by
   rw[List.length_cons,JS];simp only[qo,List.map_map,Nat.add_zero,kG,true_and];apply kS;intro j _;simp only[Function.comp];omega
  have hl':∀j,l[j]? =ops[k+1+j]? :=fun j=>by have:=hl (j+1);simpa [YZ,YJ 1 j]using this
  rw[e,wpOps_cons];unfold evO at h;rcases h with⟨D0,p,D1,D',hfz,hs,hpp,hgh,hk⟩|⟨p,D',hs,hpp,hk⟩|⟨d,q,es,xx,ng,hn,hq,hk⟩|⟨p,D',hs,hpp,hk⟩|hs2
  ·have hG:=hfz.g hG;exact wpOp_mono (fun a' w' hG'=>zf1 hC hIO hK l (k+1) D' a' w' hl' hk (hgh.g hG')) (hs.elim (fun hs=>zvo hC hIO hi hs hpp hG) (fun hs=>hs.elim (fun hs=>zvk hC hi hs hpp hG) (fun hs=>hs.elim (fun hs=>zB2 hi hs hpp hG) (fun hs=>zBV hi hs hG))))
  ·exact wpOp_mono (fun a' w' hG'=>zf1 hC hIO hK l (k+1) D' a' w' hl' hk hG') (ztz hIO hi hs hpp hG)
  ·obtain⟨F,O,hI⟩:=hG;obtain⟨hg,hw⟩:=zs1 hI hn hq (Q:=Q)
   have:wpOp C.P ops Q k (fun a' w'=>∃b:Bool,(es≠[]->b=false)/\(xx=true->es=[]->b=true)/\G C (D.put d true (.val (.bool (b !=ng)))) a' w') a w:=by
    unfold wpOp;rw[hi];dsimp only;rw[show Region.wanted o (yielded ops a.tmps)=true from by unfold Region.wanted;rw[hg]];exact .inl hw
   exact wpOp_mono (fun a' w' ⟨b,hb,hx,hG'⟩=>zf1 hC hIO hK l (k+1) _ a' w' hl' (hk b hb hx) hG') this
  ·obtain⟨F,O,hI⟩:=hG;obtain⟨hg,hw⟩:=zvr hI hs hpp (Q:=Q)
   have:wpOp C.P ops Q k (G C D') a w:=by
    unfold wpOp;rw[hi];dsimp only;rw[show Region.wanted o (yielded ops a.tmps)=true from by unfold Region.wanted;rw[hg]];exact .inl hw
   exact wpOp_mono (fun a' w' hG'=>zf1 hC hIO hK l (k+1) D' a' w' hl' hk hG') this
  ·cases l with
   |nil=>exact hs2.elim
   |cons o2 l2=>
    obtain⟨p,D',hs,hpp,hk⟩:=hs2;obtain⟨F,O,hI⟩:=hG;have hi2:ops[k+1]? =some o2:=by simpa using(hl' 0).symm
    have e2:(List.range (o2::l2).length).map (k+1+ ·)=(k+1)::(List.range l2.length).map (k+1+1+ ·):=by
     rw[List.length_cons,JS];simp only[qo,List.map_map,Nat.add_zero,kG,true_and];apply kS;intro j _;simp only[Function.comp];omega
    have hl2:∀j,l2[j]? =ops[k+1+1+j]? :=fun j=>by
     have:=hl' (j+1);rw[show k+1+(j+1)=k+1+1+j by omega]at this;simpa using this
    rw[e2];refine wpOp_mono (fun a' w' h=>?_) (zuz hI hs hpp hi hi2 (Q:=Q));rw[wpOps_cons];exact wpOp_mono (fun a'' w'' hG'=>zf1 hC hIO hK l2 (k+1+1) D' a'' w'' hl2 hk hG') h
theorem zvs(hC:Yy C)(hIO:IOk C){id:Nat}{K:Env->Prop}{Q:Exit->Act->World->Prop}(hG:G C D a w)(h:evO C ops ops.toList D K)
 (hK:∀D a w,K D->G C D a w->Q .normal a w):(Code.region id ops false).wp C.P Q a w:=by
 refine wp_region ?_;have:=zf1 hC hIO (Q:=Q) hK ops.toList 0 D a w (fun j=>by simp) h hG;simpa using this
end
end Go.Ax
namespace Go.Ax
open Go.RowKit
def KJ(PS:List Nat)(D:Env):Operand->Bool
 | .tmp t=>match (D t).a with
   | .val x=> !x.owned||PS.contains t
   |_=>false
 |_=>true
def zij(PS:List Nat)(D:Env)(l:List Operand):Bool:=l.all (KJ PS D)
def zfG(D:Env):Operand->Bool
 | .tmp t=>match (D t).a with
   | .val x=> !x.owned
   |_=>false
 |_=>true
def zel(D:Env):List Operand->Bool
 |[_,y]=>zfG D y
 |_=>false
def zeY(C:Ctx)(D:Env):List Operand->List TypeId->Bool
 |[x,.tmp u],[t,_]=>(match (D u).a with
  | .val z=>z.owned
  |_=>false)&&(match x with
  | .tmp v=>v !=u
  |_=>false)&&(match ul C.P t with
  |some e=>zcm C.P e
  |none=>false)
 |_,_=>false
def Yq(C:Ctx)(PS:List Nat)(D:Env)(o:Oper):Option (Prop×Env):=
 if zij PS D o.op.operands.toList then
  match o.guard,o.op,o.dst with
  |none,.assign x,some d=>match opd C.P D o.type x with
   |some (gx,A)=>match ju D A with
    |some (q,y,D1)=>if C.dst d&& !y.isHole then some (gx=true/\q,D1.put d true (.val y))else none
    |none=>none
   |none=>none
  |none,.call ⟨.builtin .append,args,ats⟩,some _=>if zel D args.toList||zeY C D args.toList ats.toList then qQ C D o else none
  |_,_,_=>zdx C D o
 else none
section
variable {C:Ctx}{F:Nat->Prop}{O:Nat->Nat->Prop}{Z:Nat->Prop}{D D' D'':Env}{a:Act}{w w':World}{ops:Array Oper}{PS:List Nat}
theorem zvy(hI:Inv C F O (fun _=>False) D a w){o:Oper}{p:Prop}(h:Yq C PS D o=some (p,D'))(hp:p){Q:Exit->Act->World->Prop}:o.guard=none/\o.wp C.P a w (G C D') Q:=by
 unfold Yq at h;split at h
 ·split at h
  ·rename_i x d hg hop hd;refine⟨hg,?_⟩;split at h
   ·rename_i gx A hA;split at h
    ·rename_i q y D1 ht;split at h
     ·rename_i hc;simp only[zh,decide_eq_true_eq]at hc;have hdl:d<a.tmps.size:=(by rw[hI.ts];exact hc.1.2);simp only[za,zb]at h;obtain⟨rfl,rfl⟩:=h;obtain⟨cs,On,e1,e2⟩:=ZD hI (zX hI hA hp.1).1 ht hp.2;obtain⟨O1,hI1⟩:=e2.inv;have run:(execOp a.eval o).run C.P w=.ok (.value (a.eval x)) w:=(by simp[execOp,hop]);unfold Oper.wp;rw[run,Oper.upon_value,hd];exact⟨F,_,(hI1.putVal hdl (.inl hc.1.1) (g:=true) (fun _=>⟨e1,e2.rep⟩) (fun b hb=>.inr hb) (by simp)).lessZ (fun _ h=>h.elim)⟩
     ·cases h
    ·cases h
   ·cases h
  ·rename_i args ats d hg hop hd;split at h
   ·exact⟨hg,zkM hI hg hop hd h hp⟩
   ·cases h
  ·exact zmP hI h hp
 ·cases h
def zax(e e':E):Prop:=e'.a.refs=none/\e.ver<=e'.ver/\(∀x,e'.a=.val x->x.owned=false)
theorem zde{x:Operand}{ty:TypeId}{gx:Bool}{A:A}{q:Prop}{y:V}{D1:Env}(hw:KJ PS D x=true)(h1:opd C.P D ty x=some (gx,A))(h2:ju D A=some (q,y,D1)):
 (∀t,D1 t=D t\/(x=.tmp t/\t∈PS/\zax (D t) (D1 t)))/\∀D2:Env,(∀t,x=.tmp t->D2 t=D t)->opd C.P D2 ty x=some (gx,A)/\∃D3,ju D2 A=some (q,y,D3)/\(∀t,x=.tmp t->D3 t=D1 t)/\(∀t,x≠.tmp t->D3 t=D2 t):=by
 have val:∀{v:V},A=.val v->(∀t,D1 t=D t)/\∀D2:Env,ju D2 A=some (q,y,D2):=by
  rintro v rfl;simp only[ju,za,zb]at h2;obtain⟨rfl,rfl,rfl⟩:=h2;exact⟨fun _=>rfl,fun D2=>rfl⟩
 cases x with
 |tmp t=>
  simp only[opd]at h1
  cases ha:(D t).a with
  |val v=>
   simp only[ha]at h1;split at h1
   ·rename_i ho;simp only[za,zb]at h1;obtain⟨rfl,rfl⟩:=h1;have hm:t∈PS:=(by simpa [KJ,ha,ho]using hw);simp only[ju]at h2;split at h2
    ·rename_i r hr;simp only[za,zb]at h2;obtain⟨rfl,rfl,rfl⟩:=h2;refine⟨fun s=>?_,fun D2 hs=>?_⟩
     ·by_cases hst:s=t
      ·subst hst;refine .inr ⟨rfl,hm,?_⟩;simp[Env.drp,zax,A.refs,V.owned]
      ·left;simp[Env.drp,hst]
     ·have ht:=hs t rfl;refine⟨by simp only[opd,ht,ha,ho,if_true],D2.drp t,?_,fun s hs'=>?_,fun s hs'=>?_⟩
      ·have:D2.own t (D t).ver=some r:=by
        unfold Env.own at hr ⊢;rw[ht];exact hr
       simp only[ju,this]
      ·simp only[Operand.tmp.injEq]at hs';subst hs';simp[Env.drp,ht]
      ·have:s≠t:=fun e=>hs' (by rw[e]);simp[Env.drp,this]
    ·cases h2
   ·rename_i ho;simp only[za,zb]at h1;obtain⟨rfl,rfl⟩:=h1;obtain⟨v1,v2⟩:=val rfl;refine⟨fun s=>.inl (v1 s),fun D2 hs=>⟨?_,D2,v2 D2,fun s hs'=>by rw[hs s hs',v1],fun _ _=>rfl⟩⟩;have ht:=hs t rfl;simp only[opd,ht,ha];rw[if_neg ho]
  |_=>simp[KJ,ha]at hw
 |const v=>
  simp only[opd,zP,zb]at h1;obtain⟨z,h3,rfl,rfl⟩:=h1;obtain⟨v1,v2⟩:=val rfl;exact⟨fun s=>.inl (v1 s),fun D2 hs=>⟨by simp[opd,h3],D2,v2 D2,fun s hs'=>(by cases hs'),fun _ _=>rfl⟩⟩
 |func f=>
  simp only[opd,za,zb]at h1;obtain⟨rfl,rfl⟩:=h1;obtain⟨v1,v2⟩:=val rfl;exact⟨fun s=>.inl (v1 s),fun D2 hs=>⟨rfl,D2,v2 D2,fun s hs'=>(by cases hs'),fun _ _=>rfl⟩⟩
 |global g=>simp[opd]at h1
theorem zax.refl_of{e e' e'':E}(h:zax e e')(h':e''=e'\/zax e' e''):zax e e'':=by
 rcases h' with rfl|h'
 ·exact h
 ·exact⟨h'.1,je h.2.1 h'.2.1,h'.2.2⟩
theorem zBe{x:Operand}{D1:Env}(hw:KJ PS D x=true)(h:∀t,D1 t=D t\/(t∈PS/\zax (D t) (D1 t)/\∃z,(D1 t).a=.val z)):KJ PS D1 x=true:=by
 cases x with
 |tmp t=>
  rcases h t with h|⟨h1,h2,z,h3⟩
  ·simpa [KJ,h]using hw
  ·simp[KJ,h3,h2.2.2 z h3]
 |_=>rfl
theorem zCk{x:Operand}{ty:TypeId}{gx:Bool}{A:A}{q:Prop}{y:V}{D1:Env}(hw:KJ PS D x=true)(h1:opd C.P D ty x=some (gx,A))(h2:ju D A=some (q,y,D1)):∀t,D1 t=D t\/(t∈PS/\zax (D t) (D1 t)/\∃z,(D1 t).a=.val z):=by
 intro t;rcases (zde hw h1 h2).1 t with h|⟨h3,h4,h5⟩
 ·exact .inl h
 ·refine .inr ⟨h4,h5,?_⟩;subst h3;simp only[opd]at h1
  cases ha:(D t).a with
  |val v=>
   simp only[ha]at h1;split at h1
   ·simp only[za,zb]at h1;obtain⟨rfl,rfl⟩:=h1;simp only[ju]at h2;split at h2
    ·simp only[za,zb]at h2;obtain⟨rfl,rfl,rfl⟩:=h2;exact⟨.hole 0,by simp[Env.drp]⟩
    ·cases h2
   ·simp only[za,zb]at h1;obtain⟨rfl,rfl⟩:=h1;simp only[ju,za,zb]at h2;obtain⟨rfl,rfl,rfl⟩:=h2;exact⟨v,ha⟩
  |_=>simp[KJ,ha]at hw
theorem zgb{ty:Nat->TypeId}:∀(l:List (Nat×Operand)) (D D':Env) (p:Prop) (vs:List (Nat×V)),(∀e∈l,KJ PS D e.2=true)->Kn C ty D l=some (p,vs,D')->
 (∀t,D' t=D t\/(Operand.tmp t∈l.map (·.2)/\t∈PS/\zax (D t) (D' t)))/\
 ∀D2:Env,(∀t,Operand.tmp t∈l.map (·.2)->D2 t=D t)->∃D3,Kn C ty D2 l=some (p,vs,D3)/\(∀t,Operand.tmp t∈l.map (·.2)->D3 t=D' t)/\(∀t,Operand.tmp t∉l.map (·.2)->D3 t=D2 t)
 |[],D,D',p,vs,_,h=>by
  simp only[Kn,za,zb]at h;obtain⟨rfl,rfl,rfl⟩:=h;exact⟨fun _=>.inl rfl,fun D2 _=>⟨D2,rfl,fun t h=>by simp at h,fun _ _=>rfl⟩⟩
 |(i,x)::xs,D,D',p,vs,hw,h=>by
  simp only[Kn]at h;split at h
  ·rename_i gx A hA;split at h
   ·rename_i q y D1 ht;split at h
    ·cases h
    rename_i hnh;split at h
    ·rename_i p' vs' D2 hr;simp only[za,zb]at h;obtain⟨rfl,rfl,rfl⟩:=h;have hwx:=hw (i,x) (by simp);obtain⟨a1,a2⟩:=zde hwx hA ht;have hdv:=zCk hwx hA ht;dsimp only at a1 a2;obtain⟨b1,b2⟩:=zgb xs D1 _ _ _ (fun e he=>zBe (hw e (by simp[he])) hdv) hr;refine⟨fun t=>?_,fun Db hb=>?_⟩
     ·rcases a1 t with h1|⟨h1,h2,h3⟩
      ·rcases b1 t with h4|⟨h4,h5,h6⟩
       ·exact .inl (h4.trans h1)
       ·exact .inr ⟨by simp at h4 ⊢;exact .inr h4,h5,by rw[<-h1];exact h6⟩
      ·refine .inr ⟨by rw[h1];simp,h2,h3.refl_of ?_⟩;rcases b1 t with h4|⟨h4,h5,h6⟩
       ·exact .inl h4
       ·exact .inr h6
     ·obtain⟨c1,D3,c2,c3,c4⟩:=a2 Db (fun t ht=>hb t (by rw[ht];simp))
      obtain⟨D4,d1,d2,d3⟩:=b2 D3 (fun t ht=>by
       by_cases hxt:x=.tmp t
       ·exact c3 t hxt
       ·rw[c4 t hxt,hb t (by simp at ht ⊢;exact .inr ht)];rcases a1 t with h1|⟨h1,_⟩
        ·exact h1.symm
        ·exact absurd h1 hxt)
      refine⟨D4,?_,fun t ht=>?_,fun t ht=>?_⟩
      ·simp only[Kn,c1,c2,d1];rw[if_neg hnh]
      ·by_cases htx:Operand.tmp t∈xs.map (·.2)
       ·exact d2 t htx
       ·have hxt:x=.tmp t:=by
         simp only[qo,zJ]at ht;rcases ht with ht|ht
         ·exact ht.symm
         ·exact absurd ht htx
        rw[d3 t htx,c3 t hxt];rcases b1 t with h4|⟨h4,_⟩
        ·exact h4.symm
        ·exact absurd h4 htx
      ·simp only[qo,zJ,not_or]at ht;rw[d3 t ht.2,c4 t (fun e=>ht.1 e.symm)]
    ·cases h
   ·cases h
  ·cases h
structure Foot (C:Ctx) (PS:List Nat) (D:Env) (o:Oper) (p:Prop) (D':Env) (d:Nat) (v:V) (M:Env):Prop where
 dst:o.dst=some d
 eq:D'=M.put d true (.val v)
 off:∀t,M t=D t\/(Operand.tmp t∈o.op.operands/\t∈PS/\zax (D t) (M t))
 same:∀D2:Env,(∀t,Operand.tmp t∈o.op.operands->D2 t=D t)->∃M2:Env,Yq C PS D2 o=some (p,M2.put d true (.val v))/\(∀t,Operand.tmp t∈o.op.operands->M2 t=M t)/\(∀t,Operand.tmp t∉o.op.operands->M2 t=D2 t)
theorem zb3{l:List Operand}{D2:Env}(h:∀t,Operand.tmp t∈l->D2 t=D t):zij PS D2 l=zij PS D l:=by
 unfold zij
 induction l with
 |nil=>rfl
 |cons x l ih=>
  simp only[List.all_cons];rw[ih (fun t ht=>h t (zI _ ht))];congr 1
  cases x with
  |tmp t=>simp only[KJ,h t (by simp)]
  |_=>rfl
theorem zq2{P:Program}{ty:TypeId}{y:Operand}{gy:Bool}{Ay:A}(h:zfG D y=true)(ho:opd P D ty y=some (gy,Ay)):
 (∃v,Ay=.val v)/\∀M:Env,(∀t,y=.tmp t->M t=D t)->opd P M ty y=some (gy,Ay):=by
 cases y with
 |tmp t=>
  simp only[zfG]at h;have hs:∀M:Env,M t=D t->opd P M ty (.tmp t)=opd P D ty (.tmp t):=fun M hM=>by simp only[opd,hM]
  refine⟨?_,fun M hM=>by rw[hs M (hM t rfl)];exact ho⟩
  cases ha:(D t).a with
  |val z=>
   rw[ha]at h;simp only[yK]at h;simp only[opd,ha]at ho;rw[if_neg (by rw[h];simp)]at ho;simp only[za,zb]at ho;exact⟨z,ho.2.symm⟩
  |_=>rw[ha]at h;cases h
 |const v=>
  have ho':=ho;simp only[opd,zP,zb]at ho;obtain⟨z,_,_,rfl⟩:=ho;exact⟨⟨z,rfl⟩,fun M _=>ho'⟩
 |func f=>
  have ho':=ho;simp only[opd,za,zb]at ho;exact⟨⟨_,ho.2.symm⟩,fun M _=>ho'⟩
 |global g=>simp[opd]at ho
theorem zxO{x:Operand}{ty:TypeId}{gx:Bool}{Ax:A}{q:Prop}{v:V}{D1:Env}{u:Nat}(h:zfG D (.tmp u)=true)(ho:opd C.P D ty x=some (gx,Ax))(ht:ju D Ax=some (q,v,D1))(hx:x=.tmp u):D1 u=D u:=by
 subst hx;obtain⟨⟨z,rfl⟩,_⟩:=zq2 h ho;simp only[ju,za,zb]at ht;rw[ht.2.2]
theorem zbz{o:Oper}{p:Prop}(h:Yq C PS D o=some (p,D')):∃d v M,Foot C PS D o p D' d v M:=by
 have h0:=h;unfold Yq at h;split at h
 ·rename_i hw;have hw':∀x∈o.op.operands.toList,KJ PS D x=true:=yc.1 hw;split at h
  ·rename_i x d hg hop hd;have hops:o.op.operands= #[x]:=(by simp[hop,Op.operands]);split at h
   ·rename_i gx A hA;split at h
    ·rename_i q y D1 ht;split at h
     ·rename_i hc;simp only[za,zb]at h;obtain⟨rfl,rfl⟩:=h;obtain⟨a1,a2⟩:=zde (hw' x (by simp[hops])) hA ht;refine⟨d,y,D1,hd,rfl,fun t=>?_,fun D2 hs=>?_⟩
      ·rcases a1 t with h1|⟨h1,h2,h3⟩
       ·exact .inl h1
       ·exact .inr ⟨by simp[hops,h1],h2,h3⟩
      ·obtain⟨c1,D3,c2,c3,c4⟩:=a2 D2 (fun t ht=>hs t (by simp[hops,ht]));refine⟨D3,?_,fun t ht=>c3 t (by rw[hops]at ht;simp at ht;exact ht.symm),fun t ht=>c4 t (fun e=>ht (by simp[hops,e]))⟩;unfold Yq;rw[zb3 (fun t ht=>hs t (by simpa using ht)),hw,if_pos rfl];simp only[hg,hop,hd,c1,c2];rw[if_pos hc]
     ·cases h
    ·cases h
   ·cases h
  ·rename_i args ats d hg hop hd;split at h
   ·rename_i hpo;by_cases hpl:zel D args.toList=true
    ·clear hpo;simp only[qQ,hg,hop,hd]at h;split at h
     ·rename_i x y t t' hargs hats;have hops:o.op.operands.toList=[x,y]:=by rw[hop];simpa [Op.operands,Call.operands]using hargs
      have hmem:∀z,z∈o.op.operands↔z=x\/z=y:=fun z=>by
       have:z∈o.op.operands↔z∈o.op.operands.toList:=(by simp);rw[this,hops];simp
      split at h
      ·rename_i htt;split at h
       ·rename_i e gx Ax he hA;split at h
        ·rename_i q e' dd es D1 ht;split at h
         ·rename_i gy Ay hAy;split at h
          ·rename_i z oy ey d2 es2 hz hlk;split at h
           ·rename_i hc;obtain⟨a1,a2⟩:=zde (hw' x (by rw[hops];simp)) hA ht;have hpy:zfG D y=true:=by rw[hargs]at hpl;exact hpl
            have hy1:∀u,y=.tmp u->D1 u=D u:=fun u hu=>by
             by_cases hxu:x=.tmp u
             ·exact zxO (by rw[<-hu];exact hpy) hA ht hxu
             ·rcases a1 u with h1|⟨h1,_⟩
              ·exact h1
              ·exact absurd h1 hxu
            have hpy1:zfG D1 y=true:=by
             cases y with
             |tmp u=>simp only[zfG,hy1 u rfl]at hpy ⊢;exact hpy
             |_=>rfl
            obtain⟨⟨vy,rfl⟩,hoy⟩:=zq2 hpy1 hAy
            have main:∃vv,D'=D1.put d true (.val vv)/\∀M M3:Env,opd C.P M t x=some (gx,Ax)->ju M Ax=some (q,.slc true e' dd es,M3)->opd C.P M3 t y=some (gy,.val vy)->qQ C M o=some (p,M3.put d true (.val vv)):=by
             simp only[A.look,za]at hlk;subst hlk;by_cases hos:(oy&& !zcm C.P e)=true
             ·rw[if_pos hos]at h;have ho1:oy=true:=(by simp only[zh]at hos;exact hos.1);subst ho1;simp only[ju,za,zb]at h;obtain⟨rfl,rfl⟩:=h;refine⟨_,rfl,fun M M3 k1 k2 k3=>?_⟩;simp only[qQ,hg,hop,hd,hargs,hats];rw[if_pos htt];simp only[he,k1,k2,k3,hz,A.look];rw[if_pos hc,if_pos hos];rfl
             ·rw[if_neg hos]at h;simp only[za,zb]at h;obtain⟨rfl,rfl⟩:=h;refine⟨_,rfl,fun M M3 k1 k2 k3=>?_⟩;simp only[qQ,hg,hop,hd,hargs,hats];rw[if_pos htt];simp only[he,k1,k2,k3,hz,A.look];rw[if_pos hc,if_neg hos];rfl
            obtain⟨vv,rfl,hm⟩:=main;refine⟨d,vv,D1,hd,rfl,fun t=>?_,fun D2 hs=>?_⟩
            ·rcases a1 t with h1|⟨h1,h2,h3⟩
             ·exact .inl h1
             ·exact .inr ⟨(hmem _).2 (.inl h1.symm),h2,h3⟩
            ·obtain⟨c1,D3,c2,c3,c4⟩:=a2 D2 (fun t ht=>hs t ((hmem _).2 (.inl ht.symm)))
             have hy3:∀u,y=.tmp u->D3 u=D1 u:=fun u hu=>by
              by_cases hxu:x=.tmp u
              ·exact c3 u hxu
              ·rw[c4 u hxu,hs u ((hmem _).2 (.inr hu.symm)),hy1 u hu]
             refine⟨D3,?_,fun t ht=>?_,fun t ht=>c4 t (fun e=>ht ((hmem _).2 (.inl e.symm)))⟩
             ·have hpl2:zel D2 args.toList=true:=by
               rw[hargs]at hpl ⊢
               cases y with
               |tmp u=>simp only[zel,zfG,hs u ((hmem _).2 (.inr rfl))]at hpl ⊢;exact hpl
               |_=>rfl
              unfold Yq;rw[zb3 (fun t ht=>hs t (by simpa using ht)),hw,if_pos rfl];simp only[hg,hop,hd];rw[if_pos (by rw[hpl2];rfl)];exact hm D2 D3 c1 c2 (hoy D3 hy3)
             ·by_cases hxt:x=.tmp t
              ·exact c3 t hxt
              ·rcases (hmem _).1 ht with h1|h1
               ·exact absurd h1.symm hxt
               ·exact hy3 t h1.symm
           ·cases h
          ·cases h
         ·cases h
        ·cases h
       ·cases h
      ·cases h
     ·cases h
    ·have hoa:zeY C D args.toList ats.toList=true:=(by simpa [hpl]using hpo);clear hpo;simp only[qQ,hg,hop,hd]at h;split at h
     ·rename_i x y t t' hargs hats;have hops:o.op.operands.toList=[x,y]:=by rw[hop];simpa [Op.operands,Call.operands]using hargs
      have hmem:∀z,z∈o.op.operands↔z=x\/z=y:=fun z=>by
       have:z∈o.op.operands↔z∈o.op.operands.toList:=(by simp);rw[this,hops];simp
      rw[hargs,hats]at hoa;split at h
      ·rename_i htt;split at h
       ·rename_i e gx Ax he hA;split at h
        ·rename_i q e' dd es D1 ht;split at h
         ·rename_i gy Ay hAy;split at h
          ·rename_i z oy ey d2 es2 hz hlk;split at h
           ·rename_i hc;obtain⟨a1,a2⟩:=zde (hw' x (by rw[hops];simp)) hA ht
            cases y with
            |tmp u=>
             simp only[zeY,he,zh]at hoa;obtain⟨⟨o1,o2⟩,o3⟩:=hoa
             have hxu:x≠.tmp u:=by
              rintro rfl;simp at o2
             have hs1:D1 u=D u:=by
              rcases a1 u with h1|⟨h1,_⟩
              ·exact h1
              ·exact absurd h1 hxu
             have hos:¬(oy&& !zcm C.P e)=true:=(by rw[o3];simp);rw[if_neg hos]at h;simp only[za,zb]at h;obtain⟨rfl,rfl⟩:=h
             have hAe:Ay=.rf u (D u).ver []/\gy=(D u).g:=by
              rw[<-hs1]at o1 ⊢
              cases ha:(D1 u).a with
              |val v=>
               rw[ha]at o1;simp only[opd,ha]at hAy;rw[if_pos o1]at hAy;simp only[za,zb]at hAy;exact⟨hAy.2.symm,hAy.1.symm⟩
              |_=>rw[ha]at o1;cases o1
             obtain⟨rfl,rfl⟩:=hAe
             have keep:∀M:Env,M u=D1 u->opd C.P M t (.tmp u)=some ((D u).g,.rf u (D u).ver [])/\A.look M (.rf u (D u).ver [])=A.look D1 (.rf u (D u).ver [])/\A.okA M (.rf u (D u).ver [])=A.okA D1 (.rf u (D u).ver []):=fun M hM=>by
              refine⟨?_,by simp only[A.look,Env.own,hM],by simp only[A.okA,Env.own,hM]⟩;rw[<-hAy];simp only[opd,hM]
             refine⟨d,_,D1,hd,rfl,fun t=>?_,fun D2 hs=>?_⟩
             ·rcases a1 t with h1|⟨h1,h2,h3⟩
              ·exact .inl h1
              ·exact .inr ⟨(hmem _).2 (.inl h1.symm),h2,h3⟩
             ·obtain⟨c1,D3,c2,c3,c4⟩:=a2 D2 (fun t ht=>hs t ((hmem _).2 (.inl ht.symm)));have hy3:D3 u=D1 u:=(by rw[c4 u hxu,hs u ((hmem _).2 (.inr rfl)),hs1]);obtain⟨e1,e2,e3⟩:=keep D3 hy3;refine⟨D3,?_,fun t ht=>?_,fun t ht=>c4 t (fun e=>ht ((hmem _).2 (.inl e.symm)))⟩
              ·unfold Yq;rw[zb3 (fun t ht=>hs t (by simpa using ht)),hw,if_pos rfl];simp only[hg,hop,hd]
               have ho2:zeY C D2 args.toList ats.toList=true:=by
                rw[hargs,hats];simp only[zeY,he,hs u ((hmem _).2 (.inr rfl)),o1,o2,o3,Bool.and_self]
               rw[if_pos (by rw[ho2,Bool.or_true])];simp only[qQ,hg,hop,hd,hargs,hats];rw[if_pos htt];simp only[he,c1,c2,e1,e2,e3,hz,hlk];rw[if_pos hc,if_neg hos]
              ·by_cases hxt:x=.tmp t
               ·exact c3 t hxt
               ·rcases (hmem _).1 ht with h1|h1
                ·exact absurd h1.symm hxt
                ·simp only[Operand.tmp.injEq]at h1;rw[h1];exact hy3
            |_=>simp[zeY]at hoa
           ·cases h
          ·cases h
         ·cases h
        ·cases h
       ·cases h
      ·cases h
     ·cases h
   ·cases h
  ·rename_i hna hnb;have h':=h;unfold zdx at h;split at h
   ·rename_i t parts d hg hop hd;have hops:o.op.operands.toList=parts.toList.map (·.2):=(by simp[hop,Op.operands]);split at h
    ·rename_i zs p' vs D1 h1 h2;split at h
     ·rename_i fs hf;split at h
      ·rename_i hdd;simp only[za,zb]at h;obtain⟨rfl,rfl⟩:=h;obtain⟨a1,a2⟩:=zgb parts.toList D _ _ _ (fun e he=>hw' _ (by rw[hops];exact List.mem_map.2 ⟨e,he,rfl⟩)) h2;have hm:∀t,Operand.tmp t∈o.op.operands↔Operand.tmp t∈parts.toList.map (·.2):=fun t=>(by rw[<-hops];simp);refine⟨d,.agg fs,D1,hd,rfl,fun t=>?_,fun D2 hs=>?_⟩
       ·rcases a1 t with h1|⟨h1,h2,h3⟩
        ·exact .inl h1
        ·exact .inr ⟨(hm t).2 h1,h2,h3⟩
       ·obtain⟨D3,c2,c3,c4⟩:=a2 D2 (fun t ht=>hs t ((hm t).2 ht));refine⟨D3,?_,fun t ht=>c3 t ((hm t).1 ht),fun t ht=>c4 t (fun e=>ht ((hm t).2 e))⟩;unfold Yq;rw[zb3 (fun t ht=>hs t (by simpa using ht)),hw,if_pos rfl];simp only[hg,hop,hd,zdx,h1,c2,hf];rw[if_pos hdd]
      ·cases h
     ·cases h
    ·cases h
   ·rename_i t n parts d hg hop hd;have hops:o.op.operands.toList=parts.toList.map (·.2):=(by simp[hop,Op.operands]);split at h
    ·rename_i e he;split at h
     ·rename_i z p' vs D1 hz h1;split at h
      ·rename_i hcz;split at h
       ·rename_i es hf;split at h
        ·rename_i hdd;simp only[za,zb]at h;obtain⟨rfl,rfl⟩:=h;obtain⟨a1,a2⟩:=zgb parts.toList D _ _ _ (fun e he=>hw' _ (by rw[hops];exact List.mem_map.2 ⟨e,he,rfl⟩)) h1;have hm:∀t,Operand.tmp t∈o.op.operands↔Operand.tmp t∈parts.toList.map (·.2):=fun t=>(by rw[<-hops];simp);refine⟨d,.slc true e z es,D1,hd,rfl,fun t=>?_,fun D2 hs=>?_⟩
         ·rcases a1 t with h1|⟨h1,h2,h3⟩
          ·exact .inl h1
          ·exact .inr ⟨(hm t).2 h1,h2,h3⟩
         ·obtain⟨D3,c2,c3,c4⟩:=a2 D2 (fun t ht=>hs t ((hm t).2 ht));refine⟨D3,?_,fun t ht=>c3 t ((hm t).1 ht),fun t ht=>c4 t (fun e=>ht ((hm t).2 e))⟩;unfold Yq;rw[zb3 (fun t ht=>hs t (by simpa using ht)),hw,if_pos rfl];simp only[hg,hop,hd,zdx,he,hz,c2];rw[if_pos hcz,hf];dsimp only;rw[if_pos hdd]
        ·cases h
       ·cases h
      ·cases h
     ·cases h
    ·cases h
   ·cases h
 ·cases h
end
def NR(PS:List Nat)(D:Env):Prop:=∀s∈PS,∀t ver,(D t).a.refs=some (s,ver)->D.own s ver=none
def Kk(PS:List Nat)(D':Env)(o:Oper):Prop:=∀d,o.dst=some d->∀s ver,(D' d).a.refs=some (s,ver)->s∉PS
def za8(PS:List Nat)(D:Env)(o:Oper):Prop:=o.guard=none/\∀t,Operand.tmp t∈o.op.operands->(∀s v,(D t).a.refs=some (s,v)->s+800∉PS)/\∀x,(D t).a=.val x->x.owned=true->t+800∉PS
def zpo(C:Ctx)(PS:List Nat)(D:Env)(o:Oper):Prop:=∃args ats tx ty t t' s ver i q r z,o.guard=none/\o.op=.call ⟨.builtin .append,args,ats⟩/\args.toList=[.tmp tx,.tmp ty]/\ats.toList=[t,t']/\(∀e,ul C.P t=some e->zcm C.P e=true)/\
 (D tx).a=.rf s ver (i::q)/\D.own s ver=some r/\(∀fs,r≠.tup fs)/\s≠ty/\(D ty).a=.val z/\s+800∈PS
def zlP(PS:List Nat)(D:Env)(o:Oper):Prop:=∃t tx tv s ver p r y,o.guard=none/\o.dst=none/\o.op=.store t (.tmp tx) (.tmp tv)/\((D tx).a=.ad s ver p\/(D tx).a=.rf s ver p\/(tx=s/\p=[]))/\D.own s ver=some r/\s+800∈PS/\(D tv).a=.val y/\y.owned=false
def zr8(C:Ctx)(PS:List Nat)(D:Env)(o:Oper):Prop:=zpo C PS D o\/zlP PS D o
def zcj(C:Ctx)(PS:List Nat)(D:Env)(o:Oper):Prop:=∃k args ats j c x gx s ver d,o.guard=none/\o.op=.call ⟨.value (.func k),args,ats⟩/\o.dst=some d/\C.Ψ k=some (j,false,c)/\zaG (j%1000) args.toList=some (.tmp x)/\opd C.P D 0 (.tmp x)=some (gx,.rf s ver [])/\s+800∈PS/\
 ∀t,Operand.tmp t∈jl (j%1000) args.toList->∃z,(D t).a=.val z
def ze6(C:Ctx)(PS:List Nat)(D:Env)(o:Oper)(p:Prop)(D':Env):Prop:=∃l:List Nat,(l=[]\/C.st=false)/\(∀t∈l,t+800∈PS/\Operand.tmp t∈o.op.operands)/\YN C (YE D l) o=some (p,D')/\zcj C PS (YE D l) o
def ZX(PS:List Nat)(o:Oper):Bool:=match o.dst with
 |some d=>PS.contains (d+800)
 |none=>PS.contains 998
def zdZ(C:Ctx)(ops:Array Oper)(PS:List Nat)(t:Bool)(D:Env)(o:Oper)(p:Prop)(D':Env):Prop:=
 (t=true/\((qH C ops D o=some (p,D')/\Kk PS D' o)\/(qQ C D o=some (p,D')/\∀x,o.op=.assign x->∀d,o.dst=some d->d∉PS)\/zfz C D o=some (p,D')\/zeJ C ops D o=some (p,D')\/ze6 C PS D o p D')/\(ZX PS o=true->(qQ C D o=some (p,D')/\zr8 C PS D o)\/ze6 C PS D o p D'))\/
 (t=false/\∃d,o.dst=some d/\(D d).owner=false/\((qH C ops D o=some (p,D')/\Kk PS D' o)\/Yq C PS D o=some (p,D'))/\(ZX PS o=true->za8 PS D o/\qH C ops D o=some (p,D')/\Kk PS D' o))
section
variable {C:Ctx}{F:Nat->Prop}{O:Nat->Nat->Prop}{Z:Nat->Prop}{D D' D'':Env}{a:Act}{w w':World}{ops:Array Oper}{PS:List Nat}
theorem zvn(hC:Yy C)(hIO:IOk C){t:Bool}{o:Oper}{i:Nat}(hi:ops[i]? =some o){p:Prop}(h:zdZ C ops PS t D o p D')(hp:p){Q:Exit->Act->World->Prop}(hG:G C D a w):wpOp C.P ops Q i (G C D') a w:=by
 obtain⟨F,O,hI⟩:=hG;rcases h with⟨_,⟨h,_⟩|⟨h,_⟩|h|h|h,_⟩|⟨_,d,_,_,⟨h,_⟩|h,_⟩
 ·exact Qy hC hI hi h hp
 ·exact zh1 hI hi h hp
 ·obtain⟨hg,hw⟩:=zmD hIO hI h hp (Q:=Q);unfold wpOp;rw[hi];dsimp only;rw[show Region.wanted o (yielded ops a.tmps)=true from by unfold Region.wanted;rw[hg]];exact .inl hw
 ·unfold zeJ at h;split at h
  ·split at h
   ·rename_i hl;split at h
    ·rename_i hy;simp only[za,zb]at h;obtain⟨rfl,rfl⟩:=h;refine wpOp_mono (fun a' w' hG'=>?_) (Qy hC hI hi hl hp.1);obtain⟨F',O',hI'⟩:=hG';exact hI'.frzG hp.2 hy
    ·cases h
   ·cases h
  ·cases h
 ·obtain⟨l,hl,_,h,_⟩:=h;obtain⟨F',O',hI'⟩:=FzR.g ⟨l,hl,rfl⟩ (⟨F,O,hI⟩:G C D a w);obtain⟨hg,hw⟩:=zid hIO hI' h hp (Q:=Q);unfold wpOp;rw[hi];dsimp only;rw[show Region.wanted o (yielded ops a.tmps)=true from by unfold Region.wanted;rw[hg]];exact .inl hw
 ·exact Qy hC hI hi h hp
 ·obtain⟨hg,hw⟩:=zvy hI h hp (Q:=Q);unfold wpOp;rw[hi];dsimp only;rw[show Region.wanted o (yielded ops a.tmps)=true from by unfold Region.wanted;rw[hg]];exact .inl hw
def ui(D D':Env):Prop:=∀s,(D s).ver<=(D' s).ver/\∀ver y,D'.own s ver=some y->(∃z,D.own s ver=some z)\/(D s).ver<ver
theorem ui.refl:ui D D:=fun _=>⟨zw _,fun _ y h=>.inl ⟨y,h⟩⟩
theorem ui.trans(h:ui D D')(h':ui D' D''):ui D D'':=fun s=>⟨je (h s).1 (h' s).1,fun ver y hy=>by
 rcases (h' s).2 ver y hy with⟨z,hz⟩|h1
 ·exact(h s).2 ver z hz
 ·exact .inr (Nat.lt_of_le_of_lt (h s).1 h1)⟩
theorem ui.at(d:Nat)(h:∀s,s≠d->D' s=D s)(hd:(D d).ver<=(D' d).ver)(ho:∀ver y,D'.own d ver=some y->(∃z,D.own d ver=some z)\/(D d).ver<ver):ui D D':=fun s=>by
 by_cases hs:s=d
 ·subst hs;exact⟨hd,ho⟩
 ·have e:=h s hs;refine⟨by rw[e];exact zw _,fun ver y hy=>.inl ⟨y,?_⟩⟩;unfold Env.own at hy ⊢;rw[<-e];exact hy
theorem ui.drp{d:Nat}:ui D (D.drp d):=by
 refine ui.at d (fun s hs=>by simp[Env.drp,hs]) (by simp[Env.drp]) (fun ver y hy=>?_);rw[Env.own_drp_eq]at hy;cases hy
theorem ui.put{d:Nat}{g:Bool}{A:A}:ui D (D.put d g A):=by
 refine ui.at d (fun s hs=>by simp[Env.put,hs]) (by simp[Env.put]) (fun ver y hy=>.inr ?_);have:=(Env.own_elim hy).2.1;simp only[Env.put,if_true]at this;omega
theorem ui.bmp{d:Nat}{x:V}:ui D (D.bmp d x):=by
 refine ui.at d (fun s hs=>by simp[Env.bmp,hs]) (by simp[Env.bmp]) (fun ver y hy=>.inr ?_);have:=(Env.own_elim hy).2.1;simp only[Env.bmp,if_true]at this;omega
theorem ui.mod{d v0:Nat}{x r:V}(h:D.own d v0=some r):ui D (D.mod d x):=by
 refine ui.at d (fun s hs=>by simp[Env.mod,hs]) (by simp[Env.mod]) (fun ver y hy=>.inl ⟨r,?_⟩);have h1:=(Env.own_elim hy).2.1;simp only[Env.mod,if_true]at h1;have h2:=(Env.own_elim h).2.1;rw[<-h1,h2];exact h
mutual
theorem zmH{s ver:Nat}:∀(x:V) (p:List Nat) (D D':Env) (q:Prop) (y:V),qR s ver x p D=some (q,y,D')->ui D D'
 | .agg fs,p,D,D',q,y,h=>by
   simp only[qR]at h;split at h
   ·rename_i q1 vs D1 h1;simp only[za,zb]at h;obtain⟨_,_,rfl⟩:=h;exact zkS fs p 0 D _ _ _ h1
   ·cases h
 | .slc true e d es,p,D,D',q,y,h=>by
   simp only[qR]at h;split at h
   ·rename_i hr;simp only[za,zb]at h;obtain⟨_,_,rfl⟩:=h;exact .mod hr
   ·cases h
 | .slc false e d es,p,D,D',q,y,h=>by
   simp only[qR]at h;split at h
   ·cases h
   ·simp only[za,zb]at h;obtain⟨_,_,rfl⟩:=h;exact .refl
 | .box e c,p,D,D',q,y,h=>by
   simp only[qR]at h;split at h
   ·rename_i hr;simp only[za,zb]at h;obtain⟨_,_,rfl⟩:=h;exact .mod hr
   ·cases h
 | .int _ _,p,D,D',q,y,h=>by
   simp only[qR]at h;split at h
   ·cases h
   ·simp only[za,zb]at h;obtain⟨_,_,rfl⟩:=h;exact .refl
 | .bool _,p,D,D',q,y,h=>by
   simp only[qR]at h;split at h
   ·cases h
   ·simp only[za,zb]at h;obtain⟨_,_,rfl⟩:=h;exact .refl
 | .str _,p,D,D',q,y,h=>by
   simp only[qR]at h;split at h
   ·cases h
   ·simp only[za,zb]at h;obtain⟨_,_,rfl⟩:=h;exact .refl
 | .tup _,p,D,D',q,y,h=>by
   simp only[qR]at h;split at h
   ·cases h
   ·simp only[za,zb]at h;obtain⟨_,_,rfl⟩:=h;exact .refl
 | .fn _ _,p,D,D',q,y,h=>by
   simp only[qR]at h;split at h
   ·cases h
   ·simp only[za,zb]at h;obtain⟨_,_,rfl⟩:=h;exact .refl
 | .hole _,p,D,D',q,y,h=>by
   simp only[qR]at h;split at h
   ·cases h
   ·simp only[za,zb]at h;obtain⟨_,_,rfl⟩:=h;exact .refl
theorem zkS{s ver:Nat}:∀(fs:List V) (p:List Nat) (i:Nat) (D D':Env) (q:Prop) (ys:List V),ZY s ver fs p i D=some (q,ys,D')->ui D D'
 |[],p,i,D,D',q,ys,h=>by
  simp only[ZY,za,zb]at h;obtain⟨_,_,rfl⟩:=h;exact .refl
 |x::xs,p,i,D,D',q,ys,h=>by
  simp only[ZY]at h;split at h
  ·rename_i q1 v D1 h1;split at h
   ·rename_i q2 vs D2 h2;simp only[za,zb]at h;obtain⟨_,_,rfl⟩:=h;exact(zmH x _ D D1 _ _ h1).trans (zkS xs p _ D1 _ _ _ h2)
   ·cases h
  ·cases h
end
theorem zao{A:A}{q:Prop}{x:V}(h:ju D A=some (q,x,D')):ui D D':=by
 unfold ju at h;split at h
 ·simp only[za,zb]at h;obtain⟨_,_,rfl⟩:=h;exact .refl
 ·split at h
  ·rename_i hr;split at h
   ·simp only[za,zb]at h;obtain⟨_,_,rfl⟩:=h;exact .drp
   ·split at h
    ·split at h
     ·simp only[za,zb]at h;obtain⟨_,_,rfl⟩:=h;exact .mod hr
     ·cases h
    ·simp only[za,zb]at h;obtain⟨_,_,rfl⟩:=h;exact .mod hr
  ·cases h
 ·exact zmH _ _ _ _ _ _ h
 ·cases h
theorem NR.step(hn:NR PS D)(hw:Wf D)(hg:ui D D')(hr:∀t s ver,s∈PS->(D' t).a.refs=some (s,ver)->(D t).a.refs=some (s,ver)):NR PS D':=by
 intro s hs t ver h;have h1:=hr t s ver hs h
 cases ho:D'.own s ver with
 |none=>rfl
 |some y=>
  rcases (hg s).2 ver y ho with⟨z,hz⟩|hlt
  ·rw[hn s hs t ver h1]at hz;cases hz
  ·have:=hw t s ver h1;omega
theorem ZB.refKeep(h:ZB D D'):∀t s ver,s∈PS->(D' t).a.refs=some (s,ver)->(D t).a.refs=some (s,ver):=by
 intro t s ver _ hr;rcases (h t).2 with e|e
 ·rw[<-e];exact hr
 ·rw[e]at hr;cases hr
theorem zzG{o:Oper}{p:Prop}(h:qH C ops D o=some (p,D')):∃d g A,o.dst=some d/\D'=D.put d g A:=by
 cases hd:o.dst with
 |none=>unfold qH at h;rw[hd]at h;split at h<;>simp_all
 |some d=>
  rw[zaX hd]at h;split at h
  ·split at h
   ·simp only[za,zb]at h;exact⟨d,_,_,rfl,h.2.symm⟩
   ·cases h
  ·cases h
theorem zj1(hn:NR PS D)(hw:Wf D){o:Oper}{p:Prop}(h:qH C ops D o=some (p,D'))(hr:Kk PS D' o):NR PS D':=by
 obtain⟨d,g,A,hd,rfl⟩:=zzG h;refine hn.step hw .put (fun t s ver hs h=>?_);by_cases ht:t=d
 ·subst ht;exact absurd hs (hr t hd s ver h)
 ·simpa [Env.put,ht]using h
theorem zBd(hn:NR PS D)(hw:Wf D){o:Oper}{p:Prop}(h:qQ C D o=some (p,D'))(hr:∀x,o.op=.assign x->∀d,o.dst=some d->d∉PS):NR PS D':=by
 unfold qQ at h;split at h
 ·cases h
 ·split at h
  ·rename_i x0 d0 hop hd;split at h
   ·rename_i gx A h1;split at h
    ·rename_i q y D1 ht;have g1:=Yp ht;have o1:=zao ht;split at h
     ·split at h
      ·split at h
       ·cases h
       ·rename_i s ver hsd;simp only[za,zb]at h;obtain⟨_,rfl⟩:=h;refine hn.step hw ((o1.trans .put).trans .put) (fun t s' ver' hs' hh=>?_);by_cases hts:t=s
        ·subst hts;simp only[Env.put,if_true,A.refs,za,zb]at hh;rw[<-hh.1]at hs';exact absurd hs' (hr _ hop _ hd)
        ·have h2:((D1.put d0 true (.val y)) t).a.refs=some (s',ver'):=by
          rw[Env.put,if_neg hts]at hh;exact hh
         exact(g1.trans (.putVal (x:=y))).refKeep t s' ver' hs' h2
      ·simp only[za,zb]at h;obtain⟨_,rfl⟩:=h;exact hn.step hw (o1.trans .put) (g1.trans .putVal).refKeep
     ·cases h
    ·cases h
   ·cases h
  ·split at h
   ·split at h
    ·rename_i q y D1 ht;have g1:=Yp ht;have o1:=zao ht;split at h
     ·split at h
      ·rename_i hown;split at h
       ·simp only[za,zb]at h;obtain⟨_,rfl⟩:=h;split
        ·exact hn.step hw (o1.trans (.mod hown)) (g1.trans .mod).refKeep
        ·exact hn.step hw (o1.trans .bmp) (g1.trans .bmp).refKeep
       ·cases h
      ·cases h
     ·split at h
      ·rename_i hown;split at h
       ·split at h
        ·simp only[za,zb]at h;obtain⟨_,rfl⟩:=h;split
         ·exact hn.step hw (o1.trans (.mod hown)) (g1.trans .mod).refKeep
         ·exact hn.step hw (o1.trans .bmp) (g1.trans .bmp).refKeep
        ·cases h
       ·cases h
      ·cases h
     ·cases h
    ·cases h
   ·cases h
  ·split at h
   ·split at h
    ·split at h
     ·split at h
      ·rename_i q e' dd es D1 ht;have g1:=Yp ht;have o1:=zao ht;split at h
       ·split at h
        ·split at h
         ·split at h
          ·split at h
           ·rename_i q2 e2 d2 es3 D2 ht2;simp only[za,zb]at h;obtain⟨_,rfl⟩:=h;exact hn.step hw ((o1.trans (zao ht2)).trans .put) ((g1.trans (Yp ht2)).trans .putVal).refKeep
           ·cases h
          ·simp only[za,zb]at h;obtain⟨_,rfl⟩:=h;exact hn.step hw (o1.trans .put) (g1.trans .putVal).refKeep
         ·cases h
        ·cases h
       ·cases h
      ·cases h
     ·cases h
    ·cases h
   ·cases h
  ·cases h
theorem Foot.grow{o:Oper}{p:Prop}{d:Nat}{v:V}{M:Env}(h:Foot C PS D o p D' d v M):ZB D D'/\ui D D':=by
 have h1:ZB D M:=fun t=>by
  rcases h.off t with e|⟨_,_,e⟩
  ·rw[e];exact⟨zw _,.inl rfl⟩
  ·exact⟨e.2.1,.inr e.1⟩
 have h2:ui D M:=fun t=>by
  rcases h.off t with e|⟨_,_,e⟩
  ·refine⟨by rw[e];exact zw _,fun ver y hy=>.inl ⟨y,?_⟩⟩;unfold Env.own at hy ⊢;rw[<-e];exact hy
  ·refine⟨e.2.1,fun ver y hy=>?_⟩;obtain⟨_,_,h3,h4⟩:=Env.own_iff'.1 hy;rw[e.2.2 y h3]at h4;cases h4
 rw[h.eq];exact⟨h1.trans .putVal,h2.trans .put⟩
theorem zBK(hn:NR PS D)(hw:Wf D){o:Oper}{p:Prop}(h:Yq C PS D o=some (p,D')):NR PS D':=by
 obtain⟨d,v,M,hf⟩:=zbz h;exact hn.step hw hf.grow.2 hf.grow.1.refKeep
theorem zBJ(hw:Wf D){o:Oper}{p:Prop}(h:Yq C PS D o=some (p,D')):Wf D':=by
 obtain⟨d,v,M,hf⟩:=zbz h;exact hf.grow.1.wf hw
theorem zjx{o:Oper}{p:Prop}(h:zfz C D o=some (p,D')):ZB D D'/\ui D D':=by
 unfold zfz at h;split at h
 ·split at h
  ·split at h
   ·split at h
    ·split at h
     ·rename_i ht;split at h
      ·split at h
       ·split at h
        ·cases h
        ·split at h
         ·split at h
          ·simp only[za,zb]at h;obtain⟨_,rfl⟩:=h;exact⟨(Yp ht).trans .putVal,(zao ht).trans .put⟩
          ·cases h
         ·simp only[za,zb]at h;obtain⟨_,rfl⟩:=h;exact⟨Yp ht,zao ht⟩
       ·cases h
      ·cases h
     ·cases h
    ·cases h
   ·cases h
  ·cases h
 ·cases h
theorem zB0{o:Oper}{p:Prop}(h:YN C D o=some (p,D'))(hl:zcj C PS D o):∃s ver d y r r0,o.dst=some d/\s+800∈PS/\D.own s ver=some r0/\D'=(D.mod s y).put d true (.val r):=by
 obtain⟨k,args,ats,j,c,x,gx,s,ver,d,hg,hop,hd,hΨ,hx,hr,hsp,_⟩:=hl;unfold YN at h;simp only[hg,hop,hd,hΨ,hx,hr,KX]at h
 cases hown:D.own s ver with
 |none=>rw[hown]at h;cases h
 |some r0=>
  rw[hown]at h;by_cases hH:r0.isH=true
  ·simp only[hH,if_true]at h;split at h
   ·rename_i pl vs br hlk;split at h
    ·rename_i q2 rr y' hc;by_cases hbr:((br&& !(rr.noFz&&y'.noFz))||(jw j&& !(zbw (.rf s ver [])&&r0.bare)))=true
     ·rw[if_pos hbr]at h;cases h
     ·rw[if_neg hbr]at h;by_cases hdd:C.dst d
      ·rw[if_pos hdd]at h;simp only[za,zb]at h;exact⟨s,ver,d,_,_,r0,hd,hsp,hown,h.2.symm⟩
      ·rw[if_neg hdd]at h;cases h
    ·cases h
   ·cases h
  ·simp only[hH]at h;cases h
theorem zcX:∀(l:List Nat) (D:Env),ZB D (YE D l)/\ui D (YE D l)
 |[],_=>⟨.refl,.refl⟩
 |t::l,D=>by
  simp only[YE];split
  ·obtain⟨h1,h2⟩:=zcX l ((D.drp t).put t true (.val (by assumption:V).frz));exact⟨(ZB.drp.trans .putVal).trans h1,(ui.drp.trans .put).trans h2⟩
  ·exact zcX l D
theorem zgJ:∀(l:List Nat) (D:Env) (t:Nat),YE D l t=D t\/((D t).owner=true/\t∈l)
 |[],_,_=>.inl rfl
 |s::l,D,t=>by
  cases hy:D.own s (D s).ver with
  |some y=>
   simp only[YE,hy];by_cases hts:t=s
   ·subst hts;obtain⟨o1,_,o3,o4⟩:=Env.own_iff'.1 hy;exact .inr ⟨by simp[E.owner,o1,o3,o4],by simp⟩
   ·have e:((D.drp s).put s true (.val y.frz)) t=D t:=(by simp[Env.put,Env.drp,hts]);rcases zgJ l ((D.drp s).put s true (.val y.frz)) t with h|⟨h1,h2⟩
    ·exact .inl (h.trans e)
    ·exact .inr ⟨by rw[<-e];exact h1,zI _ h2⟩
  |none=>
   simp only[YE,hy];rcases zgJ l D t with h|⟨h1,h2⟩
   ·exact .inl h
   ·exact .inr ⟨h1,zI _ h2⟩
theorem zdg{t:Bool}{o:Oper}{p:Prop}(h:zdZ C ops PS t D o p D')(hw:Wf D)(hn:NR PS D):Wf D'/\NR PS D':=by
 rcases h with⟨_,⟨h,h1⟩|⟨h,h1⟩|h|h|h,_⟩|⟨_,d,_,_,⟨h,h1⟩|h,_⟩
 ·exact⟨zeq hw h,zj1 hn hw h h1⟩
 ·exact⟨zsb hw h,zBd hn hw h h1⟩
 ·exact⟨(zjx h).1.wf hw,hn.step hw (zjx h).2 (zjx h).1.refKeep⟩
 ·unfold zeJ at h;split at h
  ·rename_i d hd;split at h
   ·rename_i q D1 hl;split at h
    ·rename_i y hy;simp only[za,zb]at h;obtain⟨_,rfl⟩:=h
     have hr:Kk PS D1 o:=fun d' hd' s ver hr=>by
      rw[hd]at hd';simp only[za]at hd';subst hd';rw[(Env.own_elim hy).2.2]at hr;simp[A.refs]at hr
     have w1:=zeq hw hl;have n1:=zj1 hn hw hl hr;have g1:ZB D1 ((D1.drp d).put d true (.val y.frz)):=ZB.drp.trans .putVal;exact⟨g1.wf w1,n1.step w1 (ui.drp.trans .put) g1.refKeep⟩
    ·cases h
   ·cases h
  ·cases h
 ·obtain⟨l,_,_,h,h1⟩:=h;obtain⟨s,_,d,y,r,r0,_,_,hown,rfl⟩:=zB0 h h1;obtain⟨k1,k2⟩:=zcX l D;have g1:ZB D (((YE D l).mod s y).put d true (.val r)):=k1.trans (ZB.mod.trans .putVal);exact⟨g1.wf hw,hn.step hw (k2.trans ((ui.mod hown).trans .put)) g1.refKeep⟩
 ·exact⟨zeq hw h,zj1 hn hw h h1⟩
 ·exact⟨zBJ hw h,zBK hn hw h⟩
theorem zp0{o:Oper}(h:∀t∈o.looksAt ops,D' t=D t):gd ops D' o=gd ops D o:=by
 unfold gd
 cases hg:o.guard with
 |none=>rfl
 |some jw=>
  obtain⟨j,want⟩:=jw
  cases ht:(ops[j]?).bind (·.dst)with
  |none=>simp[ht]
  |some t=>
   have:D' t=D t:=h t (by
    unfold Oper.looksAt;refine qz.2 (.inr ?_)
    simp[hg,ht])
   simp[ht,this]
theorem zjU{P:Program}{o:Oper}(h:∀t∈o.looksAt ops,D' t=D t){ty:TypeId}{x:Operand}(hx:x∈o.op.operands):opd P D' ty x=opd P D ty x:=by
 cases x with
 |tmp t=>simp only[opd,h t (zaC hx)]
 |_=>rfl
theorem ziH{P:Program}{ty:TypeId}{x:Operand}{g:Bool}{A:A}{s ver:Nat}(h:opd P D ty x=some (g,A))(hr:A.refs=some (s,ver)):x=.tmp s\/∃t,x=.tmp t/\(D t).a.refs=some (s,ver):=by
 cases x with
 |tmp t=>
  simp only[opd]at h
  cases ha:(D t).a with
  |val v=>
   simp only[ha]at h;split at h
   ·simp only[za,zb]at h;obtain⟨_,rfl⟩:=h;simp only[A.refs,za,zb]at hr;exact .inl (by rw[hr.1])
   ·simp only[za,zb]at h;obtain⟨_,rfl⟩:=h;simp[A.refs]at hr
  |_=>
   simp only[ha,za,zb]at h;obtain⟨_,rfl⟩:=h;exact .inr ⟨t,rfl,by rw[ha];exact hr⟩
 |const v=>
  simp only[opd,zP,zb]at h;obtain⟨z,_,_,rfl⟩:=h;simp[A.refs]at hr
 |func f=>
  simp only[opd,za,zb]at h;obtain⟨_,rfl⟩:=h;simp[A.refs]at hr
 |global g=>simp[opd]at h
theorem zaW{o:Oper}{d:Nat}{p:Prop}(hd:o.dst=some d)(h:qH C ops D o=some (p,D')):∃g A,zcG C ops D o=some (p,g,A)/\C.dst d/\D'=D.put d g A:=by
 rw[zaX hd]at h;split at h
 ·rename_i hl;split at h
  ·rename_i hdn;simp only[za,zb]at h;obtain⟨rfl,rfl⟩:=h;exact⟨_,_,hl,hdn,rfl⟩
  ·cases h
 ·cases h
theorem zj0{o:Oper}{d:Nat}{p:Prop}{g:Bool}{A:A}(hd:o.dst=some d)(h:zcG C ops D o=some (p,g,A))(hdn:C.dst d):qH C ops D o=some (p,D.put d g A):=by
 rw[zaX hd,h];dsimp only;rw[if_pos hdn]
theorem kR{o:Oper}{t:Nat}(h:Operand.tmp t∈o.op.operands):t∈o.looksAt ops:=zaC h
theorem zgv{e e':E}(h:e'=e)(ho:e.owner=false):e'.owner=false:=by rw[h];exact ho
def FM(C:Ctx)(ops:Array Oper)(PS:List Nat)(b:Bool)(D:Env)(o:Oper)(p:Prop)(D':Env):Prop:=(b=true/\qH C ops D o=some (p,D')/\Kk PS D' o)\/(b=false/\Yq C PS D o=some (p,D'))
theorem FM.of{o:Oper}{p:Prop}(h:((qH C ops D o=some (p,D')/\Kk PS D' o)\/Yq C PS D o=some (p,D'))/\(ZX PS o=true->za8 PS D o/\qH C ops D o=some (p,D')/\Kk PS D' o)):
 ∃b,FM C ops PS b D o p D'/\(ZX PS o=true->b=true/\za8 PS D o):=by
 cases hl:ZX PS o with
 |true=>exact⟨true,.inl ⟨rfl,(h.2 hl).2⟩,fun _=>⟨rfl,(h.2 hl).1⟩⟩
 |false=>
  rcases h.1 with h1|h1
  ·exact⟨true,.inl ⟨rfl,h1⟩,fun h=>(by cases h)⟩
  ·exact⟨false,.inr ⟨rfl,h1⟩,fun h=>(by cases h)⟩
theorem FM.to{b:Bool}{o:Oper}{p:Prop}(h:FM C ops PS b D o p D')(hl:ZX PS o=true->b=true/\za8 PS D o):
 ((qH C ops D o=some (p,D')/\Kk PS D' o)\/Yq C PS D o=some (p,D'))/\(ZX PS o=true->za8 PS D o/\qH C ops D o=some (p,D')/\Kk PS D' o):=by
 refine⟨?_,fun h1=>?_⟩
 ·rcases h with⟨_,h⟩|⟨_,h⟩
  ·exact .inl h
  ·exact .inr h
 ·obtain⟨h2,h3⟩:=hl h1;rcases h with⟨_,h⟩|⟨h4,_⟩
  ·exact⟨h3,h⟩
  ·rw[h2]at h4;cases h4
theorem FM.off{b:Bool}{o:Oper}{p:Prop}{d:Nat}{L:List Nat}(h:FM C ops PS b D o p D')(hd:o.dst=some d)(hn:d∉L)(hP:∀s∈PS,s∈o.looksAt ops->s∉L):∀t∈L,D' t=D t:=by
 intro t ht;rcases h with⟨_,h,_⟩|⟨_,h⟩
 ·obtain⟨g,A,_,_,rfl⟩:=zaW hd h;have:t≠d:=fun e=>hn (by rw[<-e];exact ht);simp[Env.put,this]
 ·obtain⟨d',v,M,hf⟩:=zbz h;obtain rfl:d'=d:=by have:=hf.dst;rw[hd]at this;simpa using this.symm
  have:t≠d':=fun e=>hn (by rw[<-e];exact ht);rw[hf.eq];simp only[Env.put,this,if_false];rcases hf.off t with e|⟨e1,e2,_⟩
  ·exact e
  ·exact absurd ht (hP t e2 (kR e1))
theorem za8.same{o:Oper}(h:za8 PS D o)(hs:∀t∈o.looksAt ops,D' t=D t):za8 PS D' o:=⟨h.1,fun t ht=>by rw[hs t (kR ht)];exact h.2 t ht⟩
theorem za8.opd{o:Oper}(h:za8 PS D o){P:Program}{ty:TypeId}{x:Operand}{g:Bool}{A':A}(hx:x∈o.op.operands)(ho:Go.Ax.opd P D ty x=some (g,A')){s ver:Nat}(hr:A'.refs=some (s,ver)):s+800∉PS:=by
 rcases ziH ho hr with e|⟨t,e,e'⟩
 ·subst e;have h1:=h.2 s hx;simp only[Go.Ax.opd]at ho
  cases ha:(D s).a with
  |val v=>
   rw[ha]at ho;simp only at ho
   cases hv:v.owned with
   |true=>exact h1.2 v ha hv
   |false=>
    rw[if_neg (by rw[hv];simp)]at ho;simp only[za,zb]at ho;rw[<-ho.2]at hr;simp[A.refs]at hr
  |_=>
   rw[ha]at ho;simp only[za,zb]at ho;rw[<-ho.2]at hr;rw[ha]at h1;exact h1.1 s ver hr
 ·subst e;exact(h.2 t hx).1 s ver e'
theorem zDn{bi bj:Bool}{oi oj:Oper}{di dj:Nat}(hap:oi.apart ops oj=true)(hdi:oi.dst=some di)(hdj:oj.dst=some dj)(hw:Wf D)(hn:NR PS D)
 (hP:∀s∈PS,s∈oi.looksAt ops->s∉oj.looksAt ops) {Di Dij:Env} {pi pj:Prop}
 (hoi:(D di).owner=false) (hi:FM C ops PS bi D oi pi Di)
 (hoj:(Di dj).owner=false) (hj:FM C ops PS bj Di oj pj Dij):
 ∃Dj,FM C ops PS bj D oj pj Dj/\FM C ops PS bi Dj oi pi Dij/\(D dj).owner=false/\(Dj di).owner=false:=by
 obtain⟨a1,a2,a3⟩:=Oper.apart_spec hap;have hne:di≠dj:=fun e=>a2 di hdi (by rw[hdj,e]);have a1':=a1 di hdi;have a3':=a3 dj hdj;rcases hi with⟨rfl,hi,hri⟩|⟨rfl,hi⟩
 ·obtain⟨g,A,hli,hdn,rfl⟩:=zaW hdi hi;rcases hj with⟨rfl,hj,hrj⟩|⟨rfl,hj⟩
  ·obtain⟨Dj,e1,e2,e3,e4,_⟩:=zoL hap hdi hdj hw hoi hi hoj hj;obtain⟨g1,A1,_,_,rfl⟩:=zaW hdj hj;obtain⟨g2,A2,_,_,rfl⟩:=zaW hdj e1;obtain⟨g3,A3,_,_,e5⟩:=zaW hdi e2;refine⟨_,.inl ⟨rfl,e1,fun d hd s ver hr=>?_⟩,.inl ⟨rfl,e2,fun d hd s ver hr=>?_⟩,e3,e4⟩
   ·rw[hdj]at hd;simp only[za]at hd;subst hd;refine hrj dj hdj s ver ?_;rw[e5];simpa [Env.put,Ne.symm hne]using hr
   ·rw[hdi]at hd;simp only[za]at hd;subst hd;refine hri di hdi s ver ?_;simpa [Env.put,hne]using hr
  ·obtain⟨d,v,M,hf⟩:=zbz hj;obtain rfl:d=dj:=(by have:=hf.dst;rw[hdj]at this;simpa using this.symm);have nd:∀t,Operand.tmp t∈oj.op.operands->t≠di:=fun t ht e=>a1' (by rw[<-e];exact kR ht);obtain⟨M2,f1,f2,f3⟩:=hf.same D (fun t ht=>by simp[Env.put,nd t ht]);have hod:(D d).owner=false:=zgv (by simp[Env.put,Ne.symm hne]) hoj
   have agree:∀t∈oi.looksAt ops,(M2.put d true (.val v)) t=D t:=by
    intro t ht;have h1:t≠d:=fun e=>a3' (by rw[<-e];exact ht);simp only[Env.put,h1,if_false];by_cases hto:Operand.tmp t∈oj.op.operands
    ·rw[f2 t hto];rcases hf.off t with e|⟨_,e2,_⟩
     ·rw[e];simp[Env.put,nd t hto]
     ·exact absurd (kR hto) (hP t e2 ht)
    ·exact f3 t hto
   have hl2:zcG C ops (M2.put d true (.val v)) oi=some (pi,g,A):=by
    refine zcV (zp0 agree).symm (fun ty x gx A' s ver y hx ho hr hy=>?_) (fun ty x hx=>(zjU agree (by simpa using hx)).symm) hli;have hxm:x∈oi.op.operands:=(by simpa using hx);by_cases hs:s=d
    ·subst hs;obtain⟨h1,h2,h3,h4⟩:=Env.own_iff'.1 hy;simp[E.owner,h1,h3,h4]at hod
    ·by_cases hsP:Operand.tmp s∈oj.op.operands/\s∈PS
     ·rcases ziH ho hr with e|⟨t,e,e'⟩
      ·subst e;exact absurd (kR hsP.1) (hP s hsP.2 (kR hxm))
      ·rw[hn s hsP.2 t ver e']at hy;cases hy
     ·have:(M2.put d true (.val v)) s=D s:=by
       simp only[Env.put,hs,if_false];by_cases hto:Operand.tmp s∈oj.op.operands
       ·rw[f2 s hto];rcases hf.off s with e|⟨e1,e2,_⟩
        ·rw[e];simp[Env.put,nd s hto]
        ·exact absurd ⟨e1,e2⟩ hsP
       ·exact f3 s hto
      unfold Env.own at hy ⊢;rw[this];exact hy
   have hfin:Dij=(M2.put d true (.val v)).put di g A:=by
    rw[hf.eq]
    funext t
    have hM:∀t,t≠di->M2 t=M t:=by
     intro t ht;by_cases hto:Operand.tmp t∈oj.op.operands
     ·exact f2 t hto
     ·rw[f3 t hto];rcases hf.off t with e|⟨e,_⟩
      ·rw[e];simp[Env.put,ht]
      ·exact absurd e hto
    have hdo:Operand.tmp di∉oj.op.operands:=fun h=>nd di h rfl
    have hMi:M di=(D.put di g A) di:=by
     rcases hf.off di with e|⟨e,_⟩
     ·exact e
     ·exact absurd e hdo
    by_cases h1:t=di
    ·subst h1;simp only[Env.put,hne,if_false,if_true,hMi,f3 t hdo]
    ·by_cases h2:t=d
     ·subst h2;simp only[Env.put,h1,if_false,if_true,hM t h1]
     ·simp only[Env.put,h1,h2,if_false,hM t h1]
   refine⟨_,.inr ⟨rfl,f1⟩,.inl ⟨rfl,by rw[hfin];exact zj0 hdi hl2 hdn,fun e he s ver hr=>?_⟩,hod,?_⟩
   ·rw[hdi]at he;simp only[za]at he;subst he;refine hri di hdi s ver ?_;rw[hfin]at hr;simpa [Env.put]using hr
   ·have hdo:Operand.tmp di∉oj.op.operands:=fun h=>nd di h rfl;refine zgv ?_ hoi;simp only[Env.put,hne,if_false];exact f3 di hdo
 ·obtain⟨d,v,M,hf⟩:=zbz hi;obtain rfl:d=di:=by have:=hf.dst;rw[hdi]at this;simpa using this.symm
  have ndj:Operand.tmp dj∉oi.op.operands:=fun h=>a3' (kR h)
  have hMj:M dj=D dj:=by
   rcases hf.off dj with e|⟨e,_⟩
   ·exact e
   ·exact absurd e ndj
  have hod:(D dj).owner=false:=by
   rw[hf.eq]at hoj;refine zgv ?_ hoj;simp only[Env.put,Ne.symm hne,if_false,hMj]
  have agree:∀t∈oj.looksAt ops,Di t=D t:=by
   intro t ht;have h1:t≠d:=fun e=>a1' (by rw[<-e];exact ht);rw[hf.eq];simp only[Env.put,h1,if_false];rcases hf.off t with e|⟨e1,e2,_⟩
   ·exact e
   ·exact absurd ht (hP t e2 (kR e1))
  rcases hj with⟨rfl,hj,hrj⟩|⟨rfl,hj⟩
  ·obtain⟨g,B,hlj,hdn,rfl⟩:=zaW hdj hj
   have hl2:zcG C ops D oj=some (pj,g,B):=by
    refine zcV (zp0 agree) (fun ty x gx A' s ver y hx ho hr hy=>?_) (fun ty x hx=>zjU agree (by simpa using hx)) hlj;have ho':opd C.P D ty x=some (gx,A'):=(by rw[<-zjU agree (by simpa using hx)];exact ho);rcases (hf.grow.2 s).2 ver y hy with⟨z,hz⟩|hlt
    ·by_cases hs:s=d
     ·subst hs;have h1:=ZH hw ho' _ _ hr;have h2:=(Env.own_elim hy).2.1;rw[hf.eq]at h2;simp only[Env.put,if_true]at h2
      have h3:(D s).ver<=(M s).ver:=by
       rcases hf.off s with e|⟨_,_,e⟩
       ·rw[e];exact zw _
       ·exact e.2.1
      omega
     ·have:Di s=M s:=(by rw[hf.eq];simp[Env.put,hs]);rcases hf.off s with e|⟨_,_,e⟩
      ·unfold Env.own at hy ⊢;rw[this,e]at hy;exact hy
      ·obtain⟨_,_,h3,h4⟩:=Env.own_iff'.1 hy;rw[this]at h3;rw[e.2.2 y h3]at h4;cases h4
    ·have h1:=ZH hw ho' _ _ hr;omega
   obtain⟨M2,f1,f2,f3⟩:=hf.same (D.put dj g B) (fun t ht=>by
    have:t≠dj:=fun e=>ndj (by rw[<-e];exact ht)
    simp[Env.put,this])
   have hfin:Di.put dj g B=M2.put d true (.val v):=by
    rw[hf.eq]
    funext t
    have hM:∀t,t≠dj->M2 t=M t:=by
     intro t ht;by_cases hto:Operand.tmp t∈oi.op.operands
     ·exact f2 t hto
     ·rw[f3 t hto];rcases hf.off t with e|⟨e,_⟩
      ·rw[e];simp[Env.put,ht]
      ·exact absurd e hto
    by_cases h1:t=dj
    ·subst h1;simp only[Env.put,Ne.symm hne,if_false,if_true,hMj,f3 t ndj]
    ·by_cases h2:t=d
     ·subst h2;simp only[Env.put,h1,if_false,if_true,hM t h1]
     ·simp only[Env.put,h1,h2,if_false,hM t h1]
   refine⟨D.put dj g B,.inl ⟨rfl,zj0 hdj hl2 hdn,fun e he s ver hr=>?_⟩,.inr ⟨rfl,by rw[hfin];exact f1⟩,hod,?_⟩
   ·rw[hdj]at he;simp only[za]at he;subst he;refine hrj dj hdj s ver ?_;simpa [Env.put]using hr
   ·refine zgv ?_ hoi;simp[Env.put,hne]
  ·obtain⟨d',v',M',hf'⟩:=zbz hj;obtain rfl:d'=dj:=(by have:=hf'.dst;rw[hdj]at this;simpa using this.symm);obtain⟨M3,f1,f2,f3⟩:=hf'.same D (fun t ht=>(agree t (kR ht)).symm);have nd:Operand.tmp d∉oj.op.operands:=fun h=>a1' (kR h)
   have agree2:∀t,Operand.tmp t∈oi.op.operands->(M3.put d' true (.val v')) t=D t:=by
    intro t ht;have h1:t≠d':=fun e=>ndj (by rw[<-e];exact ht);simp only[Env.put,h1,if_false];by_cases hto:Operand.tmp t∈oj.op.operands
    ·rw[f2 t hto];rcases hf'.off t with e|⟨_,e2,_⟩
     ·rw[e];exact agree t (kR hto)
     ·exact absurd (kR hto) (hP t e2 (kR ht))
    ·exact f3 t hto
   obtain⟨M4,k1,k2,k3⟩:=hf.same _ agree2
   have hfin:Dij=M4.put d true (.val v):=by
    rw[hf'.eq]
    funext t
    have c1:Operand.tmp t∉oj.op.operands->M' t=Di t:=fun h=>by
     rcases hf'.off t with e|⟨e,_⟩
     ·exact e
     ·exact absurd e h
    have c2:Operand.tmp t∉oi.op.operands->M t=D t:=fun h=>by
     rcases hf.off t with e|⟨e,_⟩
     ·exact e
     ·exact absurd e h
    by_cases h1:t=d
    ·subst h1;have e1:M' t=(M.put t true (.val v)) t:=by rw[c1 nd,hf.eq]
     have e2:(M4 t).ver=(M t).ver:=by
      by_cases hto:Operand.tmp t∈oi.op.operands
      ·rw[k2 t hto]
      ·rw[k3 t hto,c2 hto];simp only[Env.put,hne,if_false,f3 t nd]
     simp only[Env.put,hne,if_false,if_true,e1,e2]
    ·by_cases h2:t=d'
     ·subst h2;have e1:M4 t=(M3.put t true (.val v')) t:=k3 t ndj
      have e2:(M3 t).ver=(M' t).ver:=by
       by_cases hto:Operand.tmp t∈oj.op.operands
       ·rw[f2 t hto]
       ·rw[f3 t hto,c1 hto,hf.eq];simp only[Env.put,h1,if_false,hMj]
      simp only[Env.put,h1,if_false,if_true,e1,e2]
     ·simp only[Env.put,h1,h2,if_false];have e0:Di t=M t:=(by rw[hf.eq];simp[Env.put,h1]);by_cases hti:Operand.tmp t∈oi.op.operands
      ·rw[k2 t hti];by_cases htj:Operand.tmp t∈oj.op.operands
       ·have e3:=agree t (kR htj);rcases hf'.off t with e|⟨_,e2,_⟩
        ·rw[e,e0]
        ·exact absurd (kR htj) (hP t e2 (kR hti))
       ·rw[c1 htj,e0]
      ·rw[k3 t hti];simp only[Env.put,h2,if_false];by_cases htj:Operand.tmp t∈oj.op.operands
       ·rw[f2 t htj]
       ·rw[f3 t htj,c1 htj,e0,c2 hti]
   refine⟨_,.inr ⟨rfl,f1⟩,.inr ⟨rfl,by rw[hfin];exact k1⟩,hod,?_⟩;refine zgv ?_ hoi;simp only[Env.put,hne,if_false];exact f3 d nd
theorem Env.put_mod{d s:Nat}{g:Bool}{A:Go.Ax.A}{x:V}(h:s≠d):(D.put d g A).mod s x=(D.mod s x).put d g A:=by
 funext t
 by_cases h1:t=d
 ·subst h1;simp[Env.put,Env.mod,Ne.symm h]
 ·by_cases h2:t=s
  ·subst h2;simp[Env.put,Env.mod,h1]
  ·simp[Env.put,Env.mod,h1,h2]
theorem Env.put_put{d e:Nat}{g g':Bool}{A B:Go.Ax.A}(h:d≠e):(D.put d g A).put e g' B=(D.put e g' B).put d g A:=by
 funext t
 by_cases h1:t=d
 ·subst h1;simp[Env.put,h]
 ·by_cases h2:t=e
  ·subst h2;simp[Env.put,h1]
  ·simp[Env.put,h1,h2]
theorem zsS{P:Program}{M:Env}{ty:TypeId}{t:Nat}(h:D t=M t):opd P D ty (.tmp t)=opd P M ty (.tmp t):=by simp only[opd,h]
theorem zDZ{M:Env}{P:Program}{ty:TypeId}{t:Nat}{z:V}{g:Bool}{B:A}(h:D t=M t)(hz:(D t).a=.val z)(ho:opd P D ty (.tmp t)=some (g,B)):B.look D=B.look M/\B.okA D=B.okA M:=by
 simp only[opd,hz]at ho;split at ho
 ·simp only[za,zb]at ho;obtain⟨_,rfl⟩:=ho;have e:D.own t (D t).ver=M.own t (D t).ver:=by unfold Env.own;rw[h]
  exact⟨by simp only[A.look,e],by simp only[A.okA,e]⟩
 ·simp only[za,zb]at ho;obtain⟨_,rfl⟩:=ho;exact⟨rfl,rfl⟩
theorem zyr{oj:Oper}{di dj:Nat}{g:Bool}{A:A}{pj:Prop}{Dij:Env}(hw:Wf D)(hdj:oj.dst=some dj)(hne:di≠dj)(hdo:∀t,Operand.tmp t∈oj.op.operands->t≠di)
 (hj:qQ C (D.put di g A) oj=some (pj,Dij)) (hl:zpo C PS (D.put di g A) oj):
 ∃Dj,qQ C D oj=some (pj,Dj)/\zpo C PS D oj/\Dij=Dj.put di g A/\(∀t,t≠dj->((D t).owner=true/\t+800∈PS)\/Dj t=D t):=by
 obtain⟨args,ats,tx,ty,t,t',s,ver,i,q,r,z,hg,hop,hargs,hats,hsc,hx,hown,hr,hsy,hz,hsp⟩:=hl
 have mem:∀x,x∈args.toList->x∈oj.op.operands:=fun x hx=>by
  rw[hop];simpa [Op.operands,Call.operands]using hx
 have htx:tx≠di:=hdo tx (mem _ (by rw[hargs];simp));have hty:ty≠di:=hdo ty (mem _ (by rw[hargs];simp));have ex:(D.put di g A) tx=D tx:=by simp[Env.put,htx]
 have ey:(D.put di g A) ty=D ty:=by simp[Env.put,hty]
 have hs:s≠di:=by
  intro e;subst e;rw[ex]at hx;have h1:=hw tx s ver (by rw[hx];rfl);rw[Env.own_put_eq h1]at hown;cases hown
 have hx':(D tx).a=.rf s ver (i::q):=by rw[<-ex];exact hx
 have hz':(D ty).a=.val z:=by rw[<-ey];exact hz
 have hown':D.own s ver=some r:=by rw[Env.own_put_ne hs]at hown;exact hown
 have tk:∀M:Env,M.own s ver=some r->ju M (.rf s ver (i::q))=some (r.okm (i::q)/\(r.at (i::q)).isH=true,r.at (i::q),M.mod s (r.upd (i::q) (.hole 1))):=by
  intro M hM;simp only[ju,hM]
 have hL:zpo C PS D oj:=⟨args,ats,tx,ty,t,t',s,ver,i,q,r,z,hg,hop,hargs,hats,hsc,hx',hown',hr,hsy,hz',hsp⟩
 have ox:∀M:Env,M tx=D tx->opd C.P M t (.tmp tx)=some ((D tx).g,.rf s ver (i::q)):=by
  intro M hM;simp only[opd,hM,hx']
 obtain⟨r',hr'⟩:∃r',r'=r.upd (i::q) (.hole 1):=⟨_,rfl⟩;have em:((D.put di g A).mod s r') ty=(D.mod s r') ty:=by rw[Env.put_mod hs];simp[Env.put,hty]
 have ez:((D.put di g A).mod s r' ty).a=.val z:=by rw[em];simp[Env.mod,Ne.symm hsy,hz']
 unfold qQ at hj ⊢;simp only[hg,hop,hdj,hargs,hats]at hj ⊢;rw[ox _ ex]at hj;split at hj
 ·rename_i htt;split at hj
  ·rename_i e gx B he hB;simp only[za,zb]at hB;obtain⟨rfl,rfl⟩:=hB;rw[tk _ hown,<-hr']at hj;split at hj
   ·rename_i qq e' dd es D1 hm;simp only[za,zb]at hm;obtain⟨hq,hat,rfl⟩:=hm;split at hj
    ·rename_i gy B hB;obtain⟨hlk,hok⟩:=zDZ em ez hB;split at hj
     ·rename_i zz oy ey d2 es2 hz0 hlo;split at hj
      ·rename_i hc;have hns:¬(oy&& !zcm C.P e)=true:=(by rw[hsc e he];simp);rw[if_neg hns]at hj;simp only[za,zb]at hj;obtain⟨hpj,rfl⟩:=hj;have hB':opd C.P (D.mod s r') t (.tmp ty)=some (gy,B):=(by rw[<-zsS em];exact hB);refine⟨(D.mod s r').put dj true (.val (.slc true e dd (es++es2))),?_,hL,?_,fun u hu=>?_⟩
       ·rw[if_pos htt];simp only[he,ox D rfl,tk D hown',hat,<-hr',hB',hz0,<-hlk,hlo];rw[if_pos hc,if_neg hns,<-hpj,<-hok,<-hq,hat]
       ·rw[Env.put_mod hs,Env.put_put hne]
       ·by_cases hus:u=s
        ·obtain⟨h1,_,h3,h4⟩:=Env.own_iff'.1 hown';exact .inl ⟨by rw[hus];simp[E.owner,h1,h3,h4],by rw[hus];exact hsp⟩
        ·exact .inr (by simp[Env.put,Env.mod,hu,hus])
      ·cases hj
     ·cases hj
    ·cases hj
   ·cases hj
  ·cases hj
 ·cases hj
theorem Env.put_bmp{d s:Nat}{g:Bool}{A:Go.Ax.A}{x:V}(h:s≠d):(D.put d g A).bmp s x=(D.bmp s x).put d g A:=by
 funext t
 by_cases h1:t=d
 ·subst h1;simp[Env.put,Env.bmp,Ne.symm h]
 ·by_cases h2:t=s
  ·subst h2;simp[Env.put,Env.bmp,h1]
  ·simp[Env.put,Env.bmp,h1,h2]
theorem zys{oj:Oper}{di:Nat}{g:Bool}{A:A}{pj:Prop}{Dij:Env}(hw:Wf D)(hdo:∀t,Operand.tmp t∈oj.op.operands->t≠di)
 (hj:qQ C (D.put di g A) oj=some (pj,Dij)) (hl:zlP PS (D.put di g A) oj):
 ∃Dj,qQ C D oj=some (pj,Dj)/\zlP PS D oj/\Dij=Dj.put di g A/\(∀t,((D t).owner=true/\t+800∈PS)\/Dj t=D t):=by
 obtain⟨t,tx,tv,s,ver,p,r,y,hg,hdn,hop,hx,hown,hsp,hy,hyo⟩:=hl;have htx:tx≠di:=hdo tx (by rw[hop];simp[Op.operands]);have htv:tv≠di:=hdo tv (by rw[hop];simp[Op.operands]);have ex:(D.put di g A) tx=D tx:=by simp[Env.put,htx]
 have ev:(D.put di g A) tv=D tv:=by simp[Env.put,htv]
 have hs:s≠di:=by
  intro e;subst e;rw[ex]at hx
  have h1:ver<=(D s).ver:=by
   rcases hx with hx|hx|hx
   ·exact hw tx s ver (by rw[hx];rfl)
   ·exact hw tx s ver (by rw[hx];rfl)
   ·exact absurd hx.1 htx
  rw[Env.own_put_eq h1]at hown;cases hown
 rw[ex]at hx;rw[ev]at hy;have hown':D.own s ver=some r:=by rw[Env.own_put_ne hs]at hown;exact hown
 have hL:zlP PS D oj:=⟨t,tx,tv,s,ver,p,r,y,hg,hdn,hop,hx,hown',hsp,hy,hyo⟩;obtain⟨o1,_,o3,o4⟩:=Env.own_iff'.1 hown';have hso:(D s).owner=true:=by simp[E.owner,o1,o3,o4]
 have ov:∀M:Env,M tv=D tv->opd C.P M t (.tmp tv)=some ((D tv).g,.val y):=by
  intro M hM;simp only[opd,hM,hy];rw[if_neg (by rw[hyo];simp)]
 have mk:∀r':V,(∀t,((D t).owner=true/\t+800∈PS)\/(D.mod s r') t=D t)/\(∀t,((D t).owner=true/\t+800∈PS)\/(D.bmp s r') t=D t):=by
  intro r';refine⟨fun u=>?_,fun u=>?_⟩
  ·by_cases hu:u=s
   ·exact .inl ⟨by rw[hu];exact hso,by rw[hu];exact hsp⟩
   ·exact .inr (by simp[Env.mod,hu])
  ·by_cases hu:u=s
   ·exact .inl ⟨by rw[hu];exact hso,by rw[hu];exact hsp⟩
   ·exact .inr (by simp[Env.bmp,hu])
 unfold qQ at hj ⊢;simp only[hg,hop,hdn]at hj ⊢;rw[ov _ ev]at hj;rw[ov _ rfl];simp only[ju]at hj ⊢
 have hx':(D tx).a=.ad s ver p\/∀M:Env,M tx=D tx->opd C.P M 0 (.tmp tx)=some ((D tx).g,.rf s ver p):=by
  rcases hx with hx|hx|⟨rfl,rfl⟩
  ·exact .inl hx
  ·exact .inr fun M hM=>by simp only[opd,hM,hx]
  ·refine .inr fun M hM=>?_;obtain⟨_,o2,o3,o4⟩:=Env.own_iff'.1 hown';simp only[opd,hM,o3];rw[if_pos o4,o2]
 rcases hx' with hx|ox
 ·have ox:∀M:Env,M tx=D tx->opd C.P M 0 (.tmp tx)=some ((D tx).g,.ad s ver p):=by
   intro M hM;simp only[opd,hM,hx]
  rw[ox _ ex]at hj;rw[ox _ rfl];simp only[hown,hown']at hj ⊢;split at hj
  ·rename_i hc;rw[if_pos hc];simp only[za,zb]at hj;obtain⟨hpj,rfl⟩:=hj;refine⟨_,by rw[hpj],hL,?_,?_⟩
   ·split
    ·exact Env.put_mod hs
    ·exact Env.put_bmp hs
   ·split
    ·exact(mk _).1
    ·exact(mk _).2
  ·cases hj
 ·rw[ox _ ex]at hj;rw[ox _ rfl];simp only[hown,hown']at hj ⊢;split at hj
  ·split at hj
   ·rename_i hc;rw[if_pos hc];simp only[za,zb]at hj;obtain⟨hpj,rfl⟩:=hj;refine⟨_,by rw[hpj],hL,?_,?_⟩
    ·split
     ·exact Env.put_mod hs
     ·exact Env.put_bmp hs
    ·split
     ·exact(mk _).1
     ·exact(mk _).2
   ·cases hj
  ·cases hj
theorem Env.put_drp{d s:Nat}{g:Bool}{A:Go.Ax.A}(h:s≠d):(D.put d g A).drp s=(D.drp s).put d g A:=by
 funext t
 by_cases h1:t=d
 ·subst h1;simp[Env.put,Env.drp,Ne.symm h]
 ·by_cases h2:t=s
  ·subst h2;simp[Env.put,Env.drp,h1]
  ·simp[Env.put,Env.drp,h1,h2]
theorem ze0{α:Type}:∀{j:Nat} {l:List α} {x:α},zaG j l=some x->x∈l
 |_,[],_,h=>by simp[zaG]at h
 |0,y::l,x,h=>by simp only[zaG,za]at h;subst h;simp
 |j+1,y::l,x,h=>by simp only[zaG]at h;exact zI _ (ze0 h)
theorem zdh{α:Type}:∀{j:Nat} {l:List α} {x:α},x∈jl j l->x∈l
 |_,[],_,h=>by simp[jl]at h
 |0,y::l,x,h=>by simp only[jl]at h;exact zI _ h
 |j+1,y::l,x,h=>by
  simp only[jl]at h;rcases zJ.1 h with e|h
  ·rw[e];simp
  ·exact zI _ (zdh h)
theorem zD0{oj:Oper}{di:Nat}{g:Bool}{A:A}{pj:Prop}{Dij:Env}(hw:Wf D)(hne:∀dj,oj.dst=some dj->di≠dj)(hdo:∀t,Operand.tmp t∈oj.op.operands->t≠di)
 (hj:YN C (D.put di g A) oj=some (pj,Dij)) (hl:zcj C PS (D.put di g A) oj):
 ∃Dj,YN C D oj=some (pj,Dj)/\zcj C PS D oj/\Dij=Dj.put di g A/\(∀t,oj.dst≠some t->((D t).owner=true/\t+800∈PS)\/Dj t=D t):=by
 obtain⟨k,args,ats,j,c,x,gx,s,ver,d,hg,hop,hd,hΨ,hx,hr,hsp,hpl⟩:=hl
 have mem:∀x,x∈args.toList->x∈oj.op.operands:=fun x hx=>by
  rw[hop];have:x∈args:=by simpa using hx
  simp[Op.operands,Call.operands,this]
 have hxd:x≠di:=hdo x (mem _ (ze0 hx));have hds:di≠d:=hne d hd;have es:(D.put di g A) x=D x:=by simp[Env.put,hxd]
 have hr':opd C.P D 0 (.tmp x)=some (gx,.rf s ver []):=by rw[<-zsS es];exact hr
 obtain⟨r0,hown0⟩:∃r0,(D.put di g A).own s ver=some r0:=by
  cases ho:(D.put di g A).own s ver with
  |some r0=>exact⟨r0,rfl⟩
  |none=>
   exfalso;unfold YN at hj;simp only[hg,hop,hΨ,hx,hr,KX,ho]at hj;cases hj
 have hs:s≠di:=by
  intro e;subst e;rw[Env.own_put_eq (ZH hw hr' _ _ rfl)]at hown0;cases hown0
 have hown:D.own s ver=some r0:=by rw[Env.own_put_ne hs]at hown0;exact hown0
 have hpl':∀t,Operand.tmp t∈jl (j%1000) args.toList->∃z,(D t).a=.val z:=fun t ht=>by
  obtain⟨z,hz⟩:=hpl t ht;have:t≠di:=hdo t (mem _ (zdh ht));exact⟨z,by simpa [Env.put,this]using hz⟩
 have hL:zcj C PS D oj:=⟨k,args,ats,j,c,x,gx,s,ver,d,hg,hop,hd,hΨ,hx,hr',hsp,hpl'⟩
 have lk:∀{z:Prop×List V×Bool},YM C.P ((D.put di g A).drp s) true (jl (j%1000) args.toList) (jl (j%1000) ats.toList)=some z->YM C.P (D.drp s) true (jl (j%1000) args.toList) (jl (j%1000) ats.toList)=some z:=by
  intro z hz
  have same:∀t,Operand.tmp t∈jl (j%1000) args.toList->((D.put di g A).drp s) t=(D.drp s) t:=fun t ht=>by
   have:t≠di:=hdo t (mem _ (zdh ht));rw[Env.put_drp hs];simp[Env.put,this]
  refine zfI (fun ty x gx A' s' ver y hx ho hrr hy=>?_) (fun ty x hx=>?_) hz
  ·rcases ziH ho hrr with e|⟨t,e,e'⟩
   ·subst e;have:=same s' hx;unfold Env.own at hy ⊢;rw[<-this];exact hy
   ·subst e;exfalso;obtain⟨z,hz⟩:=hpl' t hx;rw[same t hx]at e';by_cases hts:t=s
    ·subst hts;simp[Env.drp,Go.Ax.A.refs]at e'
    ·simp only[Env.drp,hts,if_false,hz,Go.Ax.A.refs]at e';cases e'
  ·cases x with
   |tmp t=>simp only[opd,same t hx]
   |_=>rfl
 unfold YN at hj ⊢;simp only[hg,hop,hd,hΨ,hx,hr,hr',KX,hown0,hown]at hj ⊢;by_cases hH:r0.isH=true
 ·simp only[hH,if_true]at hj ⊢;split at hj
  ·rename_i pl vs br hlk;rw[lk hlk];dsimp only;split at hj
   ·rename_i q2 rr y' hc;try rw[hc]
    try dsimp only
    by_cases hbr:((br&& !(rr.noFz&&y'.noFz))||(jw j&& !(zbw (.rf s ver [])&&r0.bare)))=true
    ·rw[if_pos hbr]at hj;cases hj
    ·rw[if_neg hbr]at hj ⊢;by_cases hdd:C.dst d
     ·rw[if_pos hdd]at hj ⊢;simp only[za,zb]at hj;obtain⟨hp,rfl⟩:=hj;refine⟨_,by rw[hp],hL,?_,fun t ht=>?_⟩
      ·rw[Env.put_mod hs,Env.put_put hds]
      ·by_cases hts:t=s
       ·subst hts;obtain⟨o1,_,o3,o4⟩:=Env.own_iff'.1 hown;exact .inl ⟨by simp[E.owner,o1,o3,o4],hsp⟩
       ·have:t≠d:=fun e=>ht (by rw[e]);exact .inr (by simp[Env.put,Env.mod,hts,this])
     ·rw[if_neg hdd]at hj;cases hj
   ·cases hj
  ·cases hj
 ·simp only[hH]at hj;cases hj
theorem zD4{oj:Oper}{di:Nat}{g:Bool}{A:A}{pj:Prop}{Dj:Env}(hne:∀dj,oj.dst=some dj->di≠dj)(hdo:∀t,Operand.tmp t∈oj.op.operands->t≠di)
 (hsd:∀x s ver gx r,Operand.tmp x∈oj.op.operands->opd C.P D 0 (.tmp x)=some (gx,.rf s ver [])->D.own s ver=some r->s≠di)
 (hj:YN C D oj=some (pj,Dj)) (hl:zcj C PS D oj):
 YN C (D.put di g A) oj=some (pj,Dj.put di g A)/\zcj C PS (D.put di g A) oj:=by
 obtain⟨k,args,ats,j,c,x,gx,s,ver,d,hg,hop,hd,hΨ,hx,hr,hsp,hpl⟩:=hl
 have mem:∀x,x∈args.toList->x∈oj.op.operands:=fun x hx=>by
  rw[hop];have:x∈args:=by simpa using hx
  simp[Op.operands,Call.operands,this]
 have hxd:x≠di:=hdo x (mem _ (ze0 hx));have hds:di≠d:=hne d hd;have es:(D.put di g A) x=D x:=by simp[Env.put,hxd]
 have hr':opd C.P (D.put di g A) 0 (.tmp x)=some (gx,.rf s ver []):=by rw[zsS es];exact hr
 obtain⟨r0,hown⟩:∃r0,D.own s ver=some r0:=by
  cases ho:D.own s ver with
  |some r0=>exact⟨r0,rfl⟩
  |none=>
   exfalso;unfold YN at hj;simp only[hg,hop,hΨ,hx,hr,KX,ho]at hj;cases hj
 have hs:s≠di:=hsd x s ver gx r0 (mem _ (ze0 hx)) hr hown;have hown0:(D.put di g A).own s ver=some r0:=by rw[Env.own_put_ne hs];exact hown
 have hpl':∀t,Operand.tmp t∈jl (j%1000) args.toList->∃z,((D.put di g A) t).a=.val z:=fun t ht=>by
  obtain⟨z,hz⟩:=hpl t ht;have:t≠di:=hdo t (mem _ (zdh ht));exact⟨z,by simpa [Env.put,this]using hz⟩
 have hL:zcj C PS (D.put di g A) oj:=⟨k,args,ats,j,c,x,gx,s,ver,d,hg,hop,hd,hΨ,hx,hr',hsp,hpl'⟩
 have lk:∀{z:Prop×List V×Bool},YM C.P (D.drp s) true (jl (j%1000) args.toList) (jl (j%1000) ats.toList)=some z->YM C.P ((D.put di g A).drp s) true (jl (j%1000) args.toList) (jl (j%1000) ats.toList)=some z:=by
  intro z hz
  have same:∀t,Operand.tmp t∈jl (j%1000) args.toList->((D.put di g A).drp s) t=(D.drp s) t:=fun t ht=>by
   have:t≠di:=hdo t (mem _ (zdh ht));rw[Env.put_drp hs];simp[Env.put,this]
  refine zfI (fun ty x gx A' s' ver y hx ho hrr hy=>?_) (fun ty x hx=>?_) hz
  ·rcases ziH ho hrr with e|⟨t,e,e'⟩
   ·subst e;have:=same s' hx;unfold Env.own at hy ⊢;rw[this];exact hy
   ·subst e;exfalso;obtain⟨z,hz⟩:=hpl t hx;by_cases hts:t=s
    ·subst hts;simp[Env.drp,Go.Ax.A.refs]at e'
    ·simp only[Env.drp,hts,if_false,hz,Go.Ax.A.refs]at e';cases e'
  ·cases x with
   |tmp t=>simp only[opd,same t hx]
   |_=>rfl
 refine⟨?_,hL⟩;unfold YN at hj ⊢;simp only[hg,hop,hd,hΨ,hx,hr,hr',KX,hown0,hown]at hj ⊢;by_cases hH:r0.isH=true
 ·simp only[hH,if_true]at hj ⊢;split at hj
  ·rename_i pl vs br hlk;rw[lk hlk];dsimp only;split at hj
   ·rename_i q2 rr y' hc;try rw[hc]
    try dsimp only
    by_cases hbr:((br&& !(rr.noFz&&y'.noFz))||(jw j&& !(zbw (.rf s ver [])&&r0.bare)))=true
    ·rw[if_pos hbr]at hj;cases hj
    ·rw[if_neg hbr]at hj ⊢;by_cases hdd:C.dst d
     ·rw[if_pos hdd]at hj ⊢;simp only[za,zb]at hj ⊢;obtain⟨hp,rfl⟩:=hj;exact⟨hp,by rw[Env.put_mod hs,Env.put_put hds]⟩
     ·rw[if_neg hdd]at hj;cases hj
   ·cases hj
  ·cases hj
 ·simp only[hH]at hj;cases hj
theorem zzL{o:Oper}{p:Prop}(h:YN C D o=some (p,D'))(hl:zcj C PS D o):∃s ver d y r r0 x gx,o.dst=some d/\Operand.tmp x∈o.op.operands/\opd C.P D 0 (.tmp x)=some (gx,.rf s ver [])/\D.own s ver=some r0/\D'=(D.mod s y).put d true (.val r)/\s+800∈PS:=by
 obtain⟨k,args,ats,j,c,x,gx,s,ver,d,hg,hop,hd,hΨ,hx,hr,hsp,_⟩:=hl
 have mem:Operand.tmp x∈o.op.operands:=by
  rw[hop];have:Operand.tmp x∈args:=by simpa using ze0 hx
  simp[Op.operands,Call.operands,this]
 unfold YN at h;simp only[hg,hop,hd,hΨ,hx,hr,KX]at h
 cases hown:D.own s ver with
 |none=>rw[hown]at h;cases h
 |some r0=>
  rw[hown]at h;by_cases hH:r0.isH=true
  ·simp only[hH,if_true]at h;split at h
   ·rename_i pl vs br hlk;split at h
    ·rename_i q2 rr y' hc;by_cases hbr:((br&& !(rr.noFz&&y'.noFz))||(jw j&& !(zbw (.rf s ver [])&&r0.bare)))=true
     ·rw[if_pos hbr]at h;cases h
     ·rw[if_neg hbr]at h;by_cases hdd:C.dst d
      ·rw[if_pos hdd]at h;simp only[za,zb]at h;exact⟨s,ver,d,_,_,r0,x,gx,hd,mem,hr,hown,h.2.symm,hsp⟩
      ·rw[if_neg hdd]at h;cases h
    ·cases h
   ·cases h
  ·simp only[hH]at h;cases h
def ziN(PS:List Nat):List Operand->Bool
 |[]=>true
 | .tmp t::l=> !PS.contains (t+800)&&ziN PS l
 |_::l=>ziN PS l
theorem zmV{t:Nat}:∀{l:List Operand},ziN PS l=true->Operand.tmp t∈l->t+800∉PS
 |[],_,h=>by cases h
 |x::l,hf,h=>by
  rcases zJ.1 h with e|h
  ·subst e;simp only[ziN,zh,yK,List.contains_eq_mem,decide_eq_false_iff_not]at hf;exact hf.1
  ·refine zmV (l:=l) ?_ h
   cases x<;>simp only[ziN,zh]at hf<;>first|exact hf.2|exact hf
def zoV(PS:List Nat)(x y:Oper):Bool:=match x.op,y.dst with
 | .call ⟨.value (.func _),_,_⟩,some d=>y.guard.isNone&&PS.contains d&&ziN PS y.op.operands.toList
 |_,_=>false
theorem zvJ{x y:Oper}(h:zoV PS x y=true):(∃k args ats,x.op=.call ⟨.value (.func k),args,ats⟩)/\y.guard=none/\(∃d,y.dst=some d/\d∈PS)/\∀t,Operand.tmp t∈y.op.operands->t+800∉PS:=by
 unfold zoV at h;split at h
 ·rename_i h1 h2;simp only[zh,Option.isNone_iff_eq_none,List.contains_iff_mem]at h;exact⟨⟨_,_,_,h1⟩,h.1.1,⟨_,h2,h.1.2⟩,fun t ht=>zmV h.2 (by simpa using ht)⟩
 ·cases h
theorem zj7{di:Nat}{g:Bool}{A:Go.Ax.A}:∀(l:List Nat) (D:Env),(∀t∈l,t≠di)->YE (D.put di g A) l=(YE D l).put di g A
 |[],_,_=>rfl
 |t::l,D,h=>by
  have ht:t≠di:=h t (by simp);have e:(D.put di g A) t=D t:=by simp[Env.put,ht]
  simp only[YE,e,Env.own_put_ne ht];split
  ·rename_i y hy;have:((D.put di g A).drp t).put t true (.val y.frz)=((D.drp t).put t true (.val y.frz)).put di g A:=(by rw[Env.put_drp ht,Env.put_put (Ne.symm ht)]);rw[this,zj7 l _ (fun s hs=>h s (by simp[hs]))]
  ·exact zj7 l D (fun s hs=>h s (by simp[hs]))
theorem zBZ{oj:Oper}{di:Nat}{g:Bool}{A:A}{pj:Prop}{Dij:Env}(hw:Wf D)(hne:∀dj,oj.dst=some dj->di≠dj)(hdo:∀t,Operand.tmp t∈oj.op.operands->t≠di)
 (hj:ze6 C PS (D.put di g A) oj pj Dij):
 ∃Dj,ze6 C PS D oj pj Dj/\Dij=Dj.put di g A/\(∀t,oj.dst≠some t->((D t).owner=true/\t+800∈PS)\/Dj t=D t):=by
 obtain⟨l,h1,h2,h3,h4⟩:=hj;rw[zj7 l D (fun t ht=>hdo t (h2 t ht).2)]at h3 h4;obtain⟨Dj,e1,e2,e3,e4⟩:=zD0 ((zcX l D).1.wf hw) hne hdo h3 h4;refine⟨Dj,⟨l,h1,h2,e1,e2⟩,e3,fun t ht=>?_⟩;rcases zgJ l D t with h|⟨h,h'⟩
 ·rcases e4 t ht with⟨h5,h6⟩|h5
  ·exact .inl ⟨by rw[<-h];exact h5,h6⟩
  ·exact .inr (h5.trans h)
 ·exact .inl ⟨h,(h2 t h').1⟩
theorem zB1{oj:Oper}{di:Nat}{g:Bool}{A:A}{pj:Prop}{Dij:Env}(hw:Wf D)(hne:∀dj,oj.dst=some dj->di≠dj)(hdo:∀t,Operand.tmp t∈oj.op.operands->t≠di)(hlb:ZX PS oj=true)
 (hj:qQ C (D.put di g A) oj=some (pj,Dij)) (hl:zr8 C PS (D.put di g A) oj):
 ∃Dj,qQ C D oj=some (pj,Dj)/\zr8 C PS D oj/\Dij=Dj.put di g A/\(∀t,oj.dst≠some t->((D t).owner=true/\t+800∈PS)\/Dj t=D t):=by
 rcases hl with hl|hl
 ·cases hd:oj.dst with
  |none=>
   exfalso;obtain⟨args,ats,_,_,_,_,_,_,_,_,_,_,hg,hop,hargs,hats,_⟩:=hl;unfold qQ at hj;simp only[hg,hop,hd]at hj;cases hj
  |some dj=>
   obtain⟨Dj,w1,w2,w3,w4⟩:=zyr hw hd (hne dj hd) hdo hj hl;exact⟨Dj,w1,.inl w2,w3,fun t ht=>w4 t (fun e=>ht (by rw[e]))⟩
 ·obtain⟨Dj,w1,w2,w3,w4⟩:=zys hw hdo hj hl;exact⟨Dj,w1,.inr w2,w3,fun t _=>w4 t⟩
def zyJ(ops:Array Oper)(PS:List Nat):Bool:=
 (List.range ops.size).all fun j=>(List.range j).all fun i=>match ops[i]?,ops[j]? with
  |some x,some y=>PS.all fun s=> !((x.looksAt ops).contains s&&(y.looksAt ops).contains s)
  |_,_=>false
theorem zrr(h:zyJ ops PS=true){i j:Nat}{x y:Oper}(hne:i≠j)(hx:ops[i]? =some x)(hy:ops[j]? =some y):∀s∈PS,s∈x.looksAt ops->s∉y.looksAt ops:=by
 have key:∀(i j:Nat) (x y:Oper),i<j->ops[i]? =some x->ops[j]? =some y->∀s∈PS,s∈x.looksAt ops->s∉y.looksAt ops:=by
  intro i j x y hij hx hy s hs h1 h2;have hj:j<ops.size:=(yU.1 hy).1;have:=yc.1 h j (by simpa using hj);have:=yc.1 this i (by simpa using hij);rw[hx,hy]at this;have:=yc.1 this s hs;simp[h1,h2]at this
 rcases YI hne with h1|h1
 ·exact key i j x y h1 hx hy
 ·exact fun s hs h2 h3=>key j i y x h1 hy hx s hs h3 h2
def evM(C:Ctx)(ops:Array Oper)(PS:List Nat):List Oper->List Bool->Env->(Env->Prop)->Prop
 |o::l,t::ts,D,K=>∃p D',zdZ C ops PS t D o p D'/\p/\evM C ops PS l ts D' K
 |[],_,D,K=>K D
 |_::_,[],_,_=>False
def StM(C:Ctx)(ops:Array Oper)(PS:List Nat)(ts:List Bool)(i:Nat)(D D':Env):Prop:=∃o p,ops[i]? =some o/\zdZ C ops PS (ts.getD i true) D o p D'/\p
theorem zpk(hC:Yy C)(hIO:IOk C){ts:List Bool}{K:Env->Prop}{Q:Exit->Act->World->Prop}(hK:∀D a w,K D->G C D a w->Q .normal a w):∀(n:Nat) (listed:Array Bool) (D:Env) (a:Act) (w:World),zko (StM C ops PS ts) ops K n listed D->G C D a w->
 wpAny C.P .any ops Q n listed a w
 |0,_,D,a,w,h,hG=>⟨h.1,hK D a w h.2 hG⟩
 |n+1,listed,D,a,w,h,hG=>by
  refine⟨fun h0=>hK D a w (h.1 h0) hG,fun i hi=>?_⟩;obtain⟨D',⟨o,p,ho,hs,hp⟩,h2⟩:=h.2 i hi;exact wpOp_mono (fun a' w' hG'=>zpk hC hIO hK n _ D' a' w' h2 hG') (zvn hC hIO ho hs hp hG)
def zll:Op->Bool
 | .move _=>true
 |_=>false
def zgQ(ops:Array Oper):List Nat->Array Bool->Bool
 |[],_=>true
 |i::H,listed=>(match ops[i]? with
  |some o=>zll o.op&&o.guard.isNone
  |none=>false)&&Region.free .any ops listed i&&(Region.ready .any ops listed).contains i&&zgQ ops H (listed.setIfInBounds i true)
def hev(C:Ctx)(ops:Array Oper)(PS:List Nat):List Nat->Env->(Env->Prop)->Prop
 |[],D,K=>K D
 |i::H,D,K=>∃o p D',ops[i]? =some o/\qH C ops D o=some (p,D')/\Kk PS D' o/\p/\hev C ops PS H D' K
def zdj(l:Array Bool):List Nat->Array Bool
 |[]=>l
 |i::H=>zdj (l.setIfInBounds i true) H
theorem zBW(hC:Yy C){o:Oper}{i:Nat}(hi:ops[i]? =some o)(hm:zll o.op=true)(hg:o.guard=none){p:Prop}(h:qH C ops D o=some (p,D'))(hp:p)(hG:G C D a w):
 ∃v,Yields C.P ops o v a/\G C D' (a.put o.dst v) w:=by
 obtain⟨F,O,hI⟩:=hG
 have hx:∃x,o.op=.move x:=by
  revert hm;cases o.op<;>simp[zll]
 obtain⟨x,hx⟩:=hx;have hrun:∀w,(execOp a.eval o).run C.P w=.ok (.value (a.eval x)) w:=fun w=>by simp[execOp,hx]
 have hw:Region.wanted o (yielded ops a.tmps)=true:=by unfold Region.wanted;rw[hg]
 refine⟨a.eval x,.inl ⟨hw,hrun⟩,?_⟩;have h1:=Qy hC hI hi h hp (Q:=fun _ _ _=>False);unfold wpOp at h1;rw[hi]at h1;dsimp only at h1;rw[hw,if_pos rfl]at h1;rcases h1 with h1|⟨_,_,_,h1⟩
 ·unfold Oper.wp at h1;rw[hrun,Oper.upon_value]at h1;exact h1
 ·exact h1.elim
theorem zmT(hC:Yy C){K:Env->Prop}{Q:Exit->Act->World->Prop}(hs:Region.noSelect ops=true)(hQ:∀c a w,¬Q (.panic c) a w){fuel:Nat}:
 ∀(H:List Nat) (listed:Array Bool) (D:Env) (a:Act),zgQ ops H listed=true->hev C ops PS H D K->Wf D/\NR PS D->G C D a w->(∀D' a',K D'->Wf D'/\NR PS D'->G C D' a' w->wpAny C.P .any ops Q fuel (zdj listed H) a' w)->wpAny C.P .any ops Q (fuel+H.length) listed a w
 |[],listed,D,a,_,h,hw,hG,hk=>hk D a h hw hG
 |i::H,listed,D,a,hc,h,hw,hG,hk=>by
  simp only[zgQ,zh]at hc;obtain⟨⟨⟨h1,h2⟩,h3⟩,h4⟩:=hc;obtain⟨o,p,D',ho,hl,hro,hp,hh⟩:=h;rw[ho]at h1;simp only[zh,Option.isNone_iff_eq_none]at h1;obtain⟨v,hy,hG'⟩:=zBW hC ho h1.1 h1.2 hl hp hG;exact wpAny_take ho hs h2 h3 (fun c a w hq=>(hQ c _ _ hq).elim) hy (zmT hC hs hQ H _ D' _ h4 hh ⟨zeq hw.1 hl,zj1 hw.2 hw.1 hl hro⟩ hG' hk)
def evI(C:Ctx)(ops:Array Oper)(PS:List Nat)(ts:List Bool):List Nat->Env->(Env->Prop)->Prop
 |[],D,K=>K D
 |k::R,D,K=>∃o p D',ops[k]? =some o/\zdZ C ops PS (ts.getD k true) D o p D'/\p/\evI C ops PS ts R D' K
def zqf(ops:Array Oper)(PS:List Nat)(ts:List Bool)(H:List Nat):Bool:=
 zgR ops.toList 0&&(List.range ops.size).all fun j=>H.contains j||(List.range j).all fun i=>H.contains i||((zrX ops.toList []).getD j 0).testBit i||(!ts.getD i true&&
  (match ops[i]?,ops[j]? with|some x,some y=>x.apart ops y&&y.apart ops x&&(!ts.getD j true||(ZX PS x&&ZX PS y))|_,_=>false))||
  (ts.getD i true&& !ts.getD j true&&(match ops[i]?,ops[j]? with|some x,some y=>zoV PS x y&&x.apart ops y&&y.apart ops x&&ZX PS x&&ZX PS y|_,_=>false))
theorem zsG{ts:List Bool}{H:List Nat}(hk:zqf ops PS ts H=true){listed:Array Bool}(hH:∀i∈H,i<ops.size->listed.getD i true=true)(hc:zbs ops listed){i j:Nat}(hi:i∈Region.ready .any ops listed)(hj:j∈Region.ready .any ops listed)(hij:i<j):
 (ts.getD i true=false/\∃x y,ops[i]? =some x/\ops[j]? =some y/\x.apart ops y=true/\y.apart ops x=true/\(ts.getD j true=false\/(ZX PS x=true/\ZX PS y=true)))\/
 (ts.getD i true=true/\ts.getD j true=false/\∃x y,ops[i]? =some x/\ops[j]? =some y/\zoV PS x y=true/\x.apart ops y=true/\y.apart ops x=true/\ZX PS x=true/\ZX PS y=true):=by
 obtain⟨hju,oj,hoj,hall⟩:=mem_ready.1 hj;obtain⟨hiu,oi,hoi,_⟩:=mem_ready.1 hi;have hjn:j<ops.size:=(yU.1 hoj).1;have hin:i<ops.size:=(yU.1 hoi).1;simp only[zqf,zh]at hk;have h1:=yc.1 hk.2 j (by simpa using hjn);simp only[jg]at h1;rcases h1 with h1|h1
 ·have:=hH j (by simpa using h1) hjn;rw[this]at hju;cases hju
 have h2:=yc.1 h1 i (by simpa using hij);simp only[jg,zh,yK]at h2;rcases h2 with((h2|h2)|⟨h2,h4⟩)|⟨⟨h2,h3⟩,h4⟩
 ·have:=hH i (by simpa using h2) hin;rw[this]at hiu;cases hiu
 ·have hw:=zjZ (ops:=ops) ops.toList [] (fun j=>by simp) (fun j i h=>by simp at h) j i h2;have:=hw.listed hc (fun o ho=>by rw[hoj]at ho;simp only[za]at ho;subst ho;exact hall);rw[zj4 hiu]at this;cases this
 ·rw[hoi,hoj]at h4;simp only[zh,jg,yK]at h4;exact .inl ⟨h2,oi,oj,hoi,hoj,h4.1.1,h4.1.2,h4.2⟩
 ·rw[hoi,hoj]at h4;simp only[zh]at h4;exact .inr ⟨h2,h3,oi,oj,hoi,hoj,h4.1.1.1.1,h4.1.1.1.2,h4.1.1.2,h4.1.2,h4.2⟩
theorem zvN{St:Nat->Env->Env->Prop}{Q:Env->Prop}{I:Env->Prop}{i:Nat}{L:Array Bool->Prop}(hL:∀l j,L l->L (l.setIfInBounds j true))
 (ex:∀(listed:Array Bool) (j:Nat) (D Di Dij:Env),L listed->zbs ops listed->i∈Region.ready .any ops listed->j∈Region.ready .any ops listed->j≠i->I D->St i D Di->St j Di Dij->∃Dj,St j D Dj/\St i Dj Dij/\I Dj):
 ∀(n:Nat) (listed:Array Bool) (D Di:Env),L listed->zbs ops listed->I D->i∈Region.ready .any ops listed->St i D Di->zko St ops Q n (listed.setIfInBounds i true) Di->zko St ops Q (n+1) listed D:=by
 intro n
 induction n with
 |zero=>
  intro listed D Di _ _ _ hr hs H;refine⟨(fun h=>by rw[h]at hr;cases hr),fun j hj=>?_⟩;by_cases hji:j=i
  ·subst hji;exact⟨Di,hs,H⟩
  ·have:=ready_mono hj hji;rw[H.1]at this;cases this
 |succ n ih=>
  intro listed D Di hl hc hI hr hs H;refine⟨(fun h=>by rw[h]at hr;cases hr),fun j hj=>?_⟩;by_cases hji:j=i
  ·subst hji;exact⟨Di,hs,H⟩
  ·obtain⟨Dij,h1,h2⟩:=H.2 j (ready_mono hj hji);obtain⟨Dj,e1,e2,e3⟩:=ex listed j D Di Dij hl hc hr hj hji hI hs h1;refine⟨Dj,e1,ih (listed.setIfInBounds j true) Dj Dij (hL _ _ hl) ?_ e3 (ready_mono hr (Ne.symm hji)) e2 ?_⟩
   ·intro k o ho hk e he hb;by_cases hkj:k=j
    ·subst hkj;obtain⟨_,o',ho',hall⟩:=mem_ready.1 hj;rw[ho]at ho';simp only[za]at ho';subst ho';exact getD_set_true (hall e he hb)
    ·rw[getD_set_ne false (Ne.symm hkj)]at hk;exact getD_set_true (hc k o ho hk e he hb)
   ·rw[Array.setIfInBounds_comm _ _ hji];exact h2
theorem zwB{ts:List Bool}{H:List Nat}{K:Env->Prop}(hk:zqf ops PS ts H=true)(hu:zyJ ops PS=true):∀(R:List Nat) (lst:Array Bool) (D:Env),lst.size=ops.size->(∀i,i<ops.size->(lst.getD i true=false↔i∈R))->(∀i∈R,i<ops.size)->R.Pairwise (·< ·)->(∀i∈H,i∉R)->zbs ops lst->evI C ops PS ts R D K->Wf D/\NR PS D->
 zko (StM C ops PS ts) ops K R.length lst D
 |[],lst,D,hsz,hl,hr,hs,hH,hc,h,hw=>by
  have hK:K D:=h;refine⟨?_,hK⟩
  cases hr:Region.ready .any ops lst with
  |nil=>rfl
  |cons x xs=>
   have hx:x∈Region.ready .any ops lst:=(by rw[hr];simp);obtain⟨h1,o,ho,_⟩:=mem_ready.1 hx;have hxn:x<ops.size:=(yU.1 ho).1;exact absurd ((hl x hxn).1 h1) (by simp)
 |k::R,lst,D,hsz,hl,hr,hs,hH,hc,h,hw=>by
  obtain⟨o,p,D',ho,hst,hp,h⟩:=h;have hkn:k<ops.size:=hr k (by simp);obtain⟨hs1,hs2⟩:=List.pairwise_cons.1 hs
  have hedge:∀e∈o.after,Region.binds .any e=true->lst.getD e.on false=true:=by
   intro e he hb;have hk':=hk;simp only[zqf,zh]at hk';have h1:=zcu hk'.1 k o (by simpa using ho) e he hb;have h2:e.on<ops.size:=by omega
   have h3:e.on∉k::R:=by
    intro hm;rcases zJ.1 hm with h4|h4
    ·omega
    ·have:=hs1 _ h4;omega
   have h4:lst.getD e.on true≠false:=fun h5=>h3 ((hl _ h2).1 h5);rw[zD]at h4 ⊢;rw[Array.getElem?_eq_getElem (by omega)]at h4 ⊢;simpa using h4
  have hrd:k∈Region.ready .any ops lst:=mem_ready.2 ⟨(hl k hkn).2 (by simp),o,ho,hedge⟩
  have hHl:∀listed:Array Bool,(∀i,i<ops.size->lst.getD i true=true->listed.getD i true=true)->∀i∈H,i<ops.size->listed.getD i true=true:=by
   intro listed hle i hi hin;refine hle i hin ?_
   cases hh:lst.getD i true with
   |true=>rfl
   |false=>exact absurd ((hl i hin).1 hh) (hH i hi)
  refine zvN (I:=fun D=>Wf D/\NR PS D) (i:=k) (L:=fun listed=>∀i,i<ops.size->lst.getD i true=true->listed.getD i true=true) (fun l j hl i hi h=>?mono) (fun listed j D Di Dij hle hc hi hj hne hw ⟨oi,pi,hoi,hsi,hpi⟩ ⟨oj,pj,hoj,hsj,hpj⟩=>?ex) R.length lst D D' (fun i _ h=>h) hc hw hrd ⟨o,p,ho,hst,hp⟩ ?main
  case mono=>
   by_cases hij:i=j
   ·subst hij;by_cases hb:i<l.size
    ·rw[zD,ZV hb];rfl
    ·rw[zD,Array.getElem?_eq_none (by simpa using hb)];rfl
   ·rw[getD_set_ne true (Ne.symm hij)];exact hl i hi h
  case ex=>
   have hkj:k<j:=by
    obtain⟨h1,o',ho',_⟩:=mem_ready.1 hj;have hjn:j<ops.size:=(yU.1 ho').1
    have h2:lst.getD j true=false:=by
     cases hh:lst.getD j true with
     |false=>rfl
     |true=>
      have h3:=hle j hjn hh;have h4:=zj4 h1;rw[zD]at h3 h4
      cases he:listed[j]? with
      |none=>rw[he]at h4 h3;have:=mem_ready.1 hj;simp[zD,he]at this
      |some v=>rw[he]at h3 h4;simp at h3 h4;rw[h3]at h4;cases h4
    rcases zJ.1 ((hl j hjn).1 h2)with h3|h3
    ·exact absurd h3 hne
    ·exact hs1 j h3
   have hP:=zrr hu (Ne.symm hne) hoi hoj;rcases zsG hk (hHl listed hle) hc hi hj hkj with⟨t1,x,y,hx,hy,ap1,ap2,t2⟩|⟨t1,t2,x,y,hx,hy,hfr,ap1,ap2,l1,l2⟩
   rotate_left
   ·rw[hoi]at hx;rw[hoj]at hy;simp only[za]at hx hy;subst hx;subst hy;obtain⟨⟨kk,args,ats,hopi⟩,hgj,⟨dj,hdj,hdjP⟩,hoP⟩:=zvJ hfr;rw[t1]at hsi;rw[t2]at hsj;rcases hsj with⟨h0,_⟩|⟨_,dj',hdj',hoj',hlj⟩
    ·cases h0
    rw[hdj]at hdj';simp only[za]at hdj';subst hdj';obtain⟨hnr,hls,hri⟩:=hlj.2 l2;rcases hsi with⟨_,_,hli⟩|⟨h0,_⟩
    rotate_left
    ·cases h0
    have hio:ze6 C PS D oi pi Di:=by
     rcases hli l1 with⟨_,hw2⟩|h
     ·exfalso;rcases hw2 with⟨_,_,_,_,_,_,_,_,_,_,_,_,_,hop,_⟩|⟨_,_,_,_,_,_,_,_,_,_,hop,_⟩
      ·rw[hopi]at hop;cases hop
      ·rw[hopi]at hop;cases hop
     ·exact h
    obtain⟨l,q1,q2,q3,q4⟩:=hio;obtain⟨b1,b2,b3⟩:=Oper.apart_spec ap2;obtain⟨g,A,hlr,hdn,rfl⟩:=zaW hdj hls;have hdo:∀t,Operand.tmp t∈oi.op.operands->t≠dj:=fun t ht e=>b1 dj hdj (by rw[<-e];exact kR ht);have hne2:∀d,oi.dst=some d->dj≠d:=fun d hd e=>b2 dj hdj (by rw[hd,e]);obtain⟨s,ver,d,y,r,r0,x',gx',e1,hx',ho',e3,e4,hsP⟩:=zzL q3 q4;have hdP:d+800∈PS:=by simpa [ZX,e1]using l1
    have same:∀t,t+800∉PS->Di t=D t:=by
     intro t ht;have h1:t≠s:=fun e=>ht (e▸hsP);have h2:t≠d:=fun e=>ht (e▸hdP);have h3:Di t=(YE D l) t:=(by rw[e4];simp[Env.put,Env.mod,h1,h2]);rw[h3];rcases zgJ l D t with h|⟨_,h⟩
     ·exact h
     ·exact absurd (q2 t h).1 ht
    have hlr':zcG C ops D oj=some (pj,g,A):=by
     refine zcV (by unfold gd;rw[hgj]) (fun ty x gx A' s' ver' y' hx ho hr hy=>?_) (fun ty x hx=>?_) hlr
     ·have hs':=hnr.opd (by simpa using hx) ho hr;unfold Env.own at hy ⊢;rw[<-same s' hs'];exact hy
     ·cases x with
      |tmp t=>simp only[opd,same t (hoP t hx)]
      |_=>rfl
    have hNR:=hw.2.step hw.1 (zcX l D).2 (zcX l D).1.refKeep
    have hsd:∀x s ver gx r,Operand.tmp x∈oi.op.operands->opd C.P (YE D l) 0 (.tmp x)=some (gx,.rf s ver [])->(YE D l).own s ver=some r->s≠dj:=by
     intro x s ver gx r hx ho hown e;rcases ziH ho rfl with e2|⟨t,e2,e3⟩
     ·simp only[Operand.tmp.injEq]at e2;exact hdo x hx (by rw[e2,e])
     ·have:=hNR s (by rw[e];exact hdjP) t ver e3;rw[this]at hown;cases hown
    obtain⟨w1,w2⟩:=zD4 (g:=g) (A:=A) hne2 hdo hsd q3 q4;have hfz:YE (D.put dj g A) l=(YE D l).put dj g A:=zj7 l D (fun t ht=>hdo t (q2 t ht).2);have hsj:s≠dj:=hsd x' s ver gx' r0 hx' ho' e3
    have hod:(D dj).owner=false:=by
     have:(Di dj)=(YE D l) dj:=by
      rw[e4];have:dj≠d:=hne2 d e1;simp[Env.put,Env.mod,this,Ne.symm hsj]
     rcases zgJ l D dj with h|⟨_,h⟩
     ·rw[<-h,<-this];exact hoj'
     ·exact absurd rfl (hdo dj (q2 dj h).2)
    have hri':Kk PS (D.put dj g A) oj:=fun e he s ver hr=>by
     rw[hdj]at he;simp only[za]at he;subst he;refine hri dj hdj s ver ?_;simpa [Env.put]using hr
    have hls':qH C ops D oj=some (pj,D.put dj g A):=zj0 hdj hlr' hdn;have hnr':za8 PS D oj:=⟨hgj,fun t ht=>by rw[<-same t (hoP t ht)];exact hnr.2 t ht⟩;have s1:zdZ C ops PS false D oj pj (D.put dj g A):=.inr ⟨rfl,dj,hdj,hod,.inl ⟨hls',hri'⟩,fun _=>⟨hnr',hls',hri'⟩⟩;have s2:ze6 C PS (D.put dj g A) oi pi (Di.put dj g A):=⟨l,q1,q2,by rw[hfz];exact w1,by rw[hfz];exact w2⟩;exact⟨_,⟨oj,pj,hoj,by rw[t2];exact s1,hpj⟩,⟨oi,pi,hoi,by rw[t1];exact .inl ⟨rfl,.inr (.inr (.inr (.inr s2))),fun _=>.inr s2⟩,hpi⟩,zdg s1 hw.1 hw.2⟩
   rw[hoi]at hx;rw[hoj]at hy;simp only[za]at hx hy;subst hx;subst hy;rw[t1]at hsi;have hP':=zrr hu hne hoj hoi;rcases hsi with⟨h0,_⟩|⟨_,di,hdi,hoi',hli⟩
   ·cases h0
   obtain⟨b1,b2,b3⟩:=Oper.apart_spec ap1;rcases t2 with t2|⟨t2,t3⟩
   ·rw[t2]at hsj;rcases hsj with⟨h0,_⟩|⟨_,dj,hdj,hoj',hlj⟩
    ·cases h0
    obtain⟨bi,fi,li⟩:=FM.of hli;obtain⟨bj,fj,lj⟩:=FM.of hlj;obtain⟨Dj,e1,e2,e3,e4⟩:=zDn ap1 hdi hdj hw.1 hw.2 hP hoi' fi hoj' fj;have off1:∀t∈oj.looksAt ops,D t=Di t:=fun t ht=>(fi.off hdi (b1 di hdi) hP t ht).symm;have off2:∀t∈oi.looksAt ops,Dj t=D t:=e1.off hdj (b3 dj hdj) hP';have s1:zdZ C ops PS false D oj pj Dj:=.inr ⟨rfl,dj,hdj,e3,e1.to (fun h=>⟨(lj h).1,(lj h).2.same off1⟩)⟩;exact⟨Dj,⟨oj,pj,hoj,by rw[t2];exact s1,hpj⟩,⟨oi,pi,hoi,by rw[t1];exact .inr ⟨rfl,di,hdi,e4,e2.to (fun h=>⟨(li h).1,(li h).2.same off2⟩)⟩,hpi⟩,zdg s1 hw.1 hw.2⟩
   ·obtain⟨hnr,hls,hri⟩:=hli.2 t2;rcases hsj with⟨ht,_,hlj⟩|⟨ht,dj,hdj,hoj',hlj⟩
    ·have hwl:=hlj t3;obtain⟨g,A,hlr,hdn,rfl⟩:=zaW hdi hls;have hne2:∀dj,oj.dst=some dj->di≠dj:=fun dj hdj e=>b2 di hdi (by rw[hdj,e]);have hdo2:∀t,Operand.tmp t∈oj.op.operands->t≠di:=fun t ht e=>b1 di hdi (by rw[<-e];exact kR ht)
     obtain⟨Dj,w12,w3,w4⟩:∃Dj,((qQ C D oj=some (pj,Dj)/\zr8 C PS D oj)\/ze6 C PS D oj pj Dj)/\Dij=Dj.put di g A/\(∀t,oj.dst≠some t->((D t).owner=true/\t+800∈PS)\/Dj t=D t):=by
      rcases hwl with⟨hws,hla⟩|hws
      ·obtain⟨Dj,w1,w2,w3,w4⟩:=zB1 hw.1 hne2 hdo2 t3 hws hla;exact⟨Dj,.inl ⟨w1,w2⟩,w3,w4⟩
      ·obtain⟨Dj,w1,w3,w4⟩:=zBZ hw.1 hne2 hdo2 hws;exact⟨Dj,.inr w1,w3,w4⟩
     have hopn:∀t∈oi.looksAt ops,Operand.tmp t∈oi.op.operands:=fun t ht=>by
      simp only[Oper.looksAt,hnr.1,List.append_nil,List.mem_filterMap]at ht;obtain⟨x,hx,he⟩:=ht;cases x<;>simp at he;subst he;simpa using hx
     have off2:∀t∈oi.looksAt ops,Dj t=D t:=fun t ht=>by
      rcases w4 t (fun e=>b3 t e ht)with⟨h,h'⟩|h
      ·exfalso;have h1:=(hnr.2 t (hopn t ht)).2;unfold E.owner at h;simp only[zh]at h
       cases ha:(D t).a with
       |val x=>rw[ha]at h;simp only at h;exact h1 x ha h.2 h'
       |_=>rw[ha]at h;cases h.2
      ·exact h
     have hl2:zcG C ops Dj oi=some (pi,g,A):=by
      refine zcV (zp0 off2).symm (fun ty x gx A' s ver y hx ho hr hy=>?_) (fun ty x hx=>(zjU off2 (by simpa using hx)).symm) hlr;have hsn:=hnr.opd (by simpa using hx) ho hr
      have:Dj s=D s:=by
       rcases w4 s (fun e=>hsn (by
        unfold ZX at t3;rw[e]at t3
        simpa using t3))with⟨_,h⟩|h
       ·exact absurd h hsn
       ·exact h
      unfold Env.own at hy ⊢;rw[this];exact hy
     have s1:zdZ C ops PS true D oj pj Dj:=.inl ⟨rfl,by
      rcases w12 with⟨w1,w2⟩|w12
      ·refine .inr (.inl ⟨w1,fun x hx=>?_⟩);rcases w2 with⟨args,ats,_,_,_,_,_,_,_,_,_,_,_,hop,_⟩|⟨_,_,_,_,_,_,_,_,_,_,hop,_⟩
       ·rw[hop]at hx;cases hx
       ·rw[hop]at hx;cases hx
      ·exact .inr (.inr (.inr (.inr w12))),fun _=>w12⟩
     have hod:(Dj di).owner=false:=by
      rcases w4 di (fun e=>hne2 di e rfl)with⟨h,_⟩|h
      ·rw[hoi']at h;cases h
      ·rw[h];exact hoi'
     have e2:qH C ops Dj oi=some (pi,Dij):=by rw[w3];exact zj0 hdi hl2 hdn
     have hri':Kk PS Dij oi:=fun e he s ver hr=>by
      rw[hdi]at he;simp only[za]at he;subst he;refine hri di hdi s ver ?_;rw[w3]at hr;simpa [Env.put]using hr
     exact⟨Dj,⟨oj,pj,hoj,by rw[ht];exact s1,hpj⟩,⟨oi,pi,hoi,by rw[t1];exact .inr ⟨rfl,di,hdi,hod,.inl ⟨e2,hri'⟩,fun _=>⟨hnr.same off2,e2,hri'⟩⟩,hpi⟩,zdg s1 hw.1 hw.2⟩
    ·obtain⟨bi,fi,li⟩:=FM.of hli;obtain⟨bj,fj,lj⟩:=FM.of hlj;obtain⟨Dj,e1,e2,e3,e4⟩:=zDn ap1 hdi hdj hw.1 hw.2 hP hoi' fi hoj' fj;have off1:∀t∈oj.looksAt ops,D t=Di t:=fun t ht=>(fi.off hdi (b1 di hdi) hP t ht).symm;have off2:∀t∈oi.looksAt ops,Dj t=D t:=e1.off hdj (b3 dj hdj) hP';have s1:zdZ C ops PS false D oj pj Dj:=.inr ⟨rfl,dj,hdj,e3,e1.to (fun h=>⟨(lj h).1,(lj h).2.same off1⟩)⟩;exact⟨Dj,⟨oj,pj,hoj,by rw[ht];exact s1,hpj⟩,⟨oi,pi,hoi,by rw[t1];exact .inr ⟨rfl,di,hdi,e4,e2.to (fun h=>⟨(li h).1,(li h).2.same off2⟩)⟩,hpi⟩,zdg s1 hw.1 hw.2⟩
  case main=>
   refine zwB hk hu R _ D' (by simpa using hsz) (fun i hin=>?_) (fun i hi=>hr i (by simp[hi])) hs2 (fun i hi hm=>hH i hi (by simp[hm])) ?_ h (zdg hst hw.1 hw.2)
   ·by_cases hik:i=k
    ·subst hik
     have:(lst.setIfInBounds i true).getD i true=true:=by
      rw[zD,ZV (by omega)];rfl
     rw[this];refine⟨fun h=>(by cases h),fun hm=>?_⟩;have:=hs1 i hm;omega
    ·rw[getD_set_ne true (Ne.symm hik),hl i hin,zJ];exact⟨fun h=>h.resolve_left hik,fun h=>.inr h⟩
   ·intro j oj hoj hj e he hb;by_cases hjk:j=k
    ·subst hjk;rw[ho]at hoj;simp only[za]at hoj;subst hoj;exact getD_set_true (hedge e he hb)
    ·rw[getD_set_ne false (Ne.symm hjk)]at hj;exact getD_set_true (hc j oj hoj hj e he hb)
theorem zmL:∀(H:List Nat) (l:Array Bool),(zdj l H).size=l.size
 |[],_=>rfl
 |i::H,l=>by rw[zdj,zmL H];simp
theorem zod:∀(H:List Nat) (l:Array Bool) (i:Nat),i<l.size->(zdj l H).getD i true=(H.contains i||l.getD i true)
 |[],l,i,_=>by simp[zdj]
 |k::H,l,i,hi=>by
  rw[zdj,zod H _ i (by simpa using hi)];by_cases hik:i=k
  ·subst hik
   have:(l.setIfInBounds i true).getD i true=true:=by
    rw[zD,ZV hi];rfl
   rw[this];simp
  ·rw[getD_set_ne true (Ne.symm hik)];have:¬i=k:=hik;simp[List.contains_cons,this]
theorem zkz:∀(H:List Nat) (l:Array Bool),zgQ ops H l=true->zbs ops l->zbs ops (zdj l H)
 |[],_,_,h=>h
 |k::H,l,hc,h=>by
  simp only[zgQ,zh]at hc;obtain⟨⟨⟨h1,h2⟩,h3⟩,h4⟩:=hc;refine zkz H _ h4 ?_;intro j oj hoj hj e he hb;by_cases hjk:j=k
  ·subst hjk;obtain⟨_,o,ho,hall⟩:=mem_ready.1 (show j∈Region.ready .any ops l by simpa using h3);rw[hoj]at ho;simp only[za]at ho;subst ho;exact getD_set_true (hall e he hb)
  ·rw[getD_set_ne false (Ne.symm hjk)]at hj;exact getD_set_true (h j oj hoj hj e he hb)
def uf(ops:List Oper):List Nat->List Oper
 |[]=>[]
 |i::H=>match ops[i]? with
  |some o=>o::uf ops H
  |none=>uf ops H
def zbx(n:Nat)(H:List Nat):List Nat:=(List.range n).filter fun i=> !H.contains i
theorem zwz:∀(H:List Nat) (listed:Array Bool) (l:List Oper) (tl:List Bool) (D:Env) (K:Env->Prop),zgQ ops H listed=true->evM C ops PS (uf ops.toList H++l) ((uf ops.toList H).map (fun _=>false)++tl) D K->hev C ops PS H D (fun D'=>evM C ops PS l tl D' K)
 |[],_,_,_,_,_,_,h=>h
 |i::H,listed,l,tl,D,K,hc,h=>by
  simp only[zgQ,zh]at hc;obtain⟨⟨⟨h1,h2⟩,h3⟩,h4⟩:=hc
  cases ho:ops[i]? with
  |none=>rw[ho]at h1;cases h1
  |some o=>
   rw[ho]at h1;have ho':ops.toList[i]? =some o:=(by simpa using ho);simp only[uf,ho',List.cons_append,qo]at h;obtain⟨p,D',hs,hp,h⟩:=h
   have hlr:qH C ops D o=some (p,D')/\Kk PS D' o:=by
    rcases hs with⟨h0,_⟩|⟨_,d,_,_,hs|hs,_⟩
    ·cases h0
    ·exact hs
    exfalso;simp only[zh]at h1;have hm:=h1.1;unfold Yq zdx at hs;cases hop:o.op<;>simp[zll,hop]at hm;rw[hop]at hs;split at hs
    ·cases hg:o.guard<;>cases hd:o.dst<;>simp[hg,hd]at hs
    ·cases hs
   exact⟨o,p,D',ho,hlr.1,hlr.2,hp,zwz H _ l tl D' K h4 h⟩
theorem zwA{ts:List Bool}{K:Env->Prop}:∀(R:List Nat) (D:Env),(∀i∈R,i<ops.size)->evM C ops PS (uf ops.toList R) (R.map fun i=>ts.getD i true) D K->evI C ops PS ts R D K
 |[],_,_,h=>h
 |i::R,D,hr,h=>by
  have hi:i<ops.size:=hr i (by simp);have ho:ops.toList[i]? =some ops[i]:=by simp[hi]
  simp only[uf,ho,qo]at h;obtain⟨p,D',hs,hp,h⟩:=h;exact⟨ops[i],p,D',by simp[hi],hs,hp,zwA R D' (fun j hj=>hr j (by simp[hj])) h⟩
theorem zvt(hC:Yy C)(hIO:IOk C)(hm:C.P.follows .mixedOrders=true){id:Nat}{ts:List Bool}{H:List Nat}{K:Env->Prop}{Q:Exit->Act->World->Prop}(hk:zqf ops PS ts H=true)(hu:zyJ ops PS=true)(hs:Region.noSelect ops=true)(hh:zgQ ops H (Array.replicate ops.size false)=true)(hcount:(zbx ops.size H).length+H.length=ops.size)(hG:G C D a w)(hN:∀s∈PS,(D s).owner=false)
 (h:evM C ops PS (uf ops.toList H++uf ops.toList (zbx ops.size H)) ((uf ops.toList H).map (fun _=>false)++(zbx ops.size H).map fun i=>ts.getD i true) D K)
 (hK:∀D a w,K D->G C D a w->Q .normal a w):(Code.region id ops true).wp C.P Q a w:=by
 refine Code.wp_mono (Q:=fun e a w=>e=.normal/\Q .normal a w) (fun e a w hq=>by obtain⟨rfl,hq⟩:=hq;exact hq) (wp_region_any hm ?_)
 have hn:∀D,Wf D->(∀s∈PS,(D s).owner=false)->NR PS D:=by
  intro D _ hN s hs t ver _
  cases ho:D.own s ver with
  |none=>rfl
  |some y=>
   obtain⟨h1,h2,h3,h4⟩:=Env.own_iff'.1 ho;have:=hN s hs;simp[E.owner,h1,h3,h4]at this
 have hrs:∀i∈zbx ops.size H,i<ops.size:=fun i hi=>by
  have:=(jJ.1 hi).1;simpa using this
 have hw:Wf D:=by obtain⟨F,O,hI⟩:=hG;exact hI.wf
 have hv:=zwz H _ _ _ D K hh h
 have:=zmT (Q:=fun e a w=>e=.normal/\Q .normal a w) (fuel:=(zbx ops.size H).length) (K:=fun D'=>evM C ops PS (uf ops.toList (zbx ops.size H)) ((zbx ops.size H).map fun i=>ts.getD i true) D' K) hC hs (fun c a w hq=>by cases hq.1) H _ D a hh hv ⟨hw,hn D hw hN⟩ hG.drew (fun D' a' hev hw' hG'=>by
  have hev':=zwA (ts:=ts) _ _ hrs hev;have hle:(zdj (Array.replicate ops.size false) H).size=ops.size:=by rw[zmL];simp
  refine zpk hC hIO (fun D a w h1 h2=>⟨rfl,hK D a w h1 h2⟩) _ _ D' a' _ (zwB hk hu _ _ D' hle (fun i hi=>?_) hrs ?_ (fun i hi hm=>?_) ?_ hev' hw') hG'
  ·rw[zod _ _ _ (by simpa using hi)];simp only[zbx,jJ,List.mem_range,hi,true_and];simp[hi]
  ·exact List.Pairwise.filter _ List.pairwise_lt_range
  ·have:=(jJ.1 hm).2;simp[hi]at this
  ·refine zkz H _ hh (fun j o ho hj=>?_)
   by_cases hjn:j<ops.size<;>simp[hjn]at hj)
 rw[hcount]at this;exact this
end
abbrev kQ(a b:Nat):Bool:=a==b
abbrev zia(a b:Nat):Bool:=decide (a<=b)
abbrev KR(a b:Nat):Bool:=decide (a+1<=b)
theorem qX{a b:Nat}(h:kQ a b=true):a=b:=by simpa using h
theorem ZS(a:Nat):kQ a a=true:=by simp
theorem km{a b:Nat}(h:zia a b=true):a<=b:=of_decide_eq_true h
inductive TK where
 |int (k:IntKind)
 |bool
 |str
 |slc (e:TypeId)
 |agg (fs:List (Nat×TypeId))
 |oth
 deriving Inhabited
structure TI where
 k:TK
 cells:Nat
 zero:V
 deriving Inhabited
abbrev kH:=List (Nat×TI)
def jb:kH->Nat->Option TI
 |[],_=>none
 |(k,ti)::l,t=>match kQ k t with
  |true=>some ti
  |false=>jb l t
def ub(T:kH)(t:TypeId):Nat:=match jb T t with
 |some ti=>ti.cells
 |none=>0
structure Lv where
 toI:V->Int
 toB:V->Bool
 toS:V->ByteArray
 toL:V->List V
 fld:V->Nat->V
structure Alg where
 v:Lv
 wrap:IntKind->Int->Int
 add:Int->Int->Int
 sub:Int->Int->Int
 mul:Int->Int->Int
 quo:Int->Int->Int
 rem:Int->Int->Int
 band:IntKind->Int->Int->Int
 shr:IntKind->Int->Int->Int
 imin:Int->Int->Int
 imax:Int->Int->Int
 eqI:Int->Int->Bool
 leI:Int->Int->Bool
 ltI:Int->Int->Bool
 eqB:Bool->Bool->Bool
 not:Bool->Bool
 and:Bool->Bool->Bool
 pick:Bool->Bool->Bool->Bool
 eqS:ByteArray->ByteArray->Bool
 ltS:ByteArray->ByteArray->Bool
 appS:ByteArray->ByteArray->ByteArray
 lenS:ByteArray->Int
 getS:ByteArray->Int->Int
 extS:ByteArray->Int->Int->ByteArray
 len:List V->Int
 get:List V->Nat->V->V
 set:List V->Nat->V->List V
 app:List V->List V->List V
 sli:List V->Int->Int->List V
 rep:Int->V->List V
 frz:List V->List V
 nat:Int->Nat
 ltN:Nat->List V->Prop
 nofz:List V->Prop
 nown:List V->Prop
 emp:List V->Prop
 ok:Bool->TypeId->V->Prop
 okS:TypeId->V->Prop
 solid:List V->Prop
 le:Int->Int->Prop
 lt:Int->Int->Prop
 ne0:Int->Prop
 imp:Bool->Prop->Prop
 tt:Bool->Prop
 ifP:Bool->Prop->Prop->Prop
 strB:List V->ByteArray
 byt:List V->Prop
def V.toI:V->Int
 | .int _ n=>n
 |_=>0
def V.toB:V->Bool
 | .bool b=>b
 |_=>false
def V.toS:V->ByteArray
 | .str s=>s
 |_=>ByteArray.empty
def V.toL:V->List V
 | .slc _ _ _ es=>es
 |_=>[]
def V.fld:V->Nat->V
 | .agg fs,i=>fs.getD i (.hole 0)
 |_,_=>.hole 0
def vwD(o:Bool)(d:V):V:=match o with
 |true=>d
 |false=>d.frz
def zfl:List V->Nat->Option V
 |[],_=>none
 |x::_,0=>some x
 |_::l,i+1=>zfl l i
section
variable (L:Lv)(T:kH)
mutual
def vw(o:Bool):Nat->TypeId->V->Option V
 |0,_,_=>none
 |n+1,t,y=>match jb T t with
  |some ⟨.int k,_,_⟩=>some (.int k (L.toI y))
  |some ⟨.bool,_,_⟩=>some (.bool (L.toB y))
  |some ⟨.str,_,_⟩=>some (.str (L.toS y))
  |some ⟨.slc e,_,.slc _ _ d _⟩=>some (.slc o e (vwD o d) (L.toL y))
  |some ⟨.agg fs,_,_⟩=>match vws o n fs 0 y with
   |some ys=>some (.agg ys)
   |none=>none
  |_=>none
def vws(o:Bool):Nat->List (Nat×TypeId)->Nat->V->Option (List V)
 |_,[],_,_=>some []
 |0,_::_,_,_=>none
 |n+1,(_,t)::fs,i,y=>match vw o n t (L.fld y i)with
  |some v=>match vws o n fs (i+1) y with
   |some vs=>some (v::vs)
   |none=>none
  |none=>none
end
end
section
variable (L:Alg)(T:kH)
abbrev yb:=List (Nat×Option Bool×A)
def look:yb->Nat->Option (Option Bool×A)
 |[],_=>none
 |(k,e)::l,t=>match kQ k t with
  |true=>some e
  |false=>look l t
def A.at0:A->Nat->Bool
 | .rf s _ _,d=>kQ s d
 | .ad s _ _,d=>kQ s d
 | .ag s _ _ _,d=>kQ s d
 |_,_=>false
def KG(d:Nat):yb->yb
 |[]=>[]
 |(k,g,a)::l=>match kQ k d with
  |true=>KG d l
  |false=>match a.at0 d with
   |true=>KG d l
   |false=>(k,g,a)::KG d l
def ins(d:Nat)(e:Option Bool×A):yb->yb
 |[]=>[(d,e)]
 |(k,e')::l=>match KR k d with
  |true=>(k,e')::ins d e l
  |false=>(d,e)::(k,e')::l
def jU(S:yb)(d:Nat)(g:Option Bool)(a:A):yb:=ins d (g,a) (KG d S)
def zlz(d:Nat):yb->yb
 |[]=>[]
 |(k,g,a)::l=>match a.at0 d with
  |true=>zlz d l
  |false=>(k,g,a)::zlz d l
def Jh(S:yb)(d:Nat)(x:V):yb:=match S with
 |[]=>[]
 |(k,g,a)::l=>match kQ k d with
  |true=>(k,g,.val x)::Jh l d x
  |false=>(k,g,a)::Jh l d x
def jW:List Nat->Nat->Bool
 |[],_=>false
 |x::l,t=>match kQ x t with
  |true=>true
  |false=>jW l t
def A.in0:A->List Nat->Bool
 | .rf s _ _,l=>jW l s
 | .ad s _ _,l=>jW l s
 | .ag s _ _ _,l=>jW l s
 |_,_=>true
def Yt(ks:List Nat):yb->yb
 |[]=>[]
 |(k,g,a)::l=>match jW ks k with
  |true=>match a.in0 ks with
   |true=>(k,g,a)::Yt ks l
   |false=>Yt ks l
  |false=>Yt ks l
def kI(S:yb)(s:Nat):Option V:=match look S s with
 |some (none,.val x)=>match x.owned with
  |true=>some x
  |false=>none
 |_=>none
def zAh(t:TypeId):Value->Option V
 | .int k n=>some (.int k n)
 | .bool b=>some (.bool b)
 | .string s=>some (.str s)
 | .pointer none=>some (.hole 1)
 | .slice none 0 0=>match jb T t with
   |some ⟨.slc e,_,.slc _ _ d _⟩=>some (.slc true e d [])
   |_=>none
 |_=>none
def jV(S:yb)(t:TypeId):Operand->Option (Option Bool×A)
 | .tmp x=>match look S x with
   |some (g,.val v)=>match v.owned with
    |true=>some (g,.rf x 0 [])
    |false=>some (g,.val v)
   |some (g,a)=>some (g,a)
   |none=>none
 | .const v=>match zAh T t v with
   |some x=>some (none,.val x)
   |none=>none
 | .func f=>some (none,.val (.fn f []))
 | .global _=>none
def YO(g:Option Bool)(p:List Prop):List Prop:=match g with
 |none=>p
 |some b=>match p with
  |[]=>[]
  |p::l=>L.imp b p::YO (some b) l
def qr(g gx:Option Bool):List Prop:=match gx with
 |none=>[]
 |some b=>match g with
  |none=>[L.tt b]
  |some a=>[L.imp a (L.tt b)]
def dO:V->Bool
 | .slc o _ _ _=>o
 | .agg (.slc o _ _ _::_)=>o
 |_=>true
def uj:V->List Nat->Option (V×List Prop)
 |x,[]=>some (x,[])
 | .slc true e d es,i::p=>match vw L.v T (dO d) 20 e (L.get es i d)with
   |some y=>match uj y p with
    |some (z,q)=>some (z,L.ltN i es::L.ok (dO d) e (L.get es i d)::q)
    |none=>none
   |none=>none
 | .agg fs,i::p=>match zfl fs i with
   |some y=>uj y p
   |none=>none
 | .box _ c,0::p=>uj c p
 |_,_=>none
def YB:V->List Nat->V->Option V
 |_,[],y=>some y
 | .slc true e d es,i::p,y=>match vw L.v T (dO d) 20 e (L.get es i d)with
   |some x=>match YB x p y with
    |some z=>some (.slc true e d (L.set es i z))
    |none=>none
   |none=>none
 | .agg fs,i::p,y=>match zfl fs i with
   |some x=>match YB x p y with
    |some z=>some (.agg (fs.set i z))
    |none=>none
   |none=>none
 | .box e c,0::p,y=>match YB c p y with
   |some z=>some (.box e z)
   |none=>none
 |_,_,_=>none
def atW:V->List Nat->Option (V×List Prop)
 |x,[]=>some (x,[])
 | .slc true e d es,i::p=>match vw L.v T (dO d) 20 e (L.get es i d)with
   |some y=>match p with
    |[]=>match y.isScalar|| !dO d with
     |true=>some (y,[L.ltN i es,L.ok (dO d) e (L.get es i d)])
     |false=>some (y,[L.ltN i es,L.okS e (L.get es i d)])
    |_=>match atW y p with
     |some (z,q)=>some (z,L.ltN i es::L.ok (dO d) e (L.get es i d)::q)
     |none=>none
   |none=>none
 | .agg fs,i::p=>match zfl fs i with
   |some y=>atW y p
   |none=>none
 | .box _ c,0::p=>atW c p
 |_,_=>none
def zyW(r:V)(p:List Nat):Option (V×List Prop):=match p with
 |[]=>some (r,[])
 |i::q=>match r with
  | .agg _=>none
  | .tup _=>none
  |r=>atW L T r (i::q)
def atR(r:V)(p:List Nat):Option (V×List Prop):=match p with
 |[]=>some (r,[])
 |i::q=>match r with
  | .agg _=>none
  | .tup _=>none
  |r=>uj L T r (i::q)
def ikN:IntKind->Nat
 | .i8=>0
 | .i16=>1
 | .i32=>2
 | .i64=>3
 | .u8=>4
 | .u16=>5
 | .u32=>6
 | .u64=>7
def ikE(k k':IntKind):Bool:=kQ (ikN k) (ikN k')
def znA(S:yb)(x:Operand):Option (Option Bool×Int):=match jV T S 0 x with
 |some (g,.val (.int .i64 n))=>some (g,n)
 |_=>none
def zdS(S:yb)(d:Int):Option Operand->Option (Option Bool×Int)
 |none=>some (none,d)
 |some x=>znA T S x
def zCB(op:BinOp)(k:IntKind)(a b:Int):Option (List Prop×V):=
 match op with
 | .add=>some ([],.int k (L.wrap k (L.add a b)))
 | .sub=>some ([],.int k (L.wrap k (L.sub a b)))
 | .mul=>some ([],.int k (L.wrap k (L.mul a b)))
 | .quo=>some ([L.ne0 b],.int k (L.wrap k (L.quo a b)))
 | .rem=>some ([L.ne0 b],.int k (L.rem a b))
 | .and=>some ([],.int k (L.band k a b))
 | .shr=>some ([L.le 0 b],.int k (L.shr k a b))
 | .eql=>some ([],.bool (L.eqI a b))
 | .neq=>some ([],.bool (L.not (L.eqI a b)))
 | .lss=>some ([],.bool (L.ltI a b))
 | .leq=>some ([],.bool (L.leI a b))
 | .gtr=>some ([],.bool (L.ltI b a))
 | .geq=>some ([],.bool (L.leI b a))
 |_=>none
def zBj(op:BinOp)(a b:ByteArray):Option (List Prop×V):=
 match op with
 | .add=>some ([L.lt (L.add (L.lenS a) (L.lenS b)) 1099511627776],.str (L.appS a b))
 | .eql=>some ([],.bool (L.eqS a b))
 | .neq=>some ([],.bool (L.not (L.eqS a b)))
 | .lss=>some ([],.bool (L.ltS a b))
 |_=>none
def zfT(t:TypeId):Bool:=match jb T t with
 |some ⟨.bool,_,_⟩=>true
 |_=>false
def zdA(t:TypeId):Bool:=match jb T t with
 |some ⟨.str,_,_⟩=>true
 |_=>false
def Qm(t:TypeId):Option TypeId:=match jb T t with
 |some ⟨.slc e,_,_⟩=>some e
 |_=>none
def zhF(t:TypeId):Option IntKind:=match jb T t with
 |some ⟨.int k,_,_⟩=>some k
 |_=>none
def zaB(t:TypeId):Bool:=match jb T t with
 |some ⟨.int _,_,_⟩=>true
 |some ⟨.bool,_,_⟩=>true
 |some ⟨.str,_,_⟩=>true
 |_=>false
def Jn(t:TypeId):Option (List (Nat×TypeId)):=match jb T t with
 |some ⟨.agg fs,_,_⟩=>some fs
 |_=>none
def zgw:List (Nat×TypeId)->Nat->Option (Nat×TypeId)
 |[],_=>none
 |x::_,0=>some x
 |_::l,i+1=>zgw l i
def zp1(fs:List (Nat×TypeId))(i:Nat):TypeId:=match zgw fs i with
 |some x=>x.2
 |none=>0
def zj9(t:TypeId)(y:V):Bool:=match jb T t,y with
 |some ⟨.int k,_,_⟩,.int k' _=>ikE k k'
 |some ⟨.bool,_,_⟩,.bool _=>true
 |some ⟨.str,_,_⟩,.str _=>true
 |some ⟨.slc e,_,_⟩,.slc _ e' _ _=>kQ e e'
 |some ⟨.agg _,c,_⟩,.agg fs=>kQ c (V.sizes fs)
 |some ⟨.oth,c,_⟩,.box _ _=>kQ c 1
 |some ⟨.oth,c,_⟩,.fn _ _=>kQ c 1
 |_,_=>false
def zla(off:Nat)(ft:TypeId)(f:Nat)(fs:List V):Bool:=kQ (V.offs fs f) off&&KR f fs.length&&KR 0 (ub T ft)
def zj6:V->V
 | .slc _ e d es=>.slc false e d.frz (L.frz es)
 | .agg fs=>.agg (frzsS fs)
 | .tup fs=>.tup (frzsS fs)
 | .box _ c=>.fn 1000000000 [zj6 c]
 |x=>x
where frzsS:List V->List V
 |[]=>[]
 |x::l=>zj6 x::frzsS l
def zeO(S:yb):A->Option (V×List Prop)
 | .val x=>some (x,[])
 | .rf s _ p=>match kI S s with
   |some r=>match p with
    |[]=>some (r,[])
    |i::q=>match r with
     | .tup fs=>match q with
       |[]=>match zfl fs i with
        |some y=>some (y,[])
        |none=>none
       |_=>none
     |_=>match atR L T r p with
      |some (y,ps)=>match y.isH with
       |true=>some (y,ps)
       |false=>none
      |none=>none
   |none=>none
 |_=>none
def ziK(r:V)(p:List Nat):List V->Nat->Option (List V×List Prop)
 |[],_=>some ([],[])
 |f::fs,i=>match f.leaf with
  |true=>match f.owned with
   |true=>match atR L T r (p++[i])with
    |some (y,ps)=>match y.isH with
     |true=>match ziK r p fs (i+1)with
      |some (ys,qs)=>some (y::ys,ps++qs)
      |none=>none
     |false=>none
    |none=>none
   |false=>match ziK r p fs (i+1)with
    |some (ys,qs)=>some (f::ys,qs)
    |none=>none
  |false=>none
def zgA(r:V)(p:List Nat):List V->Nat->Option (List V×List Prop)
 |[],_=>some ([],[])
 |f::fs,i=>match f.leaf with
  |true=>match f.owned with
   |true=>match atR L T r (p++[i])with
    |some (y,ps)=>match y.isH with
     |true=>match zgA r p fs (i+1)with
      |some (ys,qs)=>some (y::ys,ps++qs)
      |none=>none
     |false=>none
    |none=>none
   |false=>match zgA r p fs (i+1)with
    |some (ys,qs)=>some (f::ys,qs)
    |none=>none
  |false=>match f with
   | .agg gs=>match ziK L T r (p++[i]) gs 0 with
     |some (zs,ps)=>match zgA r p fs (i+1)with
      |some (ys,qs)=>some (.agg zs::ys,ps++qs)
      |none=>none
     |none=>none
   |_=>none
def zoO(S:yb)(a:A):Option (V×List Prop):=match a with
 | .ag s _ p fs=>match kI S s with
   |some r=>match zgA L T r p fs 0 with
    |some (ys,ps)=>some (.agg ys,ps)
    |none=>none
   |none=>none
 |a=>zeO L T S a
mutual
def V.isFn:V->Bool
 | .fn _ _=>true
 | .box _ _=>true
 | .agg fs=>V.areFn fs
 | .tup fs=>V.areFn fs
 |_=>false
def V.areFn:List V->Bool
 |[]=>false
 |x::l=>x.isFn||V.areFn l
end
def zeL:V->List Prop
 | .slc true _ _ es=>[L.nofz es]
 | .slc false _ _ es=>[L.emp es]
 | .agg fs=>nofzsS fs
 | .tup fs=>nofzsS fs
 |_=>[]
where nofzsS:List V->List Prop
 |[]=>[]
 |x::l=>zeL x++nofzsS l
def zfP(S:yb)(g:Option Bool):List Operand->List TypeId->Option (List Prop×List V×Bool)
 |[],_=>some ([],[],false)
 |x::xs,ts=>match jV T S (ts.headD 0) x with
  |some (gx,a)=>match zoO L T S a with
   |some (v,ps)=>match zfP S g xs (ts.drop 1)with
    |some (qs,vs,br)=>some (qr L g gx++YO L g ps++qs,zj6 L v::vs,br||v.owned||a.isAg)
    |none=>none
   |none=>none
  |none=>none
def zhm(S:yb)(g:Option Bool)(ty:Nat->TypeId):List (Nat×Operand)->Option (List Prop×List (Nat×V))
 |[]=>some ([],[])
 |(i,x)::xs=>match jV T S (ty i) x with
  |some (gx,.val v)=>match v.owned with
   |true=>match v with
    | .slc true e d []=>match zhm S g ty xs with
      |some (qs,vs)=>some (qr L g gx++qs,(i,.slc true e d [])::vs)
      |none=>none
    |_=>none
   |false=>match v.isHole with
    |true=>none
    |false=>match zhm S g ty xs with
     |some (qs,vs)=>some (qr L g gx++qs,(i,v)::vs)
     |none=>none
  |_=>none
abbrev zO:=List V->Option (List Prop×V)
abbrev kn:=List (FuncId×zO)
def zdV:kn->FuncId->Option zO
 |[],_=>none
 |(k,f)::l,t=>match kQ k t with
  |true=>some f
  |false=>zdV l t
mutual
def zbV:V->V
 | .slc _ e d es=>.slc false e d.frz (L.frz es)
 | .agg fs=>.agg (zoU fs)
 | .tup fs=>.tup (zoU fs)
 | .box _ c=>.fn 1000000000 [zbV c]
 | .int k n=>.int k n
 | .bool b=>.bool b
 | .str s=>.str s
 | .fn f c=>.fn f c
 | .hole n=>.hole n
def zoU:List V->List V
 |[]=>[]
 |v::vs=>zbV v::zoU vs
end
def zpj(S:yb):List Operand->List TypeId->Bool
 |[],_=>false
 |x::xs,ts=>(match jV T S (ts.headD 0) x with
  |some (_,.val v)=>v.owned
  |some (_,.ag _ _ _ fs)=>V.owneds fs
  |_=>true)||zpj S xs (ts.drop 1)
def zCy(B:kn)(S:yb)(k:FuncId)(xs:List Operand)(ts:List TypeId)(br:Bool):Bool:=match br with
 |false=>false
 |true=>match zdV B (3000000000+k)with
  |some f=>match f []with
   |some _=>zpj T S xs ts
   |none=>true
  |none=>true
def zyA(B:kn)(k:FuncId)(r:V):V:=match zdV B (2000000000+k)with
 |some f=>match f []with
  |some _=>zbV L r
  |none=>r
 |none=>r
def ux(B:kn)(S:yb)(g:Option Bool)(o:Oper):Option (List Prop×A):=
 match o.op with
 | .move x=>match jV T S o.type x with
   |some (gx,a)=>some (qr L g gx,a)
   |none=>none
 | .assign x=>match jV T S o.type x with
   |some (gx,.val v)=>match v.owned with
    |true=>none
    |false=>some (qr L g gx,.val v)
   |some (gx,.rf s _ (i::p))=>match kI S s with
    |some (.tup _)=>none
    |some _=>some (qr L g gx,.rf s 0 (i::p))
    |none=>none
   |some (gx,.rf s _ [])=>match o.dst with
    |some d=>match zdV B (1000000000+d)with
     |some f=>match f []with
      |some _=>some (qr L g gx,.rf s 0 [])
      |none=>none
     |none=>none
    |none=>none
   |_=>none
 | .pick c a b=>match jV T S 0 c,jV T S 0 a,jV T S 0 b with
   |some (gc,.val (.bool c)),some (ga,.val (.bool a)),some (gb,.val (.bool b))=>
    some (qr L g gc++YO L g ((qr L none ga).map (L.imp c))++YO L g ((qr L none gb).map (L.imp (L.not c))),.val (.bool (L.pick c a b)))
   |_,_,_=>none
 | .binOp op xt x y _=>match jV T S xt x,jV T S xt y with
   |some (gx,.val (.bool a)),some (gy,.val (.bool b))=>match zfT T xt with
    |true=>match op with
     | .eql=>some (qr L g gx++qr L g gy,.val (.bool (L.eqB a b)))
     | .neq=>some (qr L g gx++qr L g gy,.val (.bool (L.not (L.eqB a b))))
     |_=>none
    |false=>none
   |some (gx,.val (.int k a)),some (gy,.val (.int k' b))=>match ikE k k' with
    |true=>match zCB L op k a b with
     |some (ps,v)=>some (qr L g gx++qr L g gy++YO L g ps,.val v)
     |none=>none
    |false=>match op with
     | .shr=>some (qr L g gx++qr L g gy++YO L g [L.le 0 b],.val (.int k (L.shr k a b)))
     |_=>none
   |some (gx,.val (.str a)),some (gy,.val (.str b))=>match zBj L op a b with
    |some (ps,v)=>some (qr L g gx++qr L g gy++YO L g ps,.val v)
    |none=>none
   |_,_=>none
 | .unOp op _ x=>match op,jV T S o.type x with
   | .not,some (gx,.val (.bool b))=>some (qr L g gx,.val (.bool (L.not b)))
   | .neg,some (gx,.val (.int k n))=>some (qr L g gx,.val (.int k (L.wrap k (L.sub 0 n))))
   |_,_=>none
 | .load t x=>match jV T S 0 x with
   |some (gx,.fz y)=>match vw L.v T false 20 t y with
    |some z=>some (qr L g gx++YO L g [L.ok false t y],.val z)
    |none=>none
   |some (gx,.val v)=>match v.fb? with
    |some y=>match zj9 T t y with
     |true=>some (qr L g gx,.val y)
     |false=>none
    |none=>none
   |some (gx,.ad s _ p)=>match kI S s with
    |some r=>match p,atR L T r p with
     |_::_,some (y,ps)=>match zj9 T t y with
      |true=>match y.owned with
       |false=>some (qr L g gx++YO L g ps,.val y)
       |true=>match y.isH with
        |true=>some (qr L g gx++YO L g ps,.rf s 0 p)
        |false=>match y with
         | .agg fs=>match V.flats fs with
           |true=>some (qr L g gx++YO L g ps,.ag s 0 p fs)
           |false=>none
         |_=>none
      |false=>none
     |_,_=>none
    |none=>none
   |some (gx,.rf s _ p)=>match kI S s with
    |some r=>match atR L T r p with
     |some (.box _ c,ps)=>match zj9 T t c with
      |true=>match c.owned with
       |false=>some (qr L g gx++YO L g ps,.val c)
       |true=>match c.isH with
        |true=>some (qr L g gx++YO L g ps,.rf s 0 (p++[0]))
        |false=>match c with
         | .agg fs=>match V.flats fs with
           |true=>some (qr L g gx++YO L g ps,.ag s 0 (p++[0]) fs)
           |false=>none
         |_=>none
      |false=>none
     |_=>none
    |none=>none
   |_=>none
 | .nilCheck x=>match jV T S 0 x with
   |some (gx,.rf s _ p)=>match kI S s with
    |some r=>match atR L T r p with
     |some (.box _ _,ps)=>some (qr L g gx++YO L g ps,.rf s 0 p)
     |_=>none
    |none=>none
   |_=>none
 | .fieldAddr st x f=>match Jn T st with
   |some fts=>match zgw fts f with
    |some (off,ft)=>match jV T S 0 x with
     |some (gx,.fz y)=>some (qr L g gx++YO L g [L.ok false st y],.fz (L.v.fld y f))
     |some (gx,.val v)=>match v.fb? with
      |some (.agg fs)=>match zla T off ft f fs with
       |true=>some (qr L g gx,.val (.fn 1000000000 [fs.getD f (.hole 0)]))
       |false=>none
      |_=>none
     |some (gx,.ad s _ p)=>match kI S s with
      |some r=>match p,atR L T r p with
       |_::_,some (.agg fs,ps)=>match zla T off ft f fs with
        |true=>some (qr L g gx++YO L g ps,.ad s 0 (p++[f]))
        |false=>none
       |_,_=>none
      |none=>none
     |some (gx,.rf s _ p)=>match kI S s with
      |some r=>match atR L T r p with
       |some (.box _ (.agg fs),ps)=>match zla T off ft f fs with
        |true=>some (qr L g gx++YO L g ps,.ad s 0 (p++[0,f]))
        |false=>none
       |_=>none
      |none=>none
     |_=>none
    |none=>none
   |none=>none
 | .indexAddr st x i=>match Qm T st,znA T S i with
   |some e,some (gi,n)=>match jV T S 0 x with
    |some (gx,.val (.slc false e' d es))=>match kQ e e' with
     |true=>some (qr L g gx++qr L g gi++YO L g [L.le 0 n,L.lt n (L.len es)],.fz (L.get es (L.nat n) d))
     |false=>none
    |some (gx,.rf s _ p)=>match kI S s with
     |some r=>match atR L T r p with
      |some (.slc true e' d es,ps)=>match kQ e e' with
       |true=>some (qr L g gx++qr L g gi++YO L g (ps++[L.le 0 n,L.lt n (L.len es)]),.ad s 0 (p++[L.nat n]))
       |false=>none
      |_=>none
     |none=>none
    |_=>none
   |_,_=>none
 | .index st x i=>match zdA T st with
   |true=>match jV T S 0 x,znA T S i with
    |some (gx,.val (.str s)),some (gi,n)=>some (qr L g gx++qr L g gi++YO L g [L.le 0 n,L.lt n (L.lenS s)],.val (.int .u8 (L.getS s n)))
    |_,_=>none
   |false=>none
 | .extract x i=>match jV T S 0 x with
   |some (gx,.val (.tup fs))=>match zfl fs i with
    |some y=>some (qr L g gx,.val y)
    |none=>none
   |some (gx,.rf s _ [])=>match kI S s with
    |some (.tup fs)=>match zfl fs i with
     |some y=>match y.owned with
      |true=>some (qr L g gx,.rf s 0 [i])
      |false=>some (qr L g gx,.val y)
     |none=>none
    |_=>none
   |_=>none
 | .slice st x lo hi none=>match jV T S 0 x with
   |some (gx,.val (.slc false e d es))=>match Qm T st with
    |some e'=>match kQ e e' with
     |true=>match zdS T S 0 lo,zdS T S (L.len es) hi with
      |some (gl,l),some (gh,h)=>some (qr L g gx++qr L g gl++qr L g gh++YO L g [L.le 0 l,L.le l h,L.le h (L.len es)],.val (.slc false e d (L.sli es l h)))
      |_,_=>none
     |false=>none
    |none=>none
   |some (gx,.val (.str s))=>match zdA T st with
    |true=>match zdS T S 0 lo,zdS T S (L.lenS s) hi with
     |some (gl,l),some (gh,h)=>some (qr L g gx++qr L g gl++qr L g gh++YO L g [L.le 0 l,L.le l h,L.le h (L.lenS s)],.val (.str (L.extS s l h)))
     |_,_=>none
    |false=>none
   |_=>none
 | .convert s d x=>match zhF T s,zhF T d,jV T S s x with
   |some _,some k,some (gx,.val (.int _ n))=>some (qr L g gx,.val (.int k (L.wrap k n)))
   |none,none,some (gx,.rf sl _ [])=>match zdA T d,Qm T s,kI S sl with
    |true,some e,some (.slc true e' _ es)=>match kQ e e',zhF T e,jb T e with
     |true,some .u8,some ti=>match kQ ti.cells 1 with
      |true=>some (qr L g gx++YO L g [L.byt es],.val (.str (L.strB es)))
      |false=>none
     |_,_,_=>none
    |_,_,_=>none
   |_,_,_=>none
 | .alloc t=>match jb T t with
   |some ti=>some ([],.val (.box t ti.zero))
   |none=>none
 | .box t x=>match jV T S t x with
   |some (gx,.val v)=>match v.owned with
    |false=>match zj9 T t v with
     |true=>some (qr L g gx,.val (.box t v))
     |false=>none
    |true=>none
   |_=>none
 | .makeSlice t l c=>match Qm T t with
   |some e=>match znA T S l,znA T S c,jb T e with
    |some (gl,n),some (gc,m),some ti=>some (qr L g gl++qr L g gc++YO L g [L.le 0 n,L.le n m,L.le m 2147483647],.val (.slc true e ti.zero (L.rep n ti.zero)))
    |_,_,_=>none
   |none=>none
 | .buildSlice t n parts=>match Qm T t with
   |some e=>match jb T e,zhm L T S g (fun _=>e) parts.toList with
    |some ti,some (ps,vs)=>match zia (n*ti.cells) 1048576 with
     |true=>match KZ (List.replicate n ti.zero) vs with
      |some es=>some (ps,.val (.slc true e ti.zero es))
      |none=>none
     |false=>none
    |_,_=>none
   |none=>none
 | .build t parts=>match jb T t with
   |some ⟨.agg fts,_,.agg zs⟩=>match zhm L T S g (zp1 fts) parts.toList with
    |some (ps,vs)=>match KZ zs vs with
     |some fs=>some (ps,.val (.agg fs))
     |none=>none
    |none=>none
   |_=>none
 | .makeFunc (.func f) first caps=>match first.toList,zhm L T S g (fun _=>0) (caps.toList.map fun x=>(0,x))with
   |[],some (ps,vs)=>match f==1000000000 with
    |true=>none
    |false=>some (ps,.val (.fn f (vs.map (·.2))))
   |_,_=>none
 | .call c=>match c.callee with
   | .builtin .len=>match c.args.toList,c.argTypes.toList with
     |[x],[t]=>match jV T S 0 x with
      |some (gx,a)=>match zeO L T S a with
       |some (.slc _ _ _ es,ps)=>match Qm T t with
        |some _=>some (qr L g gx++YO L g ps,.val (.int .i64 (L.len es)))
        |none=>none
       |some (.str s,ps)=>match zdA T t with
        |true=>some (qr L g gx++YO L g ps,.val (.int .i64 (L.lenS s)))
        |false=>none
       |_=>none
      |none=>none
     |_,_=>none
   | .builtin .min=>match c.args.toList with
     |[x,y]=>match jV T S o.type x,jV T S o.type y with
      |some (gx,.val (.int k a)),some (gy,.val (.int k' b))=>match ikE k k' with
       |true=>some (qr L g gx++qr L g gy,.val (.int k (L.imin a b)))
       |false=>none
      |_,_=>none
     |_=>none
   | .builtin .max=>match c.args.toList with
     |[x,y]=>match jV T S o.type x,jV T S o.type y with
      |some (gx,.val (.int k a)),some (gy,.val (.int k' b))=>match ikE k k' with
       |true=>some (qr L g gx++qr L g gy,.val (.int k (L.imax a b)))
       |false=>none
      |_,_=>none
     |_=>none
   | .value f=>match jV T S 0 f with
     |some (gf,.val (.fn k caps))=>match zfP L T S g c.args.toList c.argTypes.toList with
      |some (ps,vs,br)=>match k==1000000000 with
       |true=>none
       |false=>match zdV B k with
        |some ct=>match ct (vs++caps)with
         |some (qs,r)=>match zCy T B S k c.args.toList c.argTypes.toList br with
          |true=>match r.isFn with
           |true=>none
           |false=>some (qr L g gf++ps++YO L g (qs++zeL L r),.val (zyA L B k r))
          |false=>some (qr L g gf++ps++YO L g qs,.val (zyA L B k r))
         |none=>none
        |none=>none
      |none=>none
     |_=>none
   |_=>none
 |_=>none
def zil(s:Nat)(p:List Nat):List V->Nat->yb->Option (List Prop×List V×yb)
 |[],_,S=>some ([],[],S)
 |f::fs,i,S=>match f.leaf with
  |true=>match f.owned with
   |true=>match kI S s with
    |some r=>match atR L T r (p++[i])with
     |some (y,ps)=>match y.isH with
      |true=>match YB L T r (p++[i]) (.hole 1)with
       |some r'=>match zil s p fs (i+1) (Jh S s r')with
        |some (qs,ys,S')=>some (ps++qs,y::ys,S')
        |none=>none
       |none=>none
      |false=>none
     |none=>none
    |none=>none
   |false=>match zil s p fs (i+1) S with
    |some (qs,ys,S')=>some (qs,f::ys,S')
    |none=>none
  |false=>none
def zgd(s:Nat)(p:List Nat):List V->Nat->yb->Option (List Prop×List V×yb)
 |[],_,S=>some ([],[],S)
 |f::fs,i,S=>match f.leaf with
  |true=>match f.owned with
   |true=>match kI S s with
    |some r=>match atR L T r (p++[i])with
     |some (y,ps)=>match y.isH with
      |true=>match YB L T r (p++[i]) (.hole 1)with
       |some r'=>match zgd s p fs (i+1) (Jh S s r')with
        |some (qs,ys,S')=>some (ps++qs,y::ys,S')
        |none=>none
       |none=>none
      |false=>none
     |none=>none
    |none=>none
   |false=>match zgd s p fs (i+1) S with
    |some (qs,ys,S')=>some (qs,f::ys,S')
    |none=>none
  |false=>match f with
   | .agg gs=>match zil L T s (p++[i]) gs 0 S with
     |some (ps,zs,S1)=>match zgd s p fs (i+1) S1 with
      |some (qs,ys,S')=>some (ps++qs,.agg zs::ys,S')
      |none=>none
     |none=>none
   |_=>none
def KL(S:yb):A->Option (List Prop×V×yb)
 | .val x=>some ([],x,S)
 | .rf s _ p=>match kI S s with
   |some r=>match p with
    |[]=>some ([],r,KG s S)
    |i::q=>match r with
     | .tup fs=>match q with
       |[]=>match zfl fs i with
        |some y=>some ([],y,Jh S s (.tup (fs.set i (.hole y.size))))
        |none=>none
       |_=>none
     |_=>match atR L T r p with
      |some (y,ps)=>match y.isH with
       |true=>match YB L T r p (.hole 1)with
        |some r'=>some (ps,y,Jh S s r')
        |none=>none
       |false=>none
      |none=>none
   |none=>none
 | .ag s _ p fs=>match zgd L T s p fs 0 S with
   |some (ps,ys,S')=>some (ps,.agg ys,S')
   |none=>none
 |_=>none
def wS(S:yb)(o:Oper):Option (List Prop×yb):=
 match o.guard with
 |some _=>none
 |none=>match o.op,o.dst with
  | .assign x,some d=>match jV T S o.type x with
    |some (gx,.rf s _ p)=>match KL L T S (.rf s 0 p)with
     |some (ps,y,S1)=>match y.isHole with
      |true=>none
      |false=>match p with
       |[]=>match kQ s d with
        |true=>none
        |false=>some (qr L none gx++ps,jU (jU S1 d none (.val y)) s none (.rf d 0 []))
       |_=>match kI S s with
        |some (.tup _)=>some (qr L none gx++ps,jU S1 d none (.val y))
        |_=>none
     |none=>none
    |some (gx,.val v)=>match v.owned&& !v.isHole with
     |true=>some (qr L none gx,jU S d none (.val v))
     |false=>none
    |_=>none
  | .store t x v,none=>match jV T S t v with
    |some (gv,av)=>match KL L T S av with
     |some (ps,y,S1)=>match zj9 T t y&&y.solid&&KR 0 y.size with
      |true=>match jV T S1 0 x with
       |some (gx,.ad s _ p)=>match kI S1 s with
        |some r=>match p,zyW L T r p,YB L T r p y with
         |_::_,some (z,qs),some r'=>match kQ z.size y.size&&(z.isScalar&&y.isScalar|| !zaB T t)with
          |true=>some (qr L none gv++ps++qr L none gx++qs,match z.isScalar&&y.isScalar with
           |true=>Jh S1 s r'
           |false=>Jh (zlz s S1) s r')
          |false=>none
         |_,_,_=>none
        |none=>none
       |some (gx,.rf s _ p)=>match kI S1 s with
        |some r=>match atR L T r p,YB L T r (p++[0]) y with
         |some (.box _ z,qs),some r'=>match kQ z.size y.size&&(z.isScalar&&y.isScalar|| !zaB T t)with
          |true=>some (qr L none gv++ps++qr L none gx++qs,match z.isScalar&&y.isScalar with
           |true=>Jh S1 s r'
           |false=>Jh (zlz s S1) s r')
          |false=>none
         |_,_=>none
        |none=>none
       |_=>none
      |false=>none
     |none=>none
    |none=>none
  | .call ⟨.builtin .append,args,ats⟩,some d=>match args.toList,ats.toList with
    |[x,y],[t,t']=>match kQ t t' with
     |true=>match Qm T t with
      |some e=>match jV T S t x with
       |some (gx,ax)=>match KL L T S ax with
        |some (ps,.slc true e' dd es,S1)=>match jV T S1 t y with
         |some (gy,ay)=>match zeO L T S1 ay with
          |some (.slc oy ey _ es2,qs)=>match kQ e e'&&kQ e ey&&KR 0 (ub T e)with
           |true=>match oy&& !(zaB T e)with
            |false=>some (qr L none gx++ps++qr L none gy++qs++[L.nown es2,L.le (L.add (L.len es) (L.len es2)) 2147483647,L.solid es2],jU S1 d none (.val (.slc true e dd (L.app es es2))))
            |true=>match KL L T S1 ay with
             |some (rs,.slc true _ _ es3,S2)=>some (qr L none gx++ps++qr L none gy++qs++rs++[L.le (L.add (L.len es) (L.len es3)) 2147483647,L.solid es3],jU S2 d none (.val (.slc true e dd (L.app es es3))))
             |_=>none
           |false=>none
          |_=>none
         |none=>none
        |_=>none
       |none=>none
      |none=>none
     |false=>none
    |_,_=>none
  |_,_=>none
abbrev kj:=List V->Option (List Prop×V×V)
abbrev qV:=List (FuncId×Nat×Bool×kj)
def zfm:qV->FuncId->Option (Nat×Bool×kj)
 |[],_=>none
 |(k,f)::l,t=>match kQ k t with
  |true=>some f
  |false=>zfm l t
def ioS(S:yb):A->Option (List Prop×V×yb×(V->Option yb))
 | .rf s _ p=>match kI S s with
   |some r=>match p with
    |[]=>match r.isH with
     |true=>some ([],r,KG s S,fun y=>some (Jh S s y))
     |false=>none
    |i::q=>match atR L T r (i::q)with
     |some (x,ps)=>match x.isH with
      |true=>match YB L T r (i::q) (.hole 1)with
       |some r1=>some (ps,x,Jh S s r1,fun y=>match YB L T r (i::q) y with
        |some r2=>some (Jh S s r2)
        |none=>none)
       |none=>none
      |false=>none
     |none=>none
   |none=>none
 | .ag s _ p fs=>match kI S s with
   |some r=>match p with
    |[]=>none
    |i::q=>match atR L T r (i::q)with
     |some (.agg gs,ps)=>match zkp fs gs with
      |true=>match YB L T r (i::q) (.hole (V.sizes gs))with
       |some r1=>some (ps,.agg (mrg fs gs),Jh S s r1,fun y=>match y with
        | .agg xs=>match YB L T r (i::q) (.agg (zjX fs gs xs))with
          |some r2=>some (Jh S s r2)
          |none=>none
        |_=>none)
       |none=>none
      |false=>none
     |_=>none
   |none=>none
 |_=>none
def iS(B:kn)(Bi:qV)(S:yb)(o:Oper):Option (List Prop×yb):=
 match o.guard with
 |some _=>none
 |none=>match o.op with
  | .call ⟨.value (.func k),args,ats⟩=>match zdV B k with
    |some _=>none
    |none=>match zfm Bi k with
     |some (j,false,c)=>match zaG (j%1000) args.toList with
      |some x=>match jV T S 0 x with
       |some (gx,a)=>match ioS L T S a with
        |some (ps,y,S1,back)=>match zfP L T S1 none (jl (j%1000) args.toList) (jl (j%1000) ats.toList)with
         |some (qs,vs,br)=>match c (Jw (j%1000) y vs)with
          |some (rs,r,y')=>match back y' with
           |some S2=>match (br&&(r.isFn||y'.isFn))||(jw j&& !(zbw a&&y.bare))with
            |true=>none
            |false=>some (qr L none gx++ps++qs++rs++(match br with
             |true=>zeL L r++zeL L y'
             |false=>[]),match o.dst with
             |some d=>jU S2 d none (.val r)
             |none=>S2)
           |none=>none
          |none=>none
         |none=>none
        |none=>none
       |none=>none
      |none=>none
     |_=>none
  |_=>none
def vS(B:kn)(Bi:qV)(S:yb)(o:Oper):Option (List Prop×yb):=
 match o.guard with
 |some _=>none
 |none=>match o.op with
  | .call ⟨.value (.func k),args,ats⟩=>match zdV B k with
    |some _=>none
    |none=>match zfm Bi k with
     |some (j,true,c)=>match zaG j args.toList with
      |some x=>match jV T S (ats.toList.getD j 0) x with
       |some (gx,a)=>match KL L T S a with
        |some (ps,y,S1)=>match zfP L T S1 none (jl j args.toList) (jl j ats.toList)with
         |some (qs,vs,br)=>match c (Jw j y vs)with
          |some (rs,r,_)=>match br&&r.isFn with
           |true=>none
           |false=>some (qr L none gx++ps++qs++rs++(match br with
            |true=>zeL L r
            |false=>[]),match o.dst with
            |some d=>jU S1 d none (.val r)
            |none=>S1)
          |none=>none
         |none=>none
        |none=>none
       |none=>none
      |none=>none
     |_=>none
  |_=>none
def bS(S:yb)(o:Oper):Option (List Prop×yb):=
 match o.guard with
 |some _=>none
 |none=>match o.op,o.dst with
  | .box t x,some d=>match jV T S t x with
    |some (gx,.rf s _ p)=>match p with
     |[]=>match kI S s with
      |some (.agg fs)=>match !(kQ s d)&&zkp fs fs with
       |true=>some (qr L none gx,jU (jU (KG s S) d none (.val (.box t (.agg fs)))) s none (.ag d 0 [0] fs))
       |false=>none
      |_=>none
     |_=>none
    |_=>none
  |_,_=>none
def zfQ(ty:Nat->TypeId):yb->List (Nat×Operand)->Option (List Prop×List (Nat×V)×yb)
 |S,[]=>some ([],[],S)
 |S,(i,x)::xs=>match jV T S (ty i) x with
  |some (gx,a)=>match KL L T S a with
   |some (ps,y,S1)=>match y.isHole with
    |true=>none
    |false=>match zfQ ty S1 xs with
     |some (qs,vs,S2)=>some (qr L none gx++ps++qs,(i,y)::vs,S2)
     |none=>none
   |none=>none
  |none=>none
def mS(S:yb)(o:Oper):Option (List Prop×yb):=
 match o.guard with
 |some _=>none
 |none=>match o.op,o.dst with
  | .build t parts,some d=>match jb T t with
    |some ⟨.agg fts,_,.agg zs⟩=>match zfQ L T (zp1 fts) S parts.toList with
     |some (ps,vs,S1)=>match KZ zs vs with
      |some fs=>some (ps,jU S1 d none (.val (.agg fs)))
      |none=>none
     |none=>none
    |_=>none
  | .buildSlice t n parts,some d=>match Qm T t with
    |some e=>match jb T e,zfQ L T (fun _=>e) S parts.toList with
     |some ti,some (ps,vs,S1)=>match zia (n*ti.cells) 1048576&&KR 0 n with
      |true=>match KZ (List.replicate n ti.zero) vs with
       |some es=>some (ps,jU S1 d none (.val (.slc true e ti.zero es)))
       |none=>none
      |false=>none
     |_,_=>none
    |none=>none
  |_,_=>none
def fS(S:yb)(o:Oper):Option (List Prop×yb):=
 match o.guard with
 |some _=>none
 |none=>match o.op,o.dst with
  | .slice st x lo hi mx,some d=>match jV T S 0 x with
    |some (gx,.rf s _ p)=>match p with
     |[]=>match kI S s with
      |some (.slc true e dd es)=>match Qm T st with
       |some e'=>match kQ e e'&& !(kQ s d)&&(hi.isSome|| !mx.isSome)with
        |true=>match zdS T S 0 lo,zdS T S (L.len es) hi,zdS T S (L.len es) mx with
         |some (gl,l),some (gh,h),some (gm,m)=>some (qr L none gx++qr L none gl++qr L none gh++qr L none gm++[L.le 0 l,L.le l h,L.le h m,L.le m (L.len es)],
          jU (jU (KG s S) s none (.val (.slc false e dd.frz (L.frz es)))) d none (.val (.slc false e dd.frz (L.sli (L.frz es) l h))))
         |_,_,_=>none
        |false=>none
       |none=>none
      |_=>none
     |_=>none
    |_=>none
  |_,_=>none
def zh9:List Oper->Nat->Option Oper
 |[],_=>none
 |x::_,0=>some x
 |_::l,i+1=>zh9 l i
def znT(L:Alg)(g:Option Bool)(b:Bool):Option Bool:=match g with
 |none=>some b
 |some a=>some (L.and a b)
def gdS(ops:List Oper)(S:yb)(o:Oper):Option (Option Bool):=match o.guard with
 |none=>some none
 |some (j,want)=>match zh9 ops j with
  |some o'=>match o'.dst with
   |some t=>match look S t with
    |some (g,.val (.bool b))=>match want with
     |true=>some (znT L g b)
     |false=>some (znT L g (L.not b))
    |_=>none
   |none=>none
  |none=>none
def kT:Op->Bool
 | .assign _=>true
 | .store _ _ _=>true
 | .call ⟨.builtin _,_,_⟩=>true
 |_=>false
def zB3:Op->Bool
 | .call ⟨.builtin .len,_,_⟩=>true
 | .call ⟨.builtin .min,_,_⟩=>true
 | .call ⟨.builtin .max,_,_⟩=>true
 |_=>false
def zyu(o:Oper):Bool:=match o.op with
 | .assign _=>zaB T o.type
 |_=>false
def kO(o:Oper):Bool:=kT o.op&& !zB3 o.op&& !zyu T o
def YV(lo:Nat)(st:Bool)(o:Oper):Bool:=(match o.dst with
    |some d=>zia lo d
    |none=>true)&&(!st||match o.op with
    | .store t _ _=>zaB T t
    | .call ⟨.builtin .append,_,_⟩=>false
    | .slice .. =>false
    |_=>true)
def zco(lo:Nat)(st:Bool):List Oper->Bool
 |[]=>true
 |o::l=>YV T lo st o&&zco lo st l
def znu:Option (Option Bool×A)->Bool
 |some (_,.val x)=>x.owned
 |_=>false
def zBl(B:kn)(n:Nat)(ops:List Oper)(S:yb)(o:Oper):Option (List Prop×yb):=
 match gdS L ops S o with
 |some g=>match o.dst with
  |some d=>match KR d n with
   |true=>match ux L T B S g o with
    |some (ps,a)=>match a.at0 d|| !kO T o&&znu (look S d)with
     |true=>none
     |false=>some (ps,jU S d g a)
    |none=>match kO T o with
     |true=>wS L T S o
     |false=>none
   |false=>none
  |none=>wS L T S o
 |none=>none
def ZW:List Prop->Prop->Prop
 |[],r=>r
 |p::l,r=>p/\ZW l r
def evS(B:kn)(n:Nat)(ops:List Oper):List Oper->yb->(yb->Prop)->Prop
 |[],S,K=>K S
 |o::l,S,K=>match zBl L T B n ops S o with
  |some (ps,S')=>ZW ps (evS B n ops l S' K)
  |none=>False
def zxW(B:kn)(Bi:qV)(n:Nat)(ops:List Oper)(S:yb)(o:Oper):Option (List Prop×yb):=
 match gdS L ops S o with
 |some g=>match o.dst with
  |some d=>match KR d n with
   |true=>match ux L T B S g o with
    |some (ps,a)=>match a.at0 d with
     |true=>none
     |false=>some (ps,jU S d g a)
    |none=>match wS L T S o with
     |some r=>some r
     |none=>match iS L T B Bi S o with
      |some r=>some r
      |none=>match bS L T S o with
       |some r=>some r
       |none=>match mS L T S o with
        |some r=>some r
        |none=>match fS L T S o with
         |some r=>some r
         |none=>vS L T B Bi S o
   |false=>none
  |none=>match wS L T S o with
   |some r=>some r
   |none=>match iS L T B Bi S o with
    |some r=>some r
    |none=>match bS L T S o with
     |some r=>some r
     |none=>match mS L T S o with
      |some r=>some r
      |none=>match fS L T S o with
       |some r=>some r
       |none=>vS L T B Bi S o
 |none=>none
def zyl(S:yb)(n:Nat)(o:Oper):Option (Nat×List Prop×List V×Bool×Bool):=
 match o.guard with
 |some _=>none
 |none=>match o.op,o.dst with
  | .binOp op xt x (.const (.slice none 0 0)) _,some d=>match zyv op with
    |some ng=>match KR d n with
     |true=>match Qm T xt,jV T S xt x with
      |some _,some (gx,a)=>match zeO L T S a with
       |some (.slc oo _ dd es,ps)=>some (d,qr L none gx++ps,es,oo&&dd.isBox,ng)
       |_=>none
      |_,_=>none
     |false=>none
    |none=>none
  |_,_=>none
def zM(PS:List Nat)(o:Oper):Bool:=match o.op,o.dst with
 | .call ⟨.value (.func _),_,_⟩,some d=>jW PS (d+600)
 |_,_=>false
def zBk(B:kn)(n:Nat)(ops:List Oper)(S:yb)(o:Oper):Option (List Prop×yb):=
 match gdS L ops S o with
 |some g=>match o.dst with
  |some d=>match KR d n with
   |true=>match ux L T B S g o with
    |some (ps,.val y)=>match y.owned with
     |true=>some (ps,jU (KG d (jU S d g (.val y))) d g (.val (zbV L y)))
     |false=>none
    |_=>none
   |false=>none
  |none=>none
 |none=>none
def zyj:List Nat->List Nat->Bool
 |[],_::_=>true
 |i::q,j::p=>match kQ i j with
  |true=>zyj q p
  |false=>false
 |_,[]=>false
def zfn(d:Nat)(p:List Nat):yb->yb
 |[]=>[]
 |(k,g,a)::l=>match a.at0 d with
  |true=>match a with
   | .rf _ _ q=>match zyj q p with
     |true=>(k,g,a)::zfn d p l
     |false=>zfn d p l
   |_=>zfn d p l
  |false=>(k,g,a)::zfn d p l
def kZ(PS:List Nat)(o:Oper):Bool:=match o.op,o.dst with
 | .store _ _ _,none=>jW PS 997
 |_,_=>false
def zBo(S:yb)(o:Oper):Option (List Prop×yb):=
 match o.guard with
 |some _=>none
 |none=>match o.op,o.dst with
  | .store t x v,none=>match jV T S t v with
    |some (gv,av)=>match KL L T S av with
     |some (ps,y,S1)=>match zj9 T t y&&y.solid&&KR 0 y.size with
      |true=>match jV T S1 0 x with
       |some (gx,.ad s _ p)=>match kI S1 s with
        |some r=>match p,zyW L T r p,YB L T r p y with
         |_::_,some (z,qs),some r'=>match kQ z.size y.size&& !(z.isScalar&&y.isScalar)with
          |true=>some (qr L none gv++ps++qr L none gx++qs,Jh (zfn s p S1) s r')
          |false=>none
         |_,_,_=>none
        |none=>none
       |_=>none
      |false=>none
     |none=>none
    |none=>none
  |_,_=>none
def nM(PS:List Nat)(o:Oper):Bool:=match o.op,o.dst with
 | .assign _,some d=>jW PS (d+400)
 |_,_=>false
def zBm(B:kn)(Bi:qV)(n:Nat)(ops:List Oper)(S:yb)(o:Oper):Option (List Prop×yb):=
 match o.op,o.dst with
 | .assign (.const (.slice none 0 0)),some d=>match o.guard with
   |some _=>none
   |none=>match KR d n with
    |true=>match Qm T o.type with
     |some e=>some ([],jU S d none (.val (.slc true e V.nilG [])))
     |none=>none
    |false=>none
 |_,some d=>match zxW L T B Bi n ops S o with
  |some (ps,S1)=>match kI S1 d with
   |some (.slc true e _ es)=>some (ps++[L.lt 0 (L.len es)],jU (KG d S1) d none (.val (.slc true e V.nilG es)))
   |_=>none
  |none=>none
 |_,none=>none
def zbW(PS:List Nat):yb->List Operand->yb
 |S,[]=>S
 |S,.tmp t::l=>match jW PS (t+800)with
  |true=>match kI S t with
   |some (.slc true e d es)=>zbW PS (jU (KG t S) t none (.val (zbV L (.slc true e d es)))) l
   |_=>zbW PS S l
  |false=>zbW PS S l
 |S,_::l=>zbW PS S l
def zjT:Op->List Operand
 | .call ⟨.value (.func _),args,_⟩=>args.toList
 |_=>[]
def giS(B:kn)(Bi:qV)(n:Nat)(ops:List Oper)(S:yb)(o:Oper):Option (Bool×List Prop×yb×yb):=
 match o.guard with
 |none=>none
 |some _=>match gdS L ops S o,o.dst with
  |some (some b),some d=>match KR d n with
   |true=>match iS L T B Bi S {o with guard:=none}with
    |some (ps,S1)=>match look S1 d with
     |some (none,.val r)=>some (b,ps,S1,jU S d (some b) (.val r))
     |_=>none
    |none=>none
   |false=>none
  |_,_=>none
def rS(_:Nat)(_:yb)(_:Oper):Option (List Prop×yb):=none
def rM(PS:List Nat)(o:Oper):Bool:=match o.op,o.dst with
 | .slice _ _ _ _ _,some d=>jW PS (d+300)
 |_,_=>false
def c2L(_:List Nat)(_:Nat)(_:yb)(_:Oper):List Oper->Option (List Prop×yb):=fun _=>none
def evL(B:kn)(Bi:qV)(PS:List Nat)(n:Nat)(ops:List Oper):List Oper->yb->(yb->Prop)->Prop
 |[],S,K=>K S
 |o::l,S,K=>match zyl L T S n o with
  |some (d,ps,es,xx,ng)=>ZW ps (L.imp (L.eqI (L.len es) 0) (evL B Bi PS n ops l (jU S d none (.val (.bool (!ng)))) K)/\(match xx with
   |true=>L.imp (L.not (L.eqI (L.len es) 0)) (evL B Bi PS n ops l (jU S d none (.val (.bool ng))) K)
   |false=>evL B Bi PS n ops l (jU S d none (.val (.bool ng))) K))
  |none=>match giS L T B Bi n ops S o with
   |some (b,ps,S1,S0)=>L.imp b (ZW ps (evL B Bi PS n ops l S1 K))/\L.imp (L.not b) (evL B Bi PS n ops l S0 K)
   |none=>match c2L PS n S o l with
    |some (ps,S')=>ZW ps (match l with
     |_::l2=>evL B Bi PS n ops l2 S' K
     |[]=>False)
    |none=>match (match rM PS o with
     |true=>rS n S o
     |false=>match kZ PS o with
      |true=>zBo L T S o
      |false=>match zM PS o with
       |true=>zBk L T B n ops S o
       |false=>match nM PS o with
        |true=>zBm L T B Bi n ops S o
        |false=>zxW L T B Bi n ops (zbW L PS S (zjT o.op)) o)with
     |some (ps,S')=>ZW ps (evL B Bi PS n ops l S' K)
     |none=>False
def zrW(lo:Nat):List Nat->List Nat
 |[]=>[]
 |x::l=>match zia lo x with
  |true=>match KR x (lo+1000)with
   |true=>(x-lo)::zrW lo l
   |false=>zrW lo l
  |false=>match zia 1000000000 x with
   |true=>zrW lo l
   |false=>[]
def zta(base:Nat)(ks:List Nat)(id:Nat):List Nat:=match ks with
 |[]=>[]
 |x::_=>match zia 1000000000 x with
  |true=>zrW (base+1000*id) ks
  |false=>[]
def zk6(ks:List Nat)(id:Nat):List Nat:=zta 2000000000 ks id
def znG(ks:List Nat)(id:Nat):List Nat:=zta 1000000000 ks id
def zln(ks:List Nat)(id:Nat):List Nat:=zta 3000000000 ks id
def appS:List Oper->List Oper->List Oper
 |[],l=>l
 |x::k,l=>x::appS k l
def zhv(H:List Nat):Nat->List Oper->List Oper
 |_,[]=>[]
 |i,o::l=>match jW H i with
  |true=>zhv H (i+1) l
  |false=>o::zhv H (i+1) l
def zoE(ops:List Oper):List Nat->List Oper
 |[]=>[]
 |i::H=>match zh9 ops i with
  |some o=>o::zoE ops H
  |none=>zoE ops H
def zE6(ops:List Oper)(H:List Nat):List Oper:=match H with
 |[]=>ops
 |i::H=>appS (zoE ops (i::H)) (zhv (i::H) 0 ops)
def fz1(S:yb)(s:Nat):yb:=match kI S s with
 |some (.slc true e d es)=>jU (KG s S) s none (.val (.slc false e d.frz (L.frz es)))
 |some (.box e c)=>jU (KG s S) s none (.val (.box e (zbV L c)))
 |_=>S
def fz2(S:yb)(s:Nat):yb:=match kI S s with
 |some (.box _ c)=>jU (KG s S) s none (.val (.fn 1000000000 [zbV L c]))
 |_=>S
def ghN:V->V
 | .box _ _=>.int .i64 0
 |d=>d.frz
def gh1(S:yb)(s:Nat):yb:=match kI S s with
 |some (.slc true e d es)=>jU (KG s S) s none (.val (.slc true e (ghN d) es))
 |_=>S
def gh2(S:yb)(s:Nat):yb:=match kI S s with
 |some (.box e (.agg (.slc true e' d es::fs)))=>jU (KG s S) s none (.val (.box e (.agg (.slc true e' (ghN d) es::fs))))
 |_=>S
def fzL:List Nat->yb->yb
 |[],S=>S
 |s::l,S=>match zia 900 s with
  |true=>fzL l (fz2 L S (s-900))
  |false=>match zia 700 s with
   |true=>fzL l (gh2 S (s-700))
   |false=>match zia 500 s with
    |true=>fzL l (gh1 S (s-500))
    |false=>fzL l (fz1 L S s)
def kM(PS:List Nat)(o:Oper):Bool:=match o.op with
 | .assign (.tmp t)=>match jW PS t with
   |true=>false
   |false=>kO T o
 | .call ⟨.builtin .append,args,_⟩=>match args.toList,o.dst with
   |[.tmp t,_],some _=>match jW PS t with
    |true=>false
    |false=>kO T o
   |_,_=>kO T o
 | .call ⟨.value (.func _),_,_⟩=>jW PS 999||zM PS o||(jW PS 995&&(match o.dst with
   |some d=>jW PS (d+800)
   |none=>false))||(jW PS 996&&(match o.dst with
   |some d=>jW PS (d+700)
   |none=>false))
 |_=>kO T o
def zsk:List (Nat×Operand)->List Operand
 |[]=>[]
 |(_,x)::l=>x::zsk l
def zBT:Op->Option (List Operand)
 | .assign x=>some [x]
 | .build _ ps=>some (zsk ps.toList)
 | .buildSlice _ _ ps=>some (zsk ps.toList)
 | .call ⟨.builtin .append,args,_⟩=>some args.toList
 |_=>none
def zzz(S:yb):Operand->Bool
 | .tmp t=>match look S t with
   |some (none,.val x)=> !x.owned
   |_=>false
 | .global _=>false
 |_=>true
def zk8(S:yb):List Operand->Bool
 |[_,y]=>zzz S y
 |_=>false
def zpQ(S:yb):List Operand->List TypeId->Bool
 |[.tmp v,.tmp u],[t,_]=>(match look S u with
  |some (none,.val z)=>z.owned
  |_=>false)&& !(kQ v u)&&(match Qm T t with
  |some e=>zaB T e
  |none=>false)
 |_,_=>false
def zn2(PS:List Nat)(S:yb):Operand->Bool
 | .tmp t=>match look S t with
   |some (none,.val x)=> !x.owned||jW PS t
   |_=>false
 | .global _=>false
 |_=>true
def zlT(PS:List Nat)(S:yb):List Operand->Bool
 |[]=>true
 |x::l=>zn2 PS S x&&zlT PS S l
def pS(PS:List Nat)(S:yb)(o:Oper):Option (List Prop×yb):=
 match zBT o.op with
 |some l=>match zlT PS S l with
  |true=>match o.guard with
   |some _=>none
   |none=>match o.op,o.dst with
    | .assign x,some d=>match jV T S o.type x with
      |some (gx,a)=>match KL L T S a with
       |some (ps,y,S1)=>match y.isHole with
        |true=>none
        |false=>some (qr L none gx++ps,jU S1 d none (.val y))
       |none=>none
      |none=>none
    | .call ⟨.builtin .append,args,ats⟩,some _=>match zk8 S args.toList||zpQ T S args.toList ats.toList with
      |true=>wS L T S o
      |false=>none
    |_,_=>mS L T S o
  |false=>none
 |none=>none
def zrP(PS:List Nat):A->Bool
 | .rf s _ _=>jW PS s
 | .ad s _ _=>jW PS s
 | .ag s _ _ _=>jW PS s
 |_=>false
def zoH(PS:List Nat)(S:yb):Operand->Bool
 | .tmp t=>match look S t with
   |some (none,.val x)=> !x.owned|| !jW PS (t+800)
   |some (none,.fz _)=>true
   |some (none,.rf s _ _)=> !jW PS (s+800)
   |some (none,.ad s _ _)=> !jW PS (s+800)
   |_=>false
 | .global _=>false
 |_=>true
def zoG(PS:List Nat)(S:yb):List Operand->Bool
 |[]=>true
 |x::l=>zoH PS S x&&zoG PS S l
def zyt(PS:List Nat)(S:yb)(o:Oper):Bool:=match o.op with
 | .call ⟨.builtin .append,args,ats⟩=>match args.toList,ats.toList with
   |[.tmp tx,.tmp ty],[t,_]=>match look S tx,look S ty with
    |some (none,.rf s _ (_::_)),some (none,.val _)=>(match kI S s with
     |some (.slc ..)=>true
     |some (.box ..)=>true
     |some (.agg ..)=>true
     |_=>false)&& !(kQ s ty)&&jW PS (s+800)&&(match Qm T t with
     |some e=>zaB T e
     |none=>false)
    |_,_=>false
   |_,_=>false
 |_=>false
def zpU(PS:List Nat)(S:yb)(o:Oper):Bool:=match o.op with
 | .store _ (.tmp tx) (.tmp tv)=>match look S tv with
   |some (none,.val y)=> !y.owned&&(match look S tx with
    |some (none,.ad s _ _)=>jW PS (s+800)&&(match kI S s with
     |some _=>true
     |none=>false)
    |some (none,.rf s _ _)=>jW PS (s+800)&&(match kI S s with
     |some _=>true
     |none=>false)
    |some (none,.val _)=>jW PS (tx+800)&&(match kI S tx with
     |some _=>true
     |none=>false)
    |_=>false)
   |_=>false
 |_=>false
def zeV(S:yb):List Operand->Bool
 |[]=>true
 | .tmp t::l=>(match look S t with
   |some (none,.val _)=>true
   |_=>false)&&zeV S l
 |_::l=>zeV S l
def zpV(Bi:qV)(PS:List Nat)(S:yb)(o:Oper):Bool:=match o.op with
 | .call ⟨.value (.func k),args,_⟩=>match zfm Bi k with
   |some (j,false,_)=>match zaG (j%1000) args.toList with
    |some (.tmp x)=>(match look S x with
     |some (none,.val z)=>z.owned&&jW PS (x+800)
     |some (none,.rf s _ [])=>jW PS (s+800)
     |_=>false)&&zeV S (jl (j%1000) args.toList)
    |_=>false
   |_=>false
 |_=>false
def zEN(B:kn)(Bi:qV)(PS:List Nat)(n:Nat)(ops:List Oper)(S:yb)(o:Oper)(d:Nat):Option (List Prop×yb):=
 match o.guard,KR d n with
 |none,true=>match kM T PS o with
  |true=>match zyt T PS S o with
   |true=>wS L T S o
   |false=>match zpV Bi PS (zbW L PS S (zjT o.op)) o with
    |true=>iS L T B Bi (zbW L PS S (zjT o.op)) o
    |false=>none
  |false=>match zoG PS S o.op.operands.toList with
   |true=>match ux L T B S none o with
    |some (ps,a)=>match a.at0 d||zrP PS a||znu (look S d)with
     |true=>none
     |false=>some (ps,jU S d none a)
    |none=>none
   |false=>none
 |_,_=>none
def zrL(B:kn)(Bi:qV)(PS:List Nat)(n:Nat)(ops:List Oper)(S:yb)(o:Oper):Option (List Prop×yb):=
 match gdS L ops S o with
 |some g=>match o.dst with
  |some d=>match KR d n with
   |true=>match ux L T B S g o with
    |some (ps,a)=>match zM PS o with
     |true=>match g,a with
      |none,.val y=>match y.owned with
       |true=>some (ps,jU (KG d (jU S d none (.val y))) d none (.val (zbV L y)))
       |false=>none
      |_,_=>none
     |false=>match a.at0 d||zrP PS a|| !kM T PS o&&znu (look S d)with
      |true=>none
      |false=>some (ps,jU S d g a)
    |none=>match kM T PS o with
     |true=>match wS L T S o with
      |some r=>some r
      |none=>vS L T B Bi S o
     |false=>match znu (look S d)with
      |true=>none
      |false=>pS L T PS S o
   |false=>none
  |none=>wS L T S o
 |none=>none
def zBn(B:kn)(Bi:qV)(PS:List Nat)(n:Nat)(ops:List Oper)(S:yb)(o:Oper):Option (List Prop×yb):=
 match o.dst with
 |some d=>match jW PS (d+800)with
  |true=>zEN L T B Bi PS n ops S o d
  |false=>zrL L T B Bi PS n ops S o
 |none=>match jW PS 998 with
  |true=>match o.guard,kM T PS o&&zpU PS S o with
   |none,true=>wS L T S o
   |_,_=>none
  |false=>zrL L T B Bi PS n ops S o
def evP(B:kn)(Bi:qV)(PS:List Nat)(n:Nat)(ops:List Oper):List Oper->yb->(yb->Prop)->Prop
 |[],S,K=>K S
 |o::l,S,K=>match zBn L T B Bi PS n ops S o with
  |some (ps,S')=>ZW ps (evP B Bi PS n ops l S' K)
  |none=>False
def zpm:List Nat->yb->Bool
 |[],_=>true
 |s::l,S=>(match look S s with
  |none=>true
  |some _=>false)&&zpm l S
abbrev Yw:=Exit->yb->Prop
def zcl(next:yb->Prop)(Q:Yw):Yw:=fun e S=>match e with
 | .normal=>next S
 |e=>Q e S
def zAt(id:Nat)(Q:Yw):Yw:=fun e S=>match e with
 | .exit id'=>match kQ id' id with
   |true=>Q .normal S
   |false=>Q e S
 |e=>Q e S
abbrev YQ:=Code->Yw->yb->Prop
def Zq(lp:YQ)(B:kn)(Bi:qV)(n:Nat)(ks:List Nat):Code->Yw->yb->Prop
 | .skip,Q,S=>Q .normal S
 | .seq x y,Q,S=>Zq lp B Bi n ks x (zcl (Zq lp B Bi n ks y Q) Q) S
 | .region id ops draw,Q,S=>match draw with
   |true=>match zk6 ks id,zln ks id with
    |[],[]=>evS L T B n ops.toList ops.toList (fzL L (znG ks id) (Yt ks S)) (Q .normal)
    |ps,hs=>match zpm ps (fzL L (znG ks id) (Yt ks S))with
     |true=>evP L T B Bi ps n ops.toList (zE6 ops.toList hs) (fzL L (znG ks id) (Yt ks S)) (Q .normal)
     |false=>False
   |false=>evL L T B Bi (zk6 ks id) n ops.toList ops.toList (fzL L (znG ks id) (Yt ks S)) (Q .normal)
 | .cond c x y,Q,S=>match jV T S 0 c with
   |some (none,.val (.bool b))=>L.ifP b (Zq lp B Bi n ks x Q (Yt ks S)) (Zq lp B Bi n ks y Q (Yt ks S))
   |_=>False
 | .block id c,Q,S=>Zq lp B Bi n ks c (zAt id Q) S
 | .loop c,Q,S=>lp c Q (Yt ks S)
 | .exit id,Q,S=>Q (.exit id) S
 | .ret,Q,S=>Q .ret S
 |_,_,_=>False
def YU:List ResultVar->yb->Option (List Prop×List V)
 |[],_=>some ([],[])
 | .tmp t::l,S=>match jV T S 0 (.tmp t)with
   |some (gx,a)=>match KL L T S a with
    |some (ps,y,S1)=>match YU l S1 with
     |some (qs,ys)=>some (qr L none gx++ps++qs,y::ys)
     |none=>none
    |none=>none
   |none=>none
 | .cell t ty::l,S=>match kI S t with
   |some (.box _ c)=>match zj9 T ty c with
    |true=>match YU l (KG t S)with
     |some (qs,ys)=>some (qs,c::ys)
     |none=>none
    |false=>none
   |_=>none
def Jg:List V->V
 |[x]=>x
 |l=>.tup l
def zsA(res:List ResultVar)(r:V):Yw:=fun e S=>match e with
 | .ret=>match YU L T res S with
   |some (ps,l)=>ZW ps (Jg l=r)
   |none=>False
 | .normal=>match YU L T res S with
   |some (ps,l)=>ZW ps (Jg l=r)
   |none=>False
 |_=>False
def Kh:List V->List V
 |[]=>[]
 |[_]=>[]
 |x::l=>x::Kh l
def zaD:List V->V
 |[]=>.hole 0
 |[x]=>x
 |_::l=>zaD l
def zBw(res:List ResultVar)(j:Nat)(r y:V):Yw:=fun e S=>match e with
 | .ret=>match YU L T (res++[.tmp j]) S with
   |some (ps,l)=>ZW ps (Jg (Kh l)=r/\zaD l=y)
   |none=>False
 | .normal=>match YU L T (res++[.tmp j]) S with
   |some (ps,l)=>ZW ps (Jg (Kh l)=r/\zaD l=y)
   |none=>False
 |_=>False
def kJ:Nat->List V->yb
 |_,[]=>[]
 |i,x::l=>(i,none,.val x)::kJ (i+1) l
end
end Go.Ax
namespace Go.Ax
def uM:Lv:={toI:=V.toI,toB:=V.toB,toS:=V.toS,toL:=V.toL,fld:=V.fld}
def OkS(T:kH)(t:TypeId)(y:V):Prop:=vw uM T true 20 t y=some y\/∃z,vw uM T true 20 t y=some z/\y.size=z.size/\y.isScalar=z.isScalar
def yz(T:kH):Alg where
 v:=uM
 wrap:=fun k n=>k.wrap n
 add:=fun a b=>a+b
 sub:=fun a b=>a-b
 mul:=fun a b=>a*b
 quo:=fun a b=>a.tdiv b
 rem:=fun a b=>a.tmod b
 band:=fun k a b=>zdU k a b
 shr:=fun k a b=>zgg k a b
 imin:=fun a b=>min a b
 imax:=fun a b=>max a b
 eqI:=fun a b=>a==b
 leI:=fun a b=>decide (a<=b)
 ltI:=fun a b=>decide (a<b)
 eqB:=fun a b=>a==b
 not:=fun a=> !a
 and:=fun a b=>a&&b
 pick:=fun c a b=>bif c then a else b
 eqS:=fun a b=>a.toList==b.toList
 ltS:=fun a b=>Op.bytesLess a.toList b.toList
 appS:=fun a b=>a++b
 lenS:=fun a=>(a.size:Int)
 getS:=fun s n=>((s.data.getD n.toNat 0).toNat:Int)
 extS:=fun s l h=>s.extract l.toNat h.toNat
 len:=fun es=>(es.length:Int)
 get:=fun es i d=>es.getD i d
 set:=fun es i y=>es.set i y
 app:=fun a b=>a++b
 sli:=fun es l h=>(es.take h.toNat).drop l.toNat
 rep:=fun n z=>List.replicate n.toNat z
 frz:=V.frzs
 nat:=Int.toNat
 ltN:=fun i es=>i<es.length
 nofz:=fun es=>V.noFzs es=true
 nown:=fun es=>V.owneds es=false
 emp:=fun es=>es=[]
 ok:=fun o t y=>vw uM T o 20 t y=some y
 okS:=fun t y=>OkS T t y
 solid:=fun es=>∀x∈es,x.solid=true
 le:=fun a b=>a<=b
 lt:=fun a b=>a<b
 ne0:=fun b=>b≠0
 imp:=fun b p=>b=true->p
 tt:=fun b=>b=true
 ifP:=fun b p q=>(b=true->p)/\(b=false->q)
 strB:=zgT
 byt:=zmp
def zet(P:Program)(t:TypeId):Option (List (Nat×TypeId)):=match P.underlying t with
 |some (.struct fs)=>some (fs.toList.map fun x=>(x.offset,x.type))
 |_=>none
structure Got where
 zero:Option V
 agg:Option Bool
 cells:Nat
 int:Option IntKind
 elem:Option TypeId
 str:Bool
 bool:Bool
 fields:Option (List (Nat×TypeId))
 struct:Option (List V)
 small:Bool
def zB8(P:Program)(t:TypeId):Got:=
 {zero:=zag P t,agg:=zig P t,cells:=P.cellsOf t,int:=zaz P t,elem:=ul P t,str:=Kg P t,bool:=zhO P t,fields:=zet P t,struct:=zcy P t,small:=decide (P.bytesOf t<=65536)}
def zes:TK->Bool
 | .agg _=>true
 |_=>false
def zGl:V->Option (List V)
 | .agg zs=>some zs
 |_=>none
def zfy(ti:TI):Got:=
 {zero:=some ti.zero
  agg:=some (zes ti.k)
  cells:=ti.cells
  int:=match ti.k with
   | .int k=>some k
   |_=>none
  elem:=match ti.k with
   | .slc e=>some e
   |_=>none
  str:=match ti.k with
   | .str=>true
   |_=>false
  bool:=match ti.k with
   | .bool=>true
   |_=>false
  fields:=match ti.k with
   | .agg fs=>some fs
   |_=>none
  struct:=match ti.k with
   | .agg _=>zGl ti.zero
   |_=>none
  small:=true}
def zcp(T:kH):List (Nat×TypeId)->Nat->Option Nat
 |[],n=>some n
 |(o,t)::l,n=>match jb T t with
  |some ti=>if o=n/\ti.cells≠0 then zcp T l (n+ti.cells)else none
  |none=>none
def zC4(e:TypeId):V->Bool
 | .slc true e' _ []=>kQ e e'
 |_=>false
def Yu(T:kH)(ti:TI):Bool:=match ti.k with
 | .agg fs=>decide (zcp T fs 0=some ti.cells)
 | .slc e=>decide (ti.cells=1)&&(zC4 e ti.zero&&(match jb T e with
   |some te=>decide (te.cells≠0)
   |none=>false))
 |_=>decide (ti.cells=1)
def dZ:V->V
 | .slc _ _ d _=>d
 |x=>x
def zFS(T:kH)(ti:TI):Option V:=match ti.k with
 | .slc e=>match jb T e with
   |some te=>some te.zero
   |none=>none
 |_=>some ti.zero
def zGw(ti:TI):Option V:=match ti.k with
 | .slc _=>some (dZ ti.zero)
 |_=>some ti.zero
structure TabOk (P:Program) (T:kH):Prop where
 eq:(T.map fun x=>zB8 P x.1)=T.map fun x=>zfy x.2
 chk:(T.all fun x=>Yu T x.2)=true
 dz:(T.map fun x=>zGw x.2)=T.map fun x=>zFS T x.2
section
variable {P:Program}{T:kH}
theorem zna{T:kH}{t:Nat}{ti:TI}(h:jb T t=some ti):(t,ti)∈T:=by
 induction T with
 |nil=>simp[jb]at h
 |cons x l ih=>
  obtain⟨k,ti'⟩:=x;simp only[jb]at h;split at h
  ·rename_i hk;simp only[za]at h;rw[qX hk,h];simp
  ·exact zI _ (ih h)
theorem zoK{α β:Type}{f g:α->β}:∀{l:List α},l.map f=l.map g->∀x∈l,f x=g x
 |[],_,x,hx=>by simp at hx
 |y::l,h,x,hx=>by
  simp only[qo,kG]at h;rcases zJ.1 hx with rfl|hx
  ·exact h.1
  ·exact zoK h.2 x hx
theorem TabOk.got(h:TabOk P T){t:Nat}{ti:TI}(ht:jb T t=some ti):zB8 P t=zfy ti:=zoK h.eq _ (zna ht)
theorem TabOk.c(h:TabOk P T){t:Nat}{ti:TI}(ht:jb T t=some ti):Yu T ti=true:=by
 have:=yc.1 h.chk _ (zna ht);exact this
theorem TabOk.zero(h:TabOk P T){t:Nat}{ti:TI}(ht:jb T t=some ti):zag P t=some ti.zero:=congrArg Got.zero (h.got ht)
theorem TabOk.agg(h:TabOk P T){t:Nat}{ti:TI}(ht:jb T t=some ti):zig P t=some (zes ti.k):=congrArg Got.agg (h.got ht)
theorem TabOk.cells(h:TabOk P T){t:Nat}{ti:TI}(ht:jb T t=some ti):P.cellsOf t=ti.cells:=congrArg Got.cells (h.got ht)
theorem TabOk.small(h:TabOk P T){t:Nat}{ti:TI}(ht:jb T t=some ti):P.bytesOf t<=65536:=by
 have:=congrArg Got.small (h.got ht);simpa [zB8,zfy]using this
theorem TabOk.elem(h:TabOk P T){t e:Nat}(ht:Qm T t=some e):ul P t=some e:=by
 unfold Qm at ht;split at ht
 ·rename_i hh;simp only[za]at ht;subst ht;exact congrArg Got.elem (h.got hh)
 ·cases ht
theorem TabOk.str(h:TabOk P T){t:Nat}(ht:zdA T t=true):Kg P t=true:=by
 unfold zdA at ht;split at ht
 ·rename_i hh;exact congrArg Got.str (h.got hh)
 ·cases ht
theorem TabOk.bool(h:TabOk P T){t:Nat}(ht:zfT T t=true):zhO P t=true:=by
 unfold zfT at ht;split at ht
 ·rename_i hh;exact congrArg Got.bool (h.got hh)
 ·cases ht
theorem TabOk.kind(h:TabOk P T){t:Nat}{k:IntKind}(ht:zhF T t=some k):zaz P t=some k:=by
 unfold zhF at ht;split at ht
 ·rename_i hh;simp only[za]at ht;subst ht;exact congrArg Got.int (h.got hh)
 ·cases ht
theorem TabOk.fields(h:TabOk P T){t:Nat}{fs:List (Nat×TypeId)}(ht:Jn T t=some fs):zet P t=some fs:=by
 unfold Jn at ht;split at ht
 ·rename_i hh;simp only[za]at ht;subst ht;exact congrArg Got.fields (h.got hh)
 ·cases ht
theorem zsY(fs:List (Nat×TypeId))(i:Nat):zgw fs i=fs[i]? :=by
 induction fs generalizing i with
 |nil=>simp[zgw]
 |cons x l ih=>cases i with
  |zero=>simp[zgw]
  |succ i=>simp[zgw,ih]
theorem zcD(fs:List V)(i:Nat):zfl fs i=fs[i]? :=by
 induction fs generalizing i with
 |nil=>simp[zfl]
 |cons x l ih=>cases i with
  |zero=>simp[zfl]
  |succ i=>simp[zfl,ih]
theorem zBU(fs:List Oper)(i:Nat):zh9 fs i=fs[i]? :=by
 induction fs generalizing i with
 |nil=>simp[zh9]
 |cons x l ih=>cases i with
  |zero=>simp[zh9]
  |succ i=>simp[zh9,ih]
theorem zhJ{t f:Nat}{fs:List (Nat×TypeId)}(h:zet P t=some fs):Ku P t f=zgw fs f:=by
 unfold zet at h;unfold Ku;split at h
 ·rename_i x hx;simp only[za]at h;subst h;rw[hx,zsY];simp
 ·cases h
mutual
theorem zlU(h:TabOk P T)(o:Bool):∀(n:Nat) (t:TypeId) (y z:V),vw uM T o n t y=some z->z.size=ub T t/\(∃ti,jb T t=some ti)/\Zg P t z=true/\(∀fs,Jn T t=some fs->∃zs,z=.agg zs)/\(o=false->z.owned=false)/\z.isHole=false/\(∀fs,z≠.tup fs)
 |0,_,_,_,hv=>by simp[vw]at hv
 |n+1,t,y,z,hv=>by
  simp only[vw]at hv
  have one:∀{ti:TI},jb T t=some ti->zes ti.k=false->z.size=1->(∀fs,z≠.agg fs)->(∀fs,z≠.tup fs)->(∀n,z≠.hole n)->ti.cells=1->(o=false->z.owned=false)->(∀fs,ti.k≠.agg fs)->
   z.size=ub T t/\(∃ti,jb T t=some ti)/\Zg P t z=true/\(∀fs,Jn T t=some fs->∃zs,z=.agg zs)/\(o=false->z.owned=false)/\z.isHole=false/\(∀fs,z≠.tup fs):=by
   intro ti ht hk hs h1 h2 h3 hc ho hna;refine⟨by simp[ub,ht,hs,hc],⟨ti,ht⟩,?_,fun fs hf=>?_,ho,?_,h2⟩
   ·unfold Zg;rw[h.agg ht,hk,h.cells ht,hc,hs];cases z<;>simp_all
   ·unfold Jn at hf;rw[ht]at hf;split at hf
    ·rename_i e;simp only[za]at e;subst e;exact absurd rfl (hna _)
    ·cases hf
   ·cases z<;>simp_all [V.isHole]
  split at hv
  ·rename_i k c zz ht;simp only[za]at hv;subst hv;have:=h.c ht;exact one ht rfl rfl (by simp) (by simp) (by simp) (by simpa [Yu]using this) (fun _=>rfl) (by simp)
  ·rename_i c zz ht;simp only[za]at hv;subst hv;have:=h.c ht;exact one ht rfl rfl (by simp) (by simp) (by simp) (by simpa [Yu]using this) (fun _=>rfl) (by simp)
  ·rename_i c zz ht;simp only[za]at hv;subst hv;have:=h.c ht;exact one ht rfl rfl (by simp) (by simp) (by simp) (by simpa [Yu]using this) (fun _=>rfl) (by simp)
  ·rename_i e c _ _ d _ ht;simp only[za]at hv;subst hv;have:=h.c ht;simp only[Yu,zh,decide_eq_true_eq]at this;exact one ht rfl rfl (by simp) (by simp) (by simp) this.1 (fun h=>by simp[V.owned,h]) (by simp)
  ·rename_i fs c zz ht;split at hv
   ·rename_i ys hys;simp only[za]at hv;subst hv;have hc:=h.c ht;simp only[Yu,decide_eq_true_eq]at hc;obtain⟨e1,e2,_⟩:=zm9 h o n fs 0 y ys hys;have hsz:=e1 0 c hc;refine⟨by simp only[V.size,ub,ht];omega,⟨_,ht⟩,?_,fun fs' _=>⟨ys,rfl⟩,fun ho=>by simp only[V.owned];exact e2 ho,rfl,by simp⟩;unfold Zg;rw[h.agg ht,h.cells ht];simp only[zes,Bool.true_and,V.size];simp;omega
   ·cases hv
  ·cases hv
theorem zm9(h:TabOk P T)(o:Bool):∀(n:Nat) (fs:List (Nat×TypeId)) (i:Nat) (y:V) (ys:List V),vws uM T o n fs i y=some ys->
 (∀k m,zcp T fs k=some m->k+V.sizes ys=m)/\(o=false->V.owneds ys=false)/\ys.length=fs.length
 |_,[],_,_,ys,hv=>by
  simp only[vws,za]at hv;subst hv;exact⟨fun k m h=>by simpa [zcp,V.sizes]using h,fun _=>rfl,rfl⟩
 |0,_::_,_,_,_,hv=>by simp[vws]at hv
 |n+1,(o',t)::fs,i,y,ys,hv=>by
  simp only[vws]at hv;split at hv
  ·rename_i v hv1;split at hv
   ·rename_i vs hv2;simp only[za]at hv;subst hv;obtain⟨e1,⟨ti,e2⟩,_,_,e3,_⟩:=zlU h o n t _ v hv1;obtain⟨f1,f2,f3⟩:=zm9 h o n fs (i+1) y vs hv2;refine⟨fun k m hm=>?_,fun ho=>by simp[V.owneds,e3 ho,f2 ho],by simp[f3]⟩;simp only[zcp,e2]at hm;split at hm
    ·have:=f1 _ _ hm;simp only[V.sizes,e1,ub,e2];omega
    ·cases hm
   ·cases hv
  ·cases hv
end
end
def gb:Option Bool->Bool
 |none=>true
 |some b=>b
def vz(D:Env):A->A
 | .rf s _ p=>.rf s (D s).ver p
 | .ad s _ p=>.ad s (D s).ver p
 | .ag s _ p fs=>.ag s (D s).ver p fs
 |a=>a
structure Agr (S:yb) (D:Env):Prop where
 on:∀t g a,(t,g,a)∈S->(D t).g=gb g/\(D t).u=true/\(gb g=true->(D t).a=vz D a)
 off:∀t,(∀e,(t,e)∉S)->(D t).owner=false
def qA(ps:List Prop):Prop:=∀q∈ps,q
theorem zuG:qA []:=fun _ h=>by simp at h
theorem zp{p:Prop}{l:List Prop}:qA (p::l)↔p/\qA l:=by
 constructor
 ·exact fun h=>⟨h p (by simp),fun q hq=>h q (zI _ hq)⟩
 ·rintro⟨h1,h2⟩ q hq;rcases zJ.1 hq with rfl|hq
  ·exact h1
  ·exact h2 q hq
theorem zE{l l':List Prop}:qA (l++l')↔qA l/\qA l':=by
 constructor
 ·exact fun h=>⟨fun q hq=>h q (qz.2 (.inl hq)),fun q hq=>h q (qz.2 (.inr hq))⟩
 ·exact fun h q hq=>(qz.1 hq).elim (h.1 q) (h.2 q)
section
variable {P:Program}{T:kH}{S:yb}{D:Env}
theorem kr{t:Nat}{e:Option Bool×A}(h:look S t=some e):(t,e)∈S:=by
 induction S with
 |nil=>simp[look]at h
 |cons x l ih=>
  obtain⟨k,e'⟩:=x;simp only[look]at h;split at h
  ·rename_i hk;simp only[za]at h;rw[qX hk,h];simp
  ·exact zI _ (ih h)
theorem zra{t:Nat}(h:look S t=none):∀e,(t,e)∉S:=by
 induction S with
 |nil=>simp
 |cons x l ih=>
  obtain⟨k,e'⟩:=x;simp only[look]at h;split at h
  ·cases h
  ·rename_i hk;intro e he;rcases zJ.1 he with he|he
   ·simp only[zb]at he;obtain⟨rfl,rfl⟩:=he;rw[ZS]at hk;cases hk
   ·exact ih h e he
theorem zN(hT:TabOk P T)(hA:Agr S D){ty:TypeId}{x:Operand}{g:Option Bool}{a:A}(h:jV T S ty x=some (g,a))(hg:gb g=true):opd P D ty x=some (true,vz D a):=by
 cases x with
 |tmp t=>
  simp only[jV]at h;split at h
  ·rename_i g' v hl;obtain⟨e1,_,e3⟩:=hA.on _ _ _ (kr hl);split at h
   ·rename_i ho;simp only[za,zb]at h;obtain⟨rfl,rfl⟩:=h;have e3':(D t).a=.val v:=e3 hg;simp only[opd,e3',ho,if_true,e1,vz,hg]
   ·rename_i ho;simp only[za,zb]at h;obtain⟨rfl,rfl⟩:=h;have e3':(D t).a=.val v:=e3 hg;simp[opd,e3',ho,e1,vz,hg]
  ·rename_i g' a' hn hl;obtain⟨e1,_,e3⟩:=hA.on _ _ _ (kr hl);simp only[za,zb]at h;obtain⟨rfl,rfl⟩:=h
   cases a' with
   |val v=>exact absurd rfl (hn v)
   |_=>have e3':=e3 hg;simp only[vz]at e3' ⊢;simp[opd,e3',e1,hg]
  ·cases h
 |const v=>
  simp only[jV]at h;split at h
  ·rename_i x hx;simp only[za,zb]at h;obtain⟨rfl,rfl⟩:=h
   have:za4 P ty v=some x:=by
    unfold zAh at hx;split at hx
    ·simpa [za4]using hx
    ·simpa [za4]using hx
    ·simpa [za4]using hx
    ·simpa [za4]using hx
    ·split at hx
     ·rename_i e c _ e' d es ht;simp only[za]at hx;subst hx;have hz:=hT.zero ht;have hc:=hT.c ht;simp only[Yu,zh,decide_eq_true_eq]at hc;have hc2:=hc.2.1;unfold zC4 at hc2;split at hc2
      ·rename_i heq;simp only[V.slc.injEq]at heq;obtain⟨rfl,rfl,rfl,rfl⟩:=heq;have:=qX hc2;subst this;simp only[za4,ziL,if_true,hz]
      ·cases hc2
     ·cases hx
    ·cases hx
   simp[opd,this,vz]
  ·cases h
 |func f=>
  simp only[jV,za,zb]at h;obtain⟨rfl,rfl⟩:=h;rfl
 |global g=>simp[jV]at h
theorem yO(hA:Agr S D){s:Nat}{r:V}(h:kI S s=some r):D.own s (D s).ver=some r:=by
 unfold kI at h;split at h
 ·rename_i x hl;split at h
  ·rename_i ho;simp only[za]at h;subst h;obtain⟨e1,_,e3⟩:=hA.on _ _ _ (kr hl);exact Env.own_iff'.2 ⟨e1,rfl,e3 rfl,ho⟩
  ·cases h
 ·cases h
theorem jo{g:Option Bool}{ps:List Prop}(h:qA (YO (yz T) g ps))(hg:gb g=true):qA ps:=by
 cases g with
 |none=>cases ps<;>simpa [YO]using h
 |some b=>
  have hb:b=true:=hg
  induction ps with
  |nil=>exact zuG
  |cons p l ih=>
   simp only[YO]at h;rw[zp]at h ⊢;exact⟨h.1 hb,ih h.2⟩
theorem zT{g gx:Option Bool}(h:qA (qr (yz T) g gx))(hg:gb g=true):gb gx=true:=by
 cases gx with
 |none=>rfl
 |some b=>
  cases g with
  |none=>simp only[qr,zp]at h;exact h.1
  |some a=>simp only[qr,zp]at h;exact h.1 hg
theorem zhS:∀(p:List Nat) (x y:V) (ps:List Prop),uj (yz T) T x p=some (y,ps)->qA ps->x.at p=y/\x.okp p
 |[],x,y,ps,h,_=>by
  simp only[uj,za,zb]at h;exact⟨by simp only[V.at];exact h.1,trivial⟩
 |i::p,.slc o e d es,y,ps,h,hp=>by
  cases o with
  |false=>simp[uj]at h
  |true=>
   simp only[uj]at h;split at h
   ·rename_i y' hv;split at h
    ·rename_i z q hz;simp only[za,zb]at h;obtain⟨rfl,rfl⟩:=h;rw[zp,zp]at hp;obtain⟨h1,h2,h3⟩:=hp;have h2':vw uM T (dO d) 20 e (es.getD i d)=some (es.getD i d):=h2;have hv':vw uM T (dO d) 20 e (es.getD i d)=some y':=hv;rw[h2']at hv';simp only[za]at hv';subst hv';obtain⟨e1,e2⟩:=zhS p _ _ _ hz h3;exact⟨by simp only[V.at,V.kid];exact e1,⟨⟨rfl,h1⟩,e2⟩⟩
    ·cases h
   ·cases h
 |i::p,.agg fs,y,ps,h,hp=>by
  simp only[uj]at h;split at h
  ·rename_i z hz;rw[zcD]at hz;obtain⟨e1,e2⟩:=zhS p _ _ _ h hp;have hl:i<fs.length:=(zq.1 hz).1;have:fs.getD i (.hole 0)=z:=jR hz;exact⟨by simp only[V.at,V.kid];rw[this];exact e1,⟨hl,by simp only[V.kid];rw[this];exact e2⟩⟩
  ·cases h
 |i::p,.box e c,y,ps,h,hp=>by
  cases i with
  |zero=>
   simp only[uj]at h;obtain⟨e1,e2⟩:=zhS p _ _ _ h hp;exact⟨by simp only[V.at,V.kid];exact e1,⟨trivial,e2⟩⟩
  |succ i=>simp[uj]at h
 |_::_,.int _ _,_,_,h,_=>by simp[uj]at h
 |_::_,.bool _,_,_,h,_=>by simp[uj]at h
 |_::_,.str _,_,_,h,_=>by simp[uj]at h
 |_::_,.tup _,_,_,h,_=>by simp[uj]at h
 |_::_,.fn _ _,_,_,h,_=>by simp[uj]at h
 |_::_,.hole _,_,_,h,_=>by simp[uj]at h
theorem ZF:∀(p:List Nat) (x y z r:V) (ps:List Prop),uj (yz T) T x p=some (z,ps)->qA ps->YB (yz T) T x p y=some r->r=x.upd p y
 |[],x,y,z,r,ps,h,_,hu=>by
  simp only[YB,za]at hu;simp only[V.upd,hu]
 |i::p,.slc o e d es,y,z,r,ps,h,hp,hu=>by
  cases o with
  |false=>simp[uj]at h
  |true=>
   simp only[uj]at h;split at h
   ·rename_i y' hv;split at h
    ·rename_i z' q hz;simp only[za,zb]at h;obtain⟨rfl,rfl⟩:=h;rw[zp,zp]at hp;obtain⟨h1,h2,h3⟩:=hp;have h2':vw uM T (dO d) 20 e (es.getD i d)=some (es.getD i d):=h2;have hv':vw uM T (dO d) 20 e (es.getD i d)=some y':=hv;rw[h2']at hv';simp only[za]at hv';subst hv';simp only[YB,hv]at hu;split at hu
     ·rename_i u hu';simp only[za]at hu;subst hu;have:=ZF p _ y _ u _ hz h3 hu';simp only[V.upd,V.setKid,V.kid,this];rfl
     ·cases hu
    ·cases h
   ·cases h
 |i::p,.agg fs,y,z,r,ps,h,hp,hu=>by
  simp only[uj]at h;split at h
  ·rename_i z' hz;simp only[YB,hz]at hu;split at hu
   ·rename_i u hu';simp only[za]at hu;subst hu;rw[zcD]at hz;have:=ZF p _ y _ u _ h hp hu';have hg:fs.getD i (.hole 0)=z':=jR hz;simp only[V.upd,V.setKid,V.kid,hg,this]
   ·cases hu
  ·cases h
 |i::p,.box e c,y,z,r,ps,h,hp,hu=>by
  cases i with
  |zero=>
   simp only[uj]at h;simp only[YB]at hu;split at hu
   ·rename_i u hu';simp only[za]at hu;subst hu;have:=ZF p _ y _ u _ h hp hu';simp only[V.upd,V.setKid,V.kid,this]
   ·cases hu
  |succ i=>simp[uj]at h
 |_::_,.int _ _,_,_,_,_,h,_,_=>by simp[uj]at h
 |_::_,.bool _,_,_,_,_,h,_,_=>by simp[uj]at h
 |_::_,.str _,_,_,_,_,h,_,_=>by simp[uj]at h
 |_::_,.tup _,_,_,_,_,h,_,_=>by simp[uj]at h
 |_::_,.fn _ _,_,_,_,_,h,_,_=>by simp[uj]at h
 |_::_,.hole _,_,_,_,_,h,_,_=>by simp[uj]at h
theorem zhR:∀(p:List Nat) (x y:V) (ps:List Prop),atW (yz T) T x p=some (y,ps)->qA ps->((x.at p).size=y.size/\(x.at p).isScalar=y.isScalar)/\x.okp p/\∀u r,YB (yz T) T x p u=some r->r=x.upd p u
 |[],x,y,ps,h,_=>by
  simp only[atW,za,zb]at h;obtain⟨rfl,rfl⟩:=h;refine⟨⟨by simp only[V.at],by simp only[V.at]⟩,trivial,fun u r hu=>?_⟩;simp only[YB,za]at hu;simp only[V.upd,hu]
 |[i],.slc o e d es,y,ps,h,hp=>by
  cases o with
  |false=>simp[atW]at h
  |true=>
   simp only[atW]at h;split at h
   ·rename_i y' hv;have hv':vw uM T (dO d) 20 e (es.getD i d)=some y':=hv;have key:∀{q:List Prop},qA ((yz T).ltN i es::q)->i<es.length:=fun h=>(zp.1 h).1
    have upd:∀u r,YB (yz T) T (.slc true e d es) [i] u=some r->r=V.upd (.slc true e d es) [i] u:=by
     intro u r hu;simp only[YB,hv]at hu;simp only[za]at hu;subst hu;simp only[V.upd,V.setKid,V.kid];rfl
    split at h
    ·simp only[za,zb]at h;obtain⟨rfl,rfl⟩:=h;have h2':vw uM T (dO d) 20 e (es.getD i d)=some (es.getD i d):=(zp.1 (zp.1 hp).2).1;rw[h2']at hv';simp only[za]at hv';subst hv';exact⟨⟨by simp only[V.at,V.kid],by simp only[V.at,V.kid]⟩,⟨⟨rfl,key hp⟩,trivial⟩,upd⟩
    ·rename_i hsd
     have hdo:dO d=true:=by
      simp only[jh,Bool.not_eq_false']at hsd;exact hsd.2
     rw[hdo]at hv';simp only[za,zb]at h;obtain⟨rfl,rfl⟩:=h;have h2:OkS T e (es.getD i d):=(zp.1 (zp.1 hp).2).1;refine⟨?_,⟨⟨rfl,key hp⟩,trivial⟩,upd⟩;rcases h2 with h2|⟨z,h2,h3,h4⟩
     ·rw[h2]at hv';simp only[za]at hv';subst hv';exact⟨by simp only[V.at,V.kid],by simp only[V.at,V.kid]⟩
     ·rw[h2]at hv';simp only[za]at hv';subst hv';exact⟨by simp only[V.at,V.kid];exact h3,by simp only[V.at,V.kid];exact h4⟩
   ·cases h
 |i::j::p,.slc o e d es,y,ps,h,hp=>by
  cases o with
  |false=>simp[atW]at h
  |true=>
   simp only[atW]at h;split at h
   ·rename_i y' hv;split at h
    ·rename_i z q hz;simp only[za,zb]at h;obtain⟨rfl,rfl⟩:=h;rw[zp,zp]at hp;obtain⟨h1,h2,h3⟩:=hp;have h2':vw uM T (dO d) 20 e (es.getD i d)=some (es.getD i d):=h2;have hv':vw uM T (dO d) 20 e (es.getD i d)=some y':=hv;rw[h2']at hv';simp only[za]at hv';subst hv';obtain⟨e1,e2,e3⟩:=zhR (j::p) _ _ _ hz h3;refine⟨by rw[show V.at (.slc true e d es) (i::j::p)=V.at (es.getD i d) (j::p) by simp only[V.at,V.kid]];exact e1,⟨⟨rfl,h1⟩,e2⟩,fun u r hu=>?_⟩;rw[YB,hv]at hu;dsimp only at hu;split at hu
     ·rename_i u' hu';simp only[za]at hu;subst hu;have:=e3 _ _ hu';rw[V.upd];simp only[V.setKid,V.kid,<-this];rfl
     ·cases hu
    ·cases h
   ·cases h
 |i::p,.agg fs,y,ps,h,hp=>by
  simp only[atW]at h;split at h
  ·rename_i z hz;have hz0:=hz;rw[zcD]at hz;obtain⟨e1,e2,e3⟩:=zhR p _ _ _ h hp;have hl:i<fs.length:=(zq.1 hz).1;have hg:fs.getD i (.hole 0)=z:=jR hz;refine⟨by simp only[V.at,V.kid];rw[hg];exact e1,⟨hl,by simp only[V.kid];rw[hg];exact e2⟩,fun u r hu=>?_⟩;simp only[YB,hz0]at hu;split at hu
   ·rename_i u' hu';simp only[za]at hu;subst hu;have:=e3 _ _ hu';simp only[V.upd,V.setKid,V.kid,hg,this]
   ·cases hu
  ·cases h
 |i::p,.box e c,y,ps,h,hp=>by
  cases i with
  |zero=>
   simp only[atW]at h;obtain⟨e1,e2,e3⟩:=zhR p _ _ _ h hp;refine⟨by simp only[V.at,V.kid];exact e1,⟨trivial,e2⟩,fun u r hu=>?_⟩;simp only[YB]at hu;split at hu
   ·rename_i u' hu';simp only[za]at hu;subst hu;have:=e3 _ _ hu';simp only[V.upd,V.setKid,V.kid,this]
   ·cases hu
  |succ i=>simp[atW]at h
 |_::_,.int _ _,_,_,h,_=>by simp[atW]at h
 |_::_,.bool _,_,_,h,_=>by simp[atW]at h
 |_::_,.str _,_,_,h,_=>by simp[atW]at h
 |_::_,.tup _,_,_,h,_=>by simp[atW]at h
 |_::_,.fn _ _,_,_,h,_=>by simp[atW]at h
 |_::_,.hole _,_,_,h,_=>by simp[atW]at h
theorem zph{i:Nat}{p:List Nat}{r y:V}{ps:List Prop}(h:zyW (yz T) T r (i::p)=some (y,ps))(hp:qA ps):((r.at (i::p)).size=y.size/\(r.at (i::p)).isScalar=y.isScalar)/\r.okm (i::p)/\∀u r',YB (yz T) T r (i::p) u=some r'->r'=r.upd (i::p) u:=by
 unfold zyW at h;dsimp only at h;split at h
 ·cases h
 ·cases h
 ·rename_i n1 n2;obtain⟨e1,e2,e3⟩:=zhR _ _ _ _ h hp;refine⟨e1,?_,e3⟩
  cases r with
  |agg fs=>exact absurd rfl (n1 fs)
  |_=>exact e2
theorem uG{p:List Nat}{r y:V}{ps:List Prop}(h:atR (yz T) T r p=some (y,ps))(hp:qA ps):r.at p=y/\(p=[]\/(r.okm p/\(∀fs,r≠.tup fs)/\(∀fs,r≠.agg fs)/\uj (yz T) T r p=some (y,ps))):=by
 unfold atR at h;split at h
 ·simp only[za,zb]at h;exact⟨by simp only[V.at];exact h.1,.inl rfl⟩
 ·rename_i i q;split at h
  ·cases h
  ·cases h
  ·rename_i n1 n2;obtain⟨e1,e2⟩:=zhS _ _ _ _ h hp;refine⟨e1,.inr ⟨?_,n2,n1,h⟩⟩
   cases r with
   |agg fs=>exact absurd rfl (n1 fs)
   |_=>exact e2
end
end Go.Ax
namespace Go.Ax
def Ka(B:kn):FuncId->List V->Option (Prop×V×List V):=fun k args=>match zdV B k with
 |some f=>match f args with
  |some (ps,r)=>some (qA ps,r,[])
  |none=>none
 |none=>none
section
variable {C:Ctx}{T:kH}{S:yb}{D:Env}{B:kn}
theorem zar(hA:Agr S D){a:A}{v:V}{ps:List Prop}(h:zeO (yz T) T S a=some (v,ps))(hp:qA ps):(vz D a).look D=some v/\(vz D a).okA D/\(vz D a).isAg=false:=by
 cases a with
 |val x=>
  simp only[zeO,za,zb]at h;obtain⟨rfl,_⟩:=h;exact⟨rfl,trivial,rfl⟩
 |rf s ver p=>
  simp only[zeO]at h;split at h
  ·rename_i r hr;have ho:=yO hA hr;split at h
   ·simp only[za,zb]at h;obtain⟨rfl,_⟩:=h;exact⟨by simp[vz,A.look,ho,V.at],by simp only[vz,A.okA,ho];cases r<;>trivial,rfl⟩
   ·rename_i i q;split at h
    ·rename_i fs;split at h
     ·split at h
      ·rename_i y hy;simp only[za,zb]at h;obtain⟨rfl,_⟩:=h;rw[zcD]at hy;have hl:i<fs.length:=(zq.1 hy).1;exact⟨by simp[vz,A.look,ho,V.at,V.kid,hy],by simp only[vz,A.okA,ho];exact hl,rfl⟩
      ·cases h
     ·cases h
    ·rename_i hn;split at h
     ·rename_i y ps' hy;split at h
      ·rename_i hH;simp only[za,zb]at h;obtain⟨rfl,rfl⟩:=h;obtain⟨e1,e2⟩:=uG hy hp;rcases e2 with e2|⟨e2,e3,e4,_⟩
       ·cases e2
       ·refine⟨by simp[vz,A.look,ho,e1],?_,rfl⟩;simp only[vz,A.okA,ho];unfold V.okr;split
        ·trivial
        ·exact absurd rfl (e3 _)
        ·exact⟨e2,by rw[e1];exact hH⟩
      ·cases h
     ·cases h
  ·cases h
 |ad=>simp[zeO]at h
 |fz=>simp[zeO]at h
 |ag=>simp[zeO]at h
mutual
theorem zp2:∀x:V,zj6 (yz T) x=x.frz
 | .int _ _=>rfl
 | .bool _=>rfl
 | .str _=>rfl
 | .slc _ _ _ _=>rfl
 | .agg fs=>by simp only[zj6,V.frz];rw[znI fs]
 | .tup fs=>by simp only[zj6,V.frz];rw[znI fs]
 | .box _ c=>by simp only[zj6,V.frz];rw[zp2 c]
 | .fn _ _=>rfl
 | .hole _=>rfl
theorem znI:∀xs:List V,zj6.frzsS (yz T) xs=V.frzs xs
 |[]=>rfl
 |x::l=>by simp only[zj6.frzsS,V.frzs];rw[zp2 x,znI l]
end
mutual
theorem zb8:∀x:V,qA (zeL (yz T) x)->x.isFn=false->x.noFz=true
 | .int _ _,_,_=>rfl
 | .bool _,_,_=>rfl
 | .str _,_,_=>rfl
 | .slc true _ _ es,h,_=>by
   simp only[zeL,zp]at h;have h1:V.noFzs es=true:=h.1;simp[V.noFz,h1]
 | .slc false _ _ es,h,_=>by
   simp only[zeL,zp]at h;have h1:es=[]:=h.1;subst h1;simp[V.noFz,V.noFzs]
 | .agg fs,h,h'=>by simp only[V.noFz];exact zgx fs h h'
 | .tup fs,h,h'=>by simp only[V.noFz];exact zgx fs h h'
 | .box _ _,_,h=>by simp[V.isFn]at h
 | .fn _ _,_,h=>by simp[V.isFn]at h
 | .hole _,_,_=>rfl
theorem zgx:∀xs:List V,qA (zeL.nofzsS (yz T) xs)->V.areFn xs=false->V.noFzs xs=true
 |[],_,_=>rfl
 |x::l,h,h'=>by
  simp only[zeL.nofzsS,zE]at h;simp only[V.areFn,jh]at h';simp only[V.noFzs,zh];exact⟨zb8 x h.1 h'.1,zgx l h.2 h'.2⟩
end
theorem zgB{r:V}{p:List Nat}:∀(fs:List V) (i:Nat) (ys:List V) (ps:List Prop),ziK (yz T) T r p fs i=some (ys,ps)->qA ps->
 V.cpvs (fun q=>r.at q) fs p i=ys/\V.cpoks (fun q=>r.okm q/\(r.at q).isH=true) fs p i
 |[],i,ys,ps,h,_=>by
  simp only[ziK,za,zb]at h;obtain⟨rfl,_⟩:=h;exact⟨rfl,trivial⟩
 |f::fs,i,ys,ps,h,hp=>by
  simp only[ziK]at h;split at h
  ·rename_i hlf;split at h
   ·rename_i hfo;split at h
    ·rename_i y qs hy;split at h
     ·rename_i hH;split at h
      ·rename_i zs rs hz;simp only[za,zb]at h;obtain⟨rfl,rfl⟩:=h;rw[zE]at hp;obtain⟨e1,e2⟩:=zgB fs (i+1) zs rs hz hp.2;obtain⟨a1,a2⟩:=uG hy hp.1
       have a3:r.okm (p++[i]):=by
        rcases a2 with a2|⟨a2,_⟩
        ·simp at a2
        ·exact a2
       have a4:(r.at (p++[i])).isH=true:=by rw[a1];exact hH
       have b1:V.cpv (fun q=>r.at q) f (p++[i])=y:=by
        rw[<-a1]
        cases f<;>first|(simp[V.leaf]at hlf;done)|(simp[V.owned]at hfo;done)|(simp only[V.owned]at hfo;simp[V.cpv,hfo])|rfl
       have b2:V.cpok (fun q=>r.okm q/\(r.at q).isH=true) f (p++[i]):=by
        cases f<;>first|(simp[V.leaf]at hlf;done)|(simp[V.owned]at hfo;done)|(simp only[V.owned]at hfo;simp only[V.cpok,hfo];exact⟨a3,a4⟩)|exact⟨a3,a4⟩
       exact⟨by simp only[V.cpvs,b1,e1],b2,e2⟩
      ·cases h
     ·cases h
    ·cases h
   ·rename_i hfo;split at h
    ·rename_i zs rs hz;simp only[za,zb]at h;obtain⟨rfl,rfl⟩:=h;obtain⟨e1,e2⟩:=zgB fs (i+1) zs rs hz hp
     have b1:V.cpv (fun q=>r.at q) f (p++[i])=f:=by
      cases f<;>first|(simp[V.leaf]at hlf;done)|(simp[V.owned]at hfo;done)|(simp only[V.owned]at hfo;simp[V.cpv,hfo])|rfl
     have b2:V.cpok (fun q=>r.okm q/\(r.at q).isH=true) f (p++[i]):=by
      cases f<;>first|(simp[V.leaf]at hlf;done)|(simp[V.owned]at hfo;done)|(simp only[V.owned]at hfo;simp[V.cpok,hfo])|trivial
     exact⟨by simp only[V.cpvs,b1,e1],b2,e2⟩
    ·cases h
  ·cases h
theorem zdy{r:V}{p:List Nat}:∀(fs:List V) (i:Nat) (ys:List V) (ps:List Prop),zgA (yz T) T r p fs i=some (ys,ps)->qA ps->
 V.cpvs (fun q=>r.at q) fs p i=ys/\V.cpoks (fun q=>r.okm q/\(r.at q).isH=true) fs p i
 |[],i,ys,ps,h,_=>by
  simp only[zgA,za,zb]at h;obtain⟨rfl,_⟩:=h;exact⟨rfl,trivial⟩
 |f::fs,i,ys,ps,h,hp=>by
  simp only[zgA]at h;split at h
  ·rename_i hlf;split at h
   ·rename_i hfo;split at h
    ·rename_i y qs hy;split at h
     ·rename_i hH;split at h
      ·rename_i zs rs hz;simp only[za,zb]at h;obtain⟨rfl,rfl⟩:=h;rw[zE]at hp;obtain⟨e1,e2⟩:=zdy fs (i+1) zs rs hz hp.2;obtain⟨a1,a2⟩:=uG hy hp.1
       have a3:r.okm (p++[i]):=by
        rcases a2 with a2|⟨a2,_⟩
        ·simp at a2
        ·exact a2
       have a4:(r.at (p++[i])).isH=true:=by rw[a1];exact hH
       have b1:V.cpv (fun q=>r.at q) f (p++[i])=y:=by
        rw[<-a1]
        cases f<;>first|(simp[V.leaf]at hlf;done)|(simp[V.owned]at hfo;done)|(simp only[V.owned]at hfo;simp[V.cpv,hfo])|rfl
       have b2:V.cpok (fun q=>r.okm q/\(r.at q).isH=true) f (p++[i]):=by
        cases f<;>first|(simp[V.leaf]at hlf;done)|(simp[V.owned]at hfo;done)|(simp only[V.owned]at hfo;simp only[V.cpok,hfo];exact⟨a3,a4⟩)|exact⟨a3,a4⟩
       exact⟨by simp only[V.cpvs,b1,e1],b2,e2⟩
      ·cases h
     ·cases h
    ·cases h
   ·rename_i hfo;split at h
    ·rename_i zs rs hz;simp only[za,zb]at h;obtain⟨rfl,rfl⟩:=h;obtain⟨e1,e2⟩:=zdy fs (i+1) zs rs hz hp
     have b1:V.cpv (fun q=>r.at q) f (p++[i])=f:=by
      cases f<;>first|(simp[V.leaf]at hlf;done)|(simp[V.owned]at hfo;done)|(simp only[V.owned]at hfo;simp[V.cpv,hfo])|rfl
     have b2:V.cpok (fun q=>r.okm q/\(r.at q).isH=true) f (p++[i]):=by
      cases f<;>first|(simp[V.leaf]at hlf;done)|(simp[V.owned]at hfo;done)|(simp only[V.owned]at hfo;simp[V.cpok,hfo])|trivial
     exact⟨by simp only[V.cpvs,b1,e1],b2,e2⟩
    ·cases h
  ·split at h
   ·rename_i gs _;split at h
    ·rename_i zs qs hz0;split at h
     ·rename_i ys' rs hz;simp only[za,zb]at h;obtain⟨rfl,rfl⟩:=h;rw[zE]at hp;obtain⟨d1,d2⟩:=zgB gs 0 zs qs hz0 hp.1;obtain⟨e1,e2⟩:=zdy fs (i+1) ys' rs hz hp.2;exact⟨by simp only[V.cpvs,V.cpv,d1,e1],d2,e2⟩
     ·cases h
    ·cases h
   ·cases h
theorem zti(hA:Agr S D){a:A}{v:V}{ps:List Prop}(h:zoO (yz T) T S a=some (v,ps))(hp:qA ps):(vz D a).look D=some v/\(vz D a).okA D/\(vz D a).isAg=a.isAg:=by
 cases a with
 |ag s ver p fs=>
  simp only[zoO]at h;split at h
  ·rename_i r hr;have ho:=yO hA hr;split at h
   ·rename_i ys qs hl;simp only[za,zb]at h;obtain⟨rfl,rfl⟩:=h;obtain⟨e1,e2⟩:=zdy fs 0 ys qs hl hp;exact⟨by simp only[vz,A.look,ho,Option.map_some,V.cpv,e1],by simp only[vz,A.okA,ho,V.cpok];exact e2,rfl⟩
   ·cases h
  ·cases h
 |_=>
  simp only[zoO]at h;obtain⟨l1,l2,l3⟩:=zar hA h hp;exact⟨l1,l2,l3⟩
theorem zcf(hT:TabOk C.P T)(hA:Agr S D){g:Option Bool}(hg:gb g=true):∀{xs:List Operand} {ts:List TypeId} {ps:List Prop} {vs:List V} {br:Bool},zfP (yz T) T S g xs ts=some (ps,vs,br)->qA ps->
 ∃p,YM C.P D true xs ts=some (p,vs,br)/\p
 |[],_,ps,vs,br,h,_=>by
  simp only[zfP,za,zb]at h;obtain⟨_,rfl,rfl⟩:=h;exact⟨True,rfl,trivial⟩
 |x::xs,ts,ps,vs,br,h,hp=>by
  simp only[zfP]at h;split at h
  ·rename_i gx a h1;split at h
   ·rename_i v qs h2;split at h
    ·rename_i rs vs' br' h3;simp only[za,zb]at h;obtain⟨rfl,rfl,rfl⟩:=h;rw[zE,zE]at hp;have o1:=zN hT hA h1 (zT hp.1.1 hg);obtain⟨l1,l2,l3⟩:=zti hA h2 (jo hp.1.2 hg);obtain⟨p,e1,e2⟩:=zcf hT hA hg h3 hp.2;refine⟨((true=true->true=true)/\(vz D a).okA D)/\p,?_,⟨fun h=>h,l2⟩,e2⟩;simp only[YM,o1,e1,l1,l3,zp2]
    ·cases h
   ·cases h
  ·cases h
theorem zb4(hT:TabOk C.P T)(hA:Agr S D){g:Option Bool}(hg:gb g=true){ty:Nat->TypeId}:∀{xs:List (Nat×Operand)} {ps:List Prop} {vs:List (Nat×V)},zhm (yz T) T S g ty xs=some (ps,vs)->qA ps->
 ∃p,ym C.P D true ty xs=some (p,vs)/\p
 |[],ps,vs,h,_=>by
  simp only[zhm,za,zb]at h;obtain⟨_,rfl⟩:=h;exact⟨True,rfl,trivial⟩
 |(i,x)::xs,ps,vs,h,hp=>by
  simp only[zhm]at h;split at h
  ·rename_i gx v h1;split at h
   ·rename_i ho;split at h
    ·rename_i e d;split at h
     ·rename_i qs vs' h2;simp only[za,zb]at h;obtain⟨rfl,rfl⟩:=h;rw[zE]at hp;have o1:=zN hT hA h1 (zT hp.1 hg);obtain⟨p,e1,e2⟩:=zb4 hT hA hg h2 hp.2;refine⟨(true=true->true=true)/\p,?_,fun h=>h,e2⟩;simp only[ym,o1,e1,vz,V.owned,V.isHole];simp[YA,ziL]
     ·cases h
    ·cases h
   ·rename_i ho;split at h
    ·cases h
    ·rename_i hh;split at h
     ·rename_i qs vs' h2;simp only[za,zb]at h;obtain⟨rfl,rfl⟩:=h;rw[zE]at hp;have o1:=zN hT hA h1 (zT hp.1 hg);obtain⟨p,e1,e2⟩:=zb4 hT hA hg h2 hp.2;refine⟨(true=true->true=true)/\p,?_,fun h=>h,e2⟩;simp only[ym,o1,e1,vz,ho,hh];simp
     ·cases h
  ·cases h
theorem zbD(hT:TabOk C.P T)(hA:Agr S D){x:Operand}{g gi:Option Bool}{n:Int}(h:znA T S x=some (gi,n))(hg:gb g=true)(hp:qA (qr (yz T) g gi)):zai C.P D true x=some ((true=true->true=true),n):=by
 unfold znA at h;split at h
 ·rename_i g' n' h1;simp only[za,zb]at h;obtain⟨rfl,rfl⟩:=h;have o1:=zN hT hA h1 (zT hp hg);simp only[zai,o1,vz]
 ·cases h
theorem QR(hT:TabOk C.P T)(hA:Agr S D){x:Option Operand}{g gi:Option Bool}{d n:Int}(h:zdS T S d x=some (gi,n))(hg:gb g=true)(hp:qA (qr (yz T) g gi)):∃p,kP C.P D true d x=some (p,n)/\p:=by
 cases x with
 |none=>
  simp only[zdS,za,zb]at h;obtain⟨_,rfl⟩:=h;exact⟨True,rfl,trivial⟩
 |some x=>exact⟨_,zbD hT hA h hg hp,fun h=>h⟩
theorem ztu{k k':IntKind}(h:ikE k k'=true):k=k':=by
 cases k<;>cases k'<;>first|rfl|(simp[ikE,ikN]at h)
theorem Jx(hT:TabOk C.P T){t:TypeId}{y:V}(h:zj9 T t y=true):Zg C.P t y=true:=by
 unfold zj9 at h;split at h
 ·rename_i ht;have hc:=hT.c ht;simp only[Yu,decide_eq_true_eq]at hc;simp only[Zg,hT.agg ht,hT.cells ht,zes,V.size,hc];rfl
 ·rename_i ht;have hc:=hT.c ht;simp only[Yu,decide_eq_true_eq]at hc;simp only[Zg,hT.agg ht,hT.cells ht,zes,V.size,hc];rfl
 ·rename_i ht;have hc:=hT.c ht;simp only[Yu,decide_eq_true_eq]at hc;simp only[Zg,hT.agg ht,hT.cells ht,zes,V.size,hc];rfl
 ·rename_i ht;have hc:=hT.c ht;simp only[Yu,zh,decide_eq_true_eq]at hc;simp only[Zg,hT.agg ht,hT.cells ht,zes,V.size,hc.1];rfl
 ·rename_i ht;simp only[Zg,hT.agg ht,hT.cells ht,zes,V.size,qX h];simp
 ·rename_i ht;simp only[Zg,hT.agg ht,hT.cells ht,zes,V.size,qX h];rfl
 ·rename_i ht;simp only[Zg,hT.agg ht,hT.cells ht,zes,V.size,qX h];rfl
 ·cases h
theorem zyV{op:BinOp}{k:IntKind}{a b:Int}{ps:List Prop}{v:V}(h:zCB (yz T) op k a b=some (ps,v))(hp:qA ps):∃p,zex op (.int k a) (.int k b)=some (p,v)/\p:=by
 cases op<;>simp only[zCB,za,zb,reduceCtorEq]at h
 all_goals
  obtain⟨rfl,rfl⟩:=h;simp only[zex,if_pos,if_true,reduceCtorEq,if_false];refine⟨_,rfl,?_⟩
  first
   |trivial
   |exact(zp.1 hp).1
theorem zxR{op:BinOp}{a b:ByteArray}{ps:List Prop}{v:V}(h:zBj (yz T) op a b=some (ps,v))(hp:qA ps):∃p,zex op (.str a) (.str b)=some (p,v)/\p:=by
 cases op<;>simp only[zBj,za,zb,reduceCtorEq]at h
 all_goals
  obtain⟨rfl,rfl⟩:=h;simp only[zex];refine⟨_,rfl,?_⟩
  first
   |trivial
   |(have h1:(a.size:Int)+(b.size:Int)<1099511627776:=(zp.1 hp).1
     omega)
end
section
variable {C:Ctx}{T:kH}{S:yb}{D:Env}{B:kn}
theorem zFT(hT:TabOk C.P T){t:TypeId}{y z:V}(h:vw (yz T).v T false 20 t y=some z)(hok:(yz T).ok false t y):z=y/\Zg C.P t y=true:=by
 have h1:vw uM T false 20 t y=some y:=hok;have h2:vw uM T false 20 t y=some z:=h;rw[h1]at h2;simp only[za]at h2;exact⟨h2.symm,(zlU hT false 20 t y y h1).2.2.1⟩
theorem zsV(hT:TabOk C.P T):∀(fts:List (Nat×TypeId)) (ys:List V) (n k m:Nat),zcp T fts k=some m->(∀(i:Nat) (x:Nat×TypeId) (y:V),fts[i]? =some x->ys[i]? =some y->y.size=ub T x.2)->fts.length=ys.length->
 ∀(x:Nat×TypeId),fts[n]? =some x->x.1=k+V.offs ys n/\ub T x.2≠0
 |[],_,_,_,_,_,_,_,_,hx=>by simp at hx
 |(o,t)::fts,[],_,_,_,_,_,hl,_,_=>by simp at hl
 |(o,t)::fts,y::ys,n,k,m,h,hs,hl,x,hx=>by
  simp only[zcp]at h;split at h
  ·rename_i ti ht;split at h
   ·rename_i hc;have h0:=hs 0 (o,t) y rfl rfl;simp only[ub,ht]at h0
    cases n with
    |zero=>
     simp at hx;subst hx;exact⟨by simp[V.offs,V.sizes,hc.1],by simp[ub,ht,hc.2]⟩
    |succ n=>
     have:=zsV hT fts ys n (k+ti.cells) m h (fun i x y h1 h2=>hs (i+1) x y (by simpa using h1) (by simpa using h2)) (by simpa using hl) x (by simpa using hx);refine⟨?_,this.2⟩;rw[this.1];simp only[V.offs,List.take_succ_cons,V.sizes,h0];omega
   ·cases h
  ·cases h
theorem zvR(hT:TabOk C.P T)(o:Bool):∀(n:Nat) (fs:List (Nat×TypeId)) (i:Nat) (y:V) (ys:List V),vws uM T o n fs i y=some ys->∀(j:Nat) (x:Nat×TypeId) (z:V),fs[j]? =some x->ys[j]? =some z->z.size=ub T x.2
 |_,[],_,_,_,_,j,x,z,hx,_=>by simp at hx
 |0,_::_,_,_,_,hv,_,_,_,_,_=>by simp[vws]at hv
 |n+1,(o',t)::fs,i,y,ys,hv,j,x,z,hx,hz=>by
  simp only[vws]at hv;split at hv
  ·rename_i v hv1;split at hv
   ·rename_i vs hv2;simp only[za]at hv;subst hv
    cases j with
    |zero=>
     simp at hx hz;subst hx;subst hz;exact(zlU hT o n t _ v hv1).1
    |succ j=>exact zvR hT o n fs (i+1) y vs hv2 j x z (by simpa using hx) (by simpa using hz)
   ·cases hv
  ·cases hv
theorem zCd(hT:TabOk C.P T){t f:Nat}{fts:List (Nat×TypeId)}{x:Nat×TypeId}(hf:Jn T t=some fts)(hx:zgw fts f=some x){fs:List V}(hz:∃o y n,vw uM T o n t y=some (.agg fs)):
 Ku C.P t f=some x/\C.P.cellsOf x.2≠0/\f<fs.length/\V.offs fs f=x.1:=by
 obtain⟨o,y,n,hz⟩:=hz;have h1:Ku C.P t f=some x:=by rw[zhJ (hT.fields hf)];exact hx
 rw[zsY]at hx
 cases n with
 |zero=>simp[vw]at hz
 |succ n=>
  unfold Jn at hf;split at hf
  ·rename_i fs' c zz ht;simp only[za]at hf;subst hf;simp only[vw,ht]at hz;split at hz
   ·rename_i ys hys;simp only[za,V.agg.injEq]at hz;subst hz;have hc:=hT.c ht;simp only[Yu,decide_eq_true_eq]at hc;have hl:=(zm9 hT o n fs' 0 y ys hys).2.2;obtain⟨e1,e2⟩:=zsV hT fs' ys f 0 c hc (zvR hT o n fs' 0 y ys hys) hl.symm x hx;have hlt:f<fs'.length:=(zq.1 hx).1;refine⟨h1,?_,by omega,by omega⟩;unfold ub at e2;split at e2
    ·rename_i ti hti;rw[hT.cells hti];exact e2
    ·exact absurd rfl e2
   ·cases hz
  ·cases hf
end
end Go.Ax
namespace Go.Ax
section
variable {C:Ctx}{T:kH}{S:yb}{D:Env}{B:kn}
theorem zqO(hT:TabOk C.P T){t:TypeId}(h:KR 0 (ub T t)=true):C.P.cellsOf t≠0:=by
 have h':0<ub T t:=by
  have:=km h;omega
 unfold ub at h';split at h'
 ·rename_i ti ht;rw[hT.cells ht];omega
 ·omega
theorem zgu(hT:TabOk C.P T){off f:Nat}{ft:TypeId}{fs:List V}(h:zla T off ft f fs=true):C.P.cellsOf ft≠0/\f<fs.length/\V.offs fs f=off:=by
 simp only[zla,zh]at h;refine⟨zqO hT h.2,?_,qX h.1.1⟩;have:=km h.1.2;omega
theorem okr_of{r:V}{p:List Nat}{x:V×List Prop}(h:p=[]\/(r.okm p/\(∀fs,r≠.tup fs)/\(∀fs,r≠.agg fs)/\uj (yz T) T r p=some x))(hH:(r.at p).isH=true):r.okr p:=by
 rcases h with rfl|⟨h1,h2,h3,_⟩
 ·cases r<;>trivial
 ·unfold V.okr;split
  ·trivial
  ·exact absurd rfl (h2 _)
  ·exact⟨h1,hH⟩
theorem zv6{s:Nat}{p:List Nat}{y:V}(ho:y.owned=true)(hH:y.isH=true):rdA s (D s).ver p y=some (vz D (.rf s 0 p)):=by
 simp[rdA,ho,hH,vz]
theorem zv5{s ver:Nat}{p:List Nat}{y:V}(ho:y.owned=false):rdA s ver p y=some (.val y):=by
 simp[rdA,ho]
theorem zv7{s:Nat}{p:List Nat}{fs:List V}(ho:(V.agg fs).owned=true)(hf:V.flats fs=true):rdA s (D s).ver p (.agg fs)=some (vz D (.ag s 0 p fs)):=by
 simp[rdA,ho,hf,vz,V.isH]
theorem zwa{r c:V}{e:TypeId}{p:List Nat}{x:V×List Prop}(e1:r.at p=.box e c)(h:p=[]\/(r.okm p/\(∀fs,r≠.tup fs)/\(∀fs,r≠.agg fs)/\uj (yz T) T r p=some x)):r.okm (p++[0]):=by
 have key:∀(p:List Nat) (r:V),r.at p=.box e c->r.okp p->r.okp (p++[0]):=by
  intro p
  induction p with
  |nil=>
   intro r h1 _;simp only[V.at]at h1;subst h1;exact⟨trivial,trivial⟩
  |cons i p ih=>
   intro r h1 h2;exact⟨h2.1,ih _ h1 h2.2⟩
 rcases h with rfl|⟨h1,h2,h3,_⟩
 ·simp only[V.at]at e1;subst e1;exact⟨trivial,trivial⟩
 ·cases p with
  |nil=>exact h1.elim
  |cons i p=>
   have:=key (i::p) r e1 (by cases r<;>first|exact h1|exact h1.elim)
   cases r with
   |agg fs=>exact absurd rfl (h3 fs)
   |_=>exact this
theorem zf2(hT:TabOk C.P T){t e:TypeId}(h:Qm T t=some e):ul C.P t=some e/\C.P.cellsOf e≠0:=by
 refine⟨hT.elem h,?_⟩;unfold Qm at h;split at h
 ·rename_i e' _ _ ht;simp only[za]at h;subst h;have hc:=hT.c ht;simp only[Yu,zh,decide_eq_true_eq]at hc;have h2:=hc.2.2
  cases hh:jb T e' with
  |none=>rw[hh]at h2;cases h2
  |some te=>rw[hT.cells hh];rw[hh]at h2;simpa using h2
 ·cases h
mutual
theorem YW(T:kH):∀v:V,zbV (yz T) v=v.frz
 | .slc _ _ _ _=>rfl
 | .agg fs=>by simp only[zbV,V.frz,zlq T fs]
 | .tup fs=>by simp only[zbV,V.frz,zlq T fs]
 | .box _ c=>by simp only[zbV,V.frz,YW T c]
 | .int _ _=>rfl
 | .bool _=>rfl
 | .str _=>rfl
 | .fn _ _=>rfl
 | .hole _=>rfl
theorem zlq(T:kH):∀l:List V,zoU (yz T) l=V.frzs l
 |[]=>rfl
 |v::l=>by simp only[zoU,V.frzs,YW T v,zlq T l]
end
theorem ztF{T:kH}{C:Ctx}{B:kn}(hΦ:C.Φ=Ka B)(k:FuncId)(r:V):zyA (yz T) B k r=zyB C k r:=by
 unfold zyA zyB;rw[hΦ];simp only[Ka]
 cases hb:zdV B (2000000000+k)with
 |none=>rfl
 |some f=>
  dsimp only
  cases hf:f []with
  |none=>rfl
  |some r'=>exact YW T r
theorem zm4(hT:TabOk C.P T)(hA:Agr S D){g:Option Bool}(hg:gb g=true):∀{xs:List Operand} {ts:List TypeId} {ps:List Prop} {vs:List V} {br:Bool},zfP (yz T) T S g xs ts=some (ps,vs,br)->qA ps->zb9 C.P D xs ts=zpj T S xs ts
 |[],_,ps,vs,br,_,_=>rfl
 |x::xs,ts,ps,vs,br,h,hp=>by
  simp only[zfP]at h;split at h
  ·rename_i gx a h1;split at h
   ·rename_i v qs h2;split at h
    ·rename_i rs vs' br' h3;simp only[za,zb]at h;obtain⟨rfl,rfl,rfl⟩:=h;rw[zE,zE]at hp;have o1:=zN hT hA h1 (zT hp.1.1 hg);have e:=zm4 hT hA hg h3 hp.2;simp only[zb9,zpj,o1,h1,e];cases a<;>rfl
    ·cases h
   ·cases h
  ·cases h
theorem zCx{T:kH}{S:yb}{B:kn}(hΦ:C.Φ=Ka B)(k:FuncId){xs:List Operand}{ts:List TypeId}(br:Bool)(h:zb9 C.P D xs ts=zpj T S xs ts):brK C D k xs ts br=zCy T B S k xs ts br:=by
 unfold brK zCy;rw[hΦ,h];simp only[Ka]
 cases br with
 |false=>rfl
 |true=>
  cases hb:zdV B (3000000000+k)with
  |none=>rfl
  |some f=>
   dsimp only
   cases hf:f []with
   |none=>rfl
   |some r'=>simp
theorem zbB(hT:TabOk C.P T)(hA:Agr S D)(hΦ:C.Φ=Ka B){g:Option Bool}(hg:gb g=true){o:Oper}{ps:List Prop}{a:A}(h:ux (yz T) T B S g o=some (ps,a))(hp:qA ps):
 ∃p,yC C D true o=some (p,vz D a)/\p:=by
 cases hop:o.op with
 |move x=>
  simp only[ux,hop]at h;split at h
  ·rename_i gx a' h1;simp only[za,zb]at h;obtain⟨rfl,rfl⟩:=h;have o1:=zN hT hA h1 (zT hp hg);refine⟨_,by simp only[yC,hop,o1];rfl,?_⟩;simp
  ·cases h
 |assign x=>
  simp only[ux,hop]at h;split at h
  ·rename_i gx v h1;split at h
   ·cases h
   ·rename_i ho;simp only[za,zb]at h;obtain⟨rfl,rfl⟩:=h;have o1:=zN hT hA h1 (zT hp hg);exact⟨true=true->true=true,by simp only[yC,hop,o1,vz,ho,yJ,if_false],fun h=>h⟩
  ·rename_i gx s ver i p h1;split at h
   ·cases h
   ·rename_i r hn hr;simp only[za,zb]at h;obtain⟨rfl,rfl⟩:=h;have o1:=zN hT hA h1 (zT hp hg);refine⟨true=true->true=true,?_,fun h=>h⟩;simp only[yC,hop,o1,vz,yO hA hr]
   ·cases h
  ·rename_i gx s ver h1;split at h
   ·rename_i d hd;split at h
    ·rename_i f hf;split at h
     ·rename_i r hr;simp only[za,zb]at h;obtain⟨rfl,rfl⟩:=h;have o1:=zN hT hA h1 (zT hp hg);refine⟨true=true->true=true,?_,fun h=>h⟩;simp only[yC,hop,o1,vz,hd];rw[if_pos];rw[hΦ];simp only[Ka,hf,hr];rfl
     ·cases h
    ·cases h
   ·cases h
  ·cases h
 |pick c x y=>
  simp only[ux,hop]at h;split at h
  ·rename_i gc c' ga a' gb' b' h1 h2 h3;simp only[za,zb]at h;obtain⟨rfl,rfl⟩:=h;rw[zE,zE]at hp;have o1:=zN hT hA h1 (zT hp.1.1 hg)
   have a1:c'=true->gb ga=true:=by
    intro hc;have:=jo hp.1.2 hg
    cases ga with
    |none=>rfl
    |some b=>simp only[qr,qo,zp]at this;exact this.1 hc
   have a2:c'=false->gb gb'=true:=by
    intro hc;have:=jo hp.2 hg
    cases gb' with
    |none=>rfl
    |some b=>simp only[qr,qo,zp]at this;exact this.1 (by simp[yz,hc])
   refine⟨(true=true->true=true)/\(true=true->true=true),?_,fun h=>h,fun h=>h⟩;simp only[yC,hop,o1,vz]
   cases c' with
   |true=>simp only[if_true,zN hT hA h2 (a1 rfl),vz];rfl
   |false=>simp only[yJ,if_false,zN hT hA h3 (a2 rfl),vz];rfl
  ·cases h
 |binOp op xt x y yt=>
  simp only[ux,hop]at h;split at h
  ·rename_i gx a' gy b' h1 h2;split at h
   ·rename_i hbt;have hb:=hT.bool hbt
    have hu:C.P.underlying xt=some .bool:=by
     unfold zhO at hb;split at hb
     ·rename_i hh;exact hh
     ·cases hb
    split at h
    ·simp only[za,zb]at h;obtain⟨rfl,rfl⟩:=h;rw[zE]at hp;have o1:=zN hT hA h1 (zT hp.1 hg);have o2:=zN hT hA h2 (zT hp.2 hg);refine⟨_,by simp only[yC,hop,o1,o2,vz,hu,if_true];rfl,?_⟩;simp
    ·simp only[za,zb]at h;obtain⟨rfl,rfl⟩:=h;rw[zE]at hp;have o1:=zN hT hA h1 (zT hp.1 hg);have o2:=zN hT hA h2 (zT hp.2 hg);refine⟨_,by simp only[yC,hop,o1,o2,vz,hu,if_true];rfl,?_⟩;simp
    ·cases h
   ·cases h
  ·rename_i gx k a' gy k' b' h1 h2;split at h
   ·rename_i hk;have:=ztu hk;subst this;split at h
    ·rename_i qs v h3;simp only[za,zb]at h;obtain⟨rfl,rfl⟩:=h;rw[zE,zE]at hp;have o1:=zN hT hA h1 (zT hp.1.1 hg);have o2:=zN hT hA h2 (zT hp.1.2 hg);obtain⟨p,e1,e2⟩:=zyV h3 (jo hp.2 hg);refine⟨((true=true->true=true)/\(true=true->true=true))/\(true=true->p),?_,⟨fun h=>h,fun h=>h⟩,fun _=>e2⟩;simp only[yC,hop,o1,o2,vz,e1];rfl
    ·cases h
   ·split at h
    ·simp only[za,zb]at h;obtain⟨rfl,rfl⟩:=h;rw[zE,zE]at hp;have o1:=zN hT hA h1 (zT hp.1.1 hg);have o2:=zN hT hA h2 (zT hp.1.2 hg);have hb:(0:Int)<=b':=(zp.1 (jo hp.2 hg)).1;refine⟨((true=true->true=true)/\(true=true->true=true))/\(true=true->(0:Int)<=b'),?_,⟨fun h=>h,fun h=>h⟩,fun _=>hb⟩;simp only[yC,hop,o1,o2,vz,zex,if_true];rfl
    ·cases h
  ·rename_i gx a' gy b' h1 h2;split at h
   ·rename_i qs v h3;simp only[za,zb]at h;obtain⟨rfl,rfl⟩:=h;rw[zE,zE]at hp;have o1:=zN hT hA h1 (zT hp.1.1 hg);have o2:=zN hT hA h2 (zT hp.1.2 hg);obtain⟨p,e1,e2⟩:=zxR h3 (jo hp.2 hg);refine⟨((true=true->true=true)/\(true=true->true=true))/\(true=true->p),?_,⟨fun h=>h,fun h=>h⟩,fun _=>e2⟩;simp only[yC,hop,o1,o2,vz,e1];rfl
   ·cases h
  ·cases h
 |unOp op t x=>
  simp only[ux,hop]at h;split at h
  ·rename_i gx b h1;simp only[za,zb]at h;obtain⟨rfl,rfl⟩:=h;have o1:=zN hT hA h1 (zT hp hg);exact⟨true=true->true=true,by simp only[yC,hop,o1,vz];rfl,fun h=>h⟩
  ·rename_i gx k n h1;simp only[za,zb]at h;obtain⟨rfl,rfl⟩:=h;have o1:=zN hT hA h1 (zT hp hg);exact⟨true=true->true=true,by simp only[yC,hop,o1,vz];rfl,fun h=>h⟩
  ·cases h
 |load t x=>
  simp only[ux,hop]at h;split at h
  ·rename_i gx y h1;split at h
   ·rename_i z hz;simp only[za,zb]at h;obtain⟨rfl,rfl⟩:=h;rw[zE]at hp;have o1:=zN hT hA h1 (zT hp.1 hg);obtain⟨rfl,e2⟩:=zFT hT hz (zp.1 (jo hp.2 hg)).1;refine⟨_,by simp only[yC,hop,o1,vz,e2,if_true];rfl,?_⟩;simp
   ·cases h
  ·rename_i gx v h1;split at h
   ·rename_i y hy;split at h
    ·rename_i hf;simp only[za,zb]at h;obtain⟨rfl,rfl⟩:=h;have o1:=zN hT hA h1 (zT hp hg);refine⟨_,by simp only[yC,hop,o1,vz,hy,Jx hT hf,if_true];rfl,?_⟩;simp
    ·cases h
   ·cases h
  ·rename_i gx s ver p h1;split at h
   ·rename_i r hr;split at h
    ·rename_i i p' y qs hy;split at h
     ·rename_i hf
      have main:∀a',((qr (yz T) g gx++YO (yz T) g qs),a')=(ps,a)->rdA s (D s).ver (i::p') y=some (vz D a')->∃p,yC C D true o=some (p,vz D a)/\p:=by
       rintro a' he hrd;simp only[zb]at he;obtain⟨rfl,rfl⟩:=he;rw[zE]at hp;have o1:=zN hT hA h1 (zT hp.1 hg);obtain⟨e1,e2⟩:=uG hy (jo hp.2 hg)
       have e3:r.okm (i::p'):=by
        rcases e2 with e2|e2
        ·cases e2
        ·exact e2.1
       refine⟨_,by simp only[yC,hop,o1,vz,yO hA hr,e1,Jx hT hf,if_true,hrd];rfl,?_⟩;simp[e3]
      split at h
      ·rename_i ho;simp only[za]at h;exact main _ h (zv5 ho)
      ·rename_i ho;split at h
       ·rename_i hH;simp only[za]at h;exact main _ h (zv6 ho hH)
       ·split at h
        ·split at h
         ·rename_i hfl;simp only[za]at h;exact main _ h (zv7 ho hfl)
         ·cases h
        ·cases h
     ·cases h
    ·cases h
   ·cases h
  ·rename_i gx s ver p h1;split at h
   ·rename_i r hr;split at h
    ·rename_i e c qs hy;split at h
     ·rename_i hf
      have main:∀a',((qr (yz T) g gx++YO (yz T) g qs),a')=(ps,a)->rdA s (D s).ver (p++[0]) c=some (vz D a')->∃p,yC C D true o=some (p,vz D a)/\p:=by
       rintro a' he hrd;simp only[zb]at he;obtain⟨rfl,rfl⟩:=he;rw[zE]at hp;have o1:=zN hT hA h1 (zT hp.1 hg);obtain⟨e1,e2⟩:=uG hy (jo hp.2 hg);have e3:r.okr p:=okr_of e2 (by rw[e1];rfl);have e4:r.okm (p++[0]):=zwa e1 e2;refine⟨_,by simp only[yC,hop,o1,vz,yO hA hr,e1,Jx hT hf,if_true,hrd];rfl,?_⟩;simp[e3,e4]
      split at h
      ·rename_i ho;simp only[za]at h;exact main _ h (zv5 ho)
      ·rename_i ho;split at h
       ·rename_i hH;simp only[za]at h;exact main _ h (zv6 ho hH)
       ·split at h
        ·split at h
         ·rename_i hfl;simp only[za]at h;exact main _ h (zv7 ho hfl)
         ·cases h
        ·cases h
     ·cases h
    ·cases h
   ·cases h
  ·cases h
 |nilCheck x=>
  simp only[ux,hop]at h;split at h
  ·rename_i gx s ver p h1;split at h
   ·rename_i r hr;split at h
    ·rename_i e c qs hy;simp only[za,zb]at h;obtain⟨rfl,rfl⟩:=h;rw[zE]at hp;have o1:=zN hT hA h1 (zT hp.1 hg);obtain⟨e1,e2⟩:=uG hy (jo hp.2 hg);have e3:r.okr p:=okr_of e2 (by rw[e1];rfl);refine⟨_,by simp only[yC,hop,o1,vz,yO hA hr,e1];rfl,?_⟩;simp[e3]
    ·cases h
   ·cases h
  ·cases h
 |fieldAddr st x f=>
  simp only[ux,hop]at h;split at h
  ·rename_i fts hfts;split at h
   ·rename_i off ft hn;have hft:Ku C.P st f=some (off,ft):=(by rw[zhJ (hT.fields hfts)];exact hn);split at h
    ·rename_i gx y h1;simp only[za,zb]at h;obtain⟨rfl,rfl⟩:=h;rw[zE]at hp;have o1:=zN hT hA h1 (zT hp.1 hg);have hok:vw uM T false 20 st y=some y:=(zp.1 (jo hp.2 hg)).1;obtain⟨zs,rfl⟩:=(zlU hT false 20 st y y hok).2.2.2.1 fts hfts;obtain⟨_,e2,e3,e4⟩:=zCd hT hfts hn ⟨false,_,20,hok⟩;have hc:C.P.cellsOf ft≠0/\f<zs.length/\V.offs zs f=off:=⟨e2,e3,e4⟩;refine⟨_,by simp only[yC,hop,hft,o1,vz];rw[if_pos hc];rfl,?_⟩;simp
    ·rename_i gx v h1;split at h
     ·rename_i fs hy;split at h
      ·rename_i hpl;simp only[za,zb]at h;obtain⟨rfl,rfl⟩:=h;have o1:=zN hT hA h1 (zT hp hg);refine⟨_,by simp only[yC,hop,hft,o1,vz,hy];rw[if_pos (zgu hT hpl)],?_⟩;simp
      ·cases h
     ·cases h
    ·rename_i gx s ver p h1;split at h
     ·rename_i r hr;split at h
      ·rename_i i p' fs qs hy;split at h
       ·rename_i hpl;simp only[za,zb]at h;obtain⟨rfl,rfl⟩:=h;rw[zE]at hp;have o1:=zN hT hA h1 (zT hp.1 hg);obtain⟨e1,e2⟩:=uG hy (jo hp.2 hg)
        have e3:r.okm (i::p'):=by
         rcases e2 with e2|e2
         ·cases e2
         ·exact e2.1
        refine⟨_,by simp only[yC,hop,hft,o1,vz,yO hA hr,e1];rw[if_pos (zgu hT hpl)],?_⟩;simp[e3]
       ·cases h
      ·cases h
     ·cases h
    ·rename_i gx s ver p h1;split at h
     ·rename_i r hr;split at h
      ·rename_i e fs qs hy;split at h
       ·rename_i hpl;simp only[za,zb]at h;obtain⟨rfl,rfl⟩:=h;rw[zE]at hp;have o1:=zN hT hA h1 (zT hp.1 hg);obtain⟨e1,e2⟩:=uG hy (jo hp.2 hg);have e3:r.okr p:=okr_of e2 (by rw[e1];rfl);refine⟨_,by simp only[yC,hop,hft,o1,vz,yO hA hr,e1];rw[if_pos (zgu hT hpl)],?_⟩;simp[e3]
       ·cases h
      ·cases h
     ·cases h
    ·cases h
   ·cases h
  ·cases h
 |indexAddr st x i=>
  simp only[ux,hop]at h;split at h
  ·rename_i e gi n he hi;split at h
   ·rename_i gx e' d es h1;split at h
    ·rename_i hb;have:=qX hb;subst this;simp only[za,zb]at h;obtain⟨rfl,rfl⟩:=h;rw[zE,zE]at hp;have o1:=zN hT hA h1 (zT hp.1.1 hg);have o2:=zbD hT hA hi hg hp.1.2;have hq:=jo hp.2 hg;simp only[zp]at hq;have q1:0<=n:=hq.1;have q2:n<(es.length:Int):=hq.2.1;obtain⟨c1,c2⟩:=zf2 hT he;refine⟨_,by simp only[yC,hop,c1,o1,o2,vz];rw[if_pos ⟨trivial,c2⟩];rfl,?_⟩;simp[q1,q2]
    ·cases h
   ·rename_i gx s ver p h1;split at h
    ·rename_i r hr;split at h
     ·rename_i e' d es qs hy;split at h
      ·rename_i hb;have:=qX hb;subst this;simp only[za,zb]at h;obtain⟨rfl,rfl⟩:=h;rw[zE,zE]at hp;have o1:=zN hT hA h1 (zT hp.1.1 hg);have o2:=zbD hT hA hi hg hp.1.2;have hq:=jo hp.2 hg;rw[zE]at hq;obtain⟨e1,e2⟩:=uG hy hq.1;have e3:r.okr p:=okr_of e2 (by rw[e1];rfl);have hq2:=hq.2;simp only[zp]at hq2;have q1:0<=n:=hq2.1;have q2:n<(es.length:Int):=hq2.2.1;obtain⟨c1,c2⟩:=zf2 hT he;refine⟨_,by simp only[yC,hop,c1,o1,o2,vz,yO hA hr,e1];rw[if_pos ⟨trivial,c2⟩];rfl,?_⟩;simp[q1,q2,e3]
      ·cases h
     ·cases h
    ·cases h
   ·cases h
  ·cases h
 |index st x i=>
  simp only[ux,hop]at h;split at h
  ·rename_i hst;split at h
   ·rename_i gx s gi n h1 hi;simp only[za,zb]at h;obtain⟨rfl,rfl⟩:=h;rw[zE,zE]at hp;have o1:=zN hT hA h1 (zT hp.1.1 hg);have o2:=zbD hT hA hi hg hp.1.2;have hq:=jo hp.2 hg;simp only[zp]at hq;have q1:0<=n:=hq.1;have q2:n<(s.size:Int):=hq.2.1;refine⟨_,by simp only[yC,hop,hT.str hst,o1,o2,vz];rfl,?_⟩;simp[q1,q2]
   ·cases h
  ·cases h
 |extract x i=>
  simp only[ux,hop]at h;split at h
  ·rename_i gx fs h1;split at h
   ·rename_i y hy;rw[zcD]at hy;have hl:i<fs.length:=(zq.1 hy).1;simp only[za,zb]at h;obtain⟨rfl,rfl⟩:=h;have o1:=zN hT hA h1 (zT hp hg);refine⟨_,by simp only[yC,hop,o1,vz,if_pos hl,jR hy];rfl,?_⟩;simp
   ·cases h
  ·rename_i gx s ver h1;split at h
   ·rename_i fs hr;split at h
    ·rename_i y hy;rw[zcD]at hy;have hl:i<fs.length:=(zq.1 hy).1;split at h
     ·rename_i ho;simp only[za,zb]at h;obtain⟨rfl,rfl⟩:=h;have o1:=zN hT hA h1 (zT hp hg);refine⟨_,by simp only[yC,hop,o1,vz,yO hA hr,if_pos hl,jR hy,ho,if_true];rfl,?_⟩;simp
     ·rename_i ho;simp only[za,zb]at h;obtain⟨rfl,rfl⟩:=h;have o1:=zN hT hA h1 (zT hp hg);refine⟨_,by simp only[yC,hop,o1,vz,yO hA hr,if_pos hl,jR hy,ho,yJ,if_false];rfl,?_⟩;simp
    ·cases h
   ·cases h
  ·cases h
 |slice st x lo hi mx=>
  cases mx with
  |some m=>simp[ux,hop]at h
  |none=>
   simp only[ux,hop]at h;split at h
   ·rename_i gx e d es h1;split at h
    ·rename_i e' he;split at h
     ·rename_i hb;have:=qX hb;subst this;split at h
      ·rename_i gl l gh k h2 h3;simp only[za,zb]at h;obtain⟨rfl,rfl⟩:=h;rw[zE,zE,zE]at hp;have o1:=zN hT hA h1 (zT hp.1.1.1 hg);obtain⟨p2,o2,r2⟩:=QR hT hA h2 hg hp.1.1.2;obtain⟨p3,o3,r3⟩:=QR hT hA h3 hg hp.1.2;have hq:=jo hp.2 hg;simp only[zp]at hq;have q1:0<=l:=hq.1;have q2:l<=k:=hq.2.1;have q3:k<=(es.length:Int):=hq.2.2.1;obtain⟨c1,c2⟩:=zf2 hT he;have o3':kP C.P D true (es.length:Int) hi=some (p3,k):=o3;refine⟨_,by simp only[yC,hop,o1,vz,c1,o2,o3'];rw[if_pos ⟨trivial,c2⟩];rfl,?_⟩;simp[q1,q2,q3,r2,r3]
      ·cases h
     ·cases h
    ·cases h
   ·rename_i gx s h1;split at h
    ·rename_i hst;split at h
     ·rename_i gl l gh k h2 h3;simp only[za,zb]at h;obtain⟨rfl,rfl⟩:=h;rw[zE,zE,zE]at hp;have o1:=zN hT hA h1 (zT hp.1.1.1 hg);obtain⟨p2,o2,r2⟩:=QR hT hA h2 hg hp.1.1.2;obtain⟨p3,o3,r3⟩:=QR hT hA h3 hg hp.1.2;have hq:=jo hp.2 hg;simp only[zp]at hq;have q1:0<=l:=hq.1;have q2:l<=k:=hq.2.1;have q3:k<=(s.size:Int):=hq.2.2.1;have o3':kP C.P D true (s.size:Int) hi=some (p3,k):=o3;refine⟨_,by simp only[yC,hop,o1,vz,hT.str hst,o2,o3'];rfl,?_⟩;simp[q1,q2,q3,r2,r3]
     ·cases h
    ·cases h
   ·cases h
 |convert s d x=>
  simp only[ux,hop]at h;split at h
  ·rename_i k' k gx k2 n h1 h2 h3;simp only[za,zb]at h;obtain⟨rfl,rfl⟩:=h;have o1:=zN hT hA h3 (zT hp hg);refine⟨_,by simp only[yC,hop,o1,vz,hT.kind h1,hT.kind h2];rfl,?_⟩;simp
  ·rename_i gx sl ver h1 h2 h3;split at h
   ·rename_i e e' dd es h4 h5 h6;split at h
    ·rename_i ti h7 h8 h9;split at h
     ·rename_i h10;simp only[za,zb]at h;obtain⟨rfl,rfl⟩:=h;rw[zE]at hp;have o1:=zN hT hA h3 (zT hp.1 hg);have hq:zmp es:=(zp.1 (jo hp.2 hg)).1;have k1:=hT.elem h5;have k2:C.P.cellsOf e=1:=(by rw[hT.cells h9];exact qX h10);have k3:=hT.str h4;have k4:zaz C.P s=none:=ztt k1;have k5:zaz C.P d=none:=zvG k3;refine⟨_,by simp only[yC,hop,o1,vz,k4,k5,k3,k1,yO hA h6];rw[if_pos ⟨hT.kind h8,qX h7,k2⟩];rfl,?_⟩;simp[hq]
     ·cases h
    ·cases h
   ·cases h
  ·cases h
 |alloc t=>
  simp only[ux,hop]at h;split at h
  ·rename_i ti ht;simp only[za,zb]at h;obtain⟨_,rfl⟩:=h;exact⟨True,by simp only[yC,hop,hT.zero ht];rfl,trivial⟩
  ·cases h
 |box t x=>
  simp only[ux,hop]at h;split at h
  ·rename_i gx v h1;split at h
   ·rename_i ho;split at h
    ·rename_i hf;simp only[za,zb]at h;obtain⟨rfl,rfl⟩:=h;have o1:=zN hT hA h1 (zT hp hg);refine⟨_,by simp only[yC,hop,o1,vz,ho,Bool.false_and,yJ,if_false,Jx hT hf,if_true];rfl,?_⟩;simp
    ·cases h
   ·cases h
  ·cases h
 |makeSlice t l c=>
  simp only[ux,hop]at h;split at h
  ·rename_i e he;split at h
   ·rename_i gl n gc m ti h1 h2 ht;simp only[za,zb]at h;obtain⟨rfl,rfl⟩:=h;rw[zE,zE]at hp;have o1:=zbD hT hA h1 hg hp.1.1;have o2:=zbD hT hA h2 hg hp.1.2;have hq:=jo hp.2 hg;simp only[zp]at hq;have q1:0<=n:=hq.1;have q2:n<=m:=hq.2.1;have q3:m<=2147483647:=hq.2.2.1;refine⟨_,by simp only[yC,hop,hT.elem he,o1,o2,hT.zero ht];rw[if_pos (hT.small ht)];rfl,?_⟩;simp[q1,q2,q3]
   ·cases h
  ·cases h
 |buildSlice t n parts=>
  simp only[ux,hop]at h;split at h
  ·rename_i e he;split at h
   ·rename_i ti qs vs ht hv;split at h
    ·rename_i hle;split at h
     ·rename_i es hes;simp only[za,zb]at h;obtain⟨rfl,rfl⟩:=h;obtain⟨p,o1,r1⟩:=zb4 hT hA hg hv hp
      have hc:n*C.P.cellsOf e<=2^20/\0<C.P.cellsOf e:=by
       have:=(zf2 hT he).2;rw[hT.cells ht]at this ⊢;exact⟨km hle,by omega⟩
      exact⟨p,by simp only[yC,hop,hT.elem he,hT.zero ht,o1];rw[if_pos hc,hes];rfl,r1⟩
     ·cases h
    ·cases h
   ·cases h
  ·cases h
 |build t parts=>
  simp only[ux,hop]at h;split at h
  ·rename_i fts c zs ht;split at h
   ·rename_i qs vs hv;split at h
    ·rename_i fs hfs;simp only[za,zb]at h;obtain⟨rfl,rfl⟩:=h;have hst:zcy C.P t=some zs:=congrArg Got.struct (hT.got ht)
     have hty:(fun i=>((Ku C.P t i).map (·.2)).getD 0)=zp1 fts:=by
      funext i
      rw[zhJ (hT.fields (t:=t) (fs:=fts) (by simp[Jn,ht]))];unfold zp1;cases zgw fts i<;>rfl
     obtain⟨p,o1,r1⟩:=zb4 hT hA hg hv hp;refine⟨p,?_,r1⟩;simp only[yC,hop,hst,hty,o1,hfs];rfl
    ·cases h
   ·cases h
  ·cases h
 |makeFunc fn first caps=>
  cases fn with
  |func f=>
   simp only[ux,hop]at h;split at h
   ·rename_i qs vs hf hv;split at h
    ·cases h
    rename_i hfb;simp only[za,zb]at h;obtain⟨rfl,rfl⟩:=h;obtain⟨p,o1,r1⟩:=zb4 hT hA hg hv hp;exact⟨p,by simp only[yC,hop,hf,o1,hfb,yJ,if_false];rfl,r1⟩
   ·cases h
  |_=>simp[ux,hop]at h
 |call c=>
  obtain⟨cal,args,ats⟩:=c
  cases cal with
  |builtin b=>
   cases b with
   |len=>
    simp only[ux,hop]at h;split at h
    ·rename_i x t h1 h2;split at h
     ·rename_i gx a' h3;split at h
      ·rename_i o' e' d' es qs h4;split at h
       ·rename_i e he;simp only[za,zb]at h;obtain⟨rfl,rfl⟩:=h;rw[zE]at hp;have o1:=zN hT hA h3 (zT hp.1 hg);obtain⟨l1,l2,l3⟩:=zar hA h4 (jo hp.2 hg);refine⟨_,by simp only[yC,hop,h1,h2,o1,l3,yJ,if_false,l1,hT.elem he,Option.isSome_some,if_true];rfl,?_⟩;simp[l2]
       ·cases h
      ·rename_i s qs h4;split at h
       ·rename_i hst;simp only[za,zb]at h;obtain⟨rfl,rfl⟩:=h;rw[zE]at hp;have o1:=zN hT hA h3 (zT hp.1 hg);obtain⟨l1,l2,l3⟩:=zar hA h4 (jo hp.2 hg);refine⟨_,by simp only[yC,hop,h1,h2,o1,l3,yJ,if_false,l1,hT.str hst,if_true];rfl,?_⟩;simp[l2]
       ·cases h
      ·cases h
     ·cases h
    ·cases h
   |min=>
    simp only[ux,hop]at h;split at h
    ·rename_i x y h0;split at h
     ·rename_i gx k a1 gy k' b1 h1 h2;split at h
      ·rename_i hk;have:=ztu hk;subst this;simp only[za,zb]at h;obtain⟨rfl,rfl⟩:=h;rw[zE]at hp;have o1:=zN hT hA h1 (zT hp.1 hg);have o2:=zN hT hA h2 (zT hp.2 hg);refine⟨_,by simp only[yC,hop,h0,o1,o2,vz,if_true];rfl,?_⟩;simp
      ·cases h
     ·cases h
    ·cases h
   |max=>
    simp only[ux,hop]at h;split at h
    ·rename_i x y h0;split at h
     ·rename_i gx k a1 gy k' b1 h1 h2;split at h
      ·rename_i hk;have:=ztu hk;subst this;simp only[za,zb]at h;obtain⟨rfl,rfl⟩:=h;rw[zE]at hp;have o1:=zN hT hA h1 (zT hp.1 hg);have o2:=zN hT hA h2 (zT hp.2 hg);refine⟨_,by simp only[yC,hop,h0,o1,o2,vz,if_true];rfl,?_⟩;simp
      ·cases h
     ·cases h
    ·cases h
   |_=>simp[ux,hop]at h
  |invoke r m=>simp[ux,hop]at h
  |value f=>
   simp only[ux,hop]at h;split at h
   ·rename_i gf k caps h1;split at h
    ·rename_i qs vs br h2;split at h
     ·cases h
     rename_i hfb;split at h
     ·rename_i ct hct;split at h
      ·rename_i rs r hr;have hphi:C.Φ k (vs++caps)=some (qA rs,r,[]):=(by rw[hΦ];simp only[Ka,hct,hr]);split at h
       ·split at h
        ·cases h
        ·rename_i hfn;simp only[za,zb]at h;obtain⟨rfl,rfl⟩:=h;rw[zE,zE]at hp;have o1:=zN hT hA h1 (zT hp.1.1 hg);obtain⟨p,o2,r2⟩:=zcf hT hA hg h2 hp.1.2;have hq:=jo hp.2 hg;rw[zE]at hq;have hnf:=zb8 r hq.2 hfn;refine⟨_,by simp only[yC,hop,o1,o2,vz,hphi,hnf,hfb,ztF hΦ,Bool.not_true,Bool.and_false,Bool.or_false,yJ,if_false];rfl,?_⟩;simp[r2,hq.1]
       ·rename_i hbk;simp only[za,zb]at h;obtain⟨rfl,rfl⟩:=h;rw[zE,zE]at hp;have o1:=zN hT hA h1 (zT hp.1.1 hg);obtain⟨p,o2,r2⟩:=zcf hT hA hg h2 hp.1.2;have hq:=jo hp.2 hg;have hb:brK C D k _ _ br=false:=(zCx (T:=T) (S:=S) hΦ k br (zm4 hT hA hg h2 hp.1.2)).trans hbk;refine⟨_,by simp only[yC,hop,o1,o2,vz,hphi,hb,hfb,ztF hΦ,Bool.false_and,Bool.or_false,yJ,if_false];rfl,?_⟩;simp[r2,hq]
      ·cases h
     ·cases h
    ·cases h
   ·cases h
 |_=>simp[ux,hop]at h
end
end Go.Ax
