/-
  AX, AxP3: parts U to ZA of the abstract executor: values, environments, steps, regions, loops, functions. No conditions.
-/
import Derived.Test.YtdahdoichcnlgaaGreatAxP2p1
set_option linter.all false
open Array renaming getD_eq_getD_getElem?->zw,getElem?_eq_some_iff->yQ,getElem?_setIfInBounds_self_of_lt->Zz
open Bool renaming and_eq_true->zh,false_eq_true->yB,not_eq_true'->yD,or_eq_false_iff->qh,or_eq_true->qL
open List renaming all_eq_true->yd,getElem?_eq_some_iff->zk,map_congr_left->ky,map_cons->yX,mem_append->qz,mem_cons->zC,mem_cons_of_mem->zx,mem_filter->jp,range_succ_eq_map->ZY
open List.cons renaming injEq->kf
open Nat renaming add_assoc->Qy,add_comm->Yl,le_refl->zt,le_succ->zgv,le_trans->qJ,lt_or_gt_of_ne->Yk
open Option renaming map_eq_some_iff->zJ
open Option.some renaming injEq->za
open Prod.mk renaming injEq->zb
namespace Go.Ax
open Go.RowKit
def step(C:Ctx)(ops:Array Oper)(t:Bool)(σ:Env)(o:Oper):Option (Prop×Env):=
 if t then
  match qm C ops σ o with
  |some r=>some r
  |none=>qv C σ o
 else match o.dst with
  |some d=>if(σ d).owner then none else qm C ops σ o
  |none=>none
def ev(C:Ctx)(ops:Array Oper):List Oper->List Bool->Env->(Env->Prop)->Prop
 |o::l,t::ts,σ,K=>match step C ops t σ o with
  |some (p,σ')=>p/\ev C ops l ts σ' K
  |none=>False
 |[],_,σ,K=>K σ
 |_::_,[],_,_=>False
section
variable {C:Ctx}{F:Nat->Prop}{O:Nat->Nat->Prop}{Z:Nat->Prop}{σ σ':Env}{a:Act}{w w':World}{ops:Array Oper}
theorem zgg(hI:Inv C F O (fun _=>False) σ a w){o:Oper}{i:Nat}(hi:ops[i]? =some o){p:Prop}(h:qv C σ o=some (p,σ'))(hp:p){Q:Exit->Act->World->Prop}:wpOp C.P ops Q i (G C σ') a w:=by
 have hg:o.guard=none:=by
  cases hh:o.guard with
  |none=>rfl
  |some g=>simp[qv,hh]at h
 have hw:o.wp C.P a w (G C σ') Q:=by
  have h':=h;simp only[qv,hg]at h';split at h'
  ·rename_i x d hop hd;exact zq5 hI hg hop hd h hp
  ·rename_i t x v hop hd;exact zud hI hg hop hd h hp
  ·rename_i args ats d hop hd;exact ziv hI hg hop hd h hp
  ·cases h'
 unfold wpOp;rw[hi];dsimp only;rw[show Region.wanted o (yielded ops a.tmps)=true from by unfold Region.wanted;rw[hg]];exact .inl hw
theorem zwf(hC:Ya C){t:Bool}{o:Oper}{i:Nat}(hi:ops[i]? =some o){p:Prop}(h:step C ops t σ o=some (p,σ'))(hp:p){Q:Exit->Act->World->Prop}(hG:G C σ a w):wpOp C.P ops Q i (G C σ') a w:=by
 obtain⟨F,O,hI⟩:=hG;unfold step at h;split at h
 ·split at h
  ·rename_i r hr;simp only[za]at h;subst h;exact YH hC hI hi hr hp
  ·exact zgg hI hi h hp
 ·split at h
  ·split at h
   ·cases h
   ·exact YH hC hI hi h hp
  ·cases h
theorem G.drew(h:G C σ a w):G C σ a {w with drawn:=w.drawn+1}:=by
 obtain⟨F,O,hI⟩:=h;exact⟨F,O,hI.worldZ (zt _) (fun _ _ _=>rfl) (fun _ h=>h.elim) (fun _ _ _ _ _ h=>h.elim) rfl rfl ⟨rfl,zym (zgv _)⟩⟩
def St(C:Ctx)(ops:Array Oper)(ts:List Bool)(i:Nat)(σ σ':Env):Prop:=∃o p,ops[i]? =some o/\step C ops (ts.getD i true) σ o=some (p,σ')/\p
theorem znB(hC:Ya C){ts:List Bool}{K:Env->Prop}{Q:Exit->Act->World->Prop}(hK:∀σ a w,K σ->G C σ a w->Q .normal a w):∀(n:Nat) (listed:Array Bool) (σ:Env) (a:Act) (w:World),zhV (St C ops ts) ops K n listed σ->G C σ a w->
 wpAny C.P .any ops Q n listed a w
 |0,_,σ,a,w,h,hG=>⟨h.1,hK σ a w h.2 hG⟩
 |n+1,listed,σ,a,w,h,hG=>by
  refine⟨fun h0=>hK σ a w (h.1 h0) hG,fun i hi=>?_⟩;obtain⟨σ',⟨o,p,ho,hs,hp⟩,h2⟩:=h.2 i hi;exact wpOp_mono (fun a' w' hG'=>znB hC hK n _ σ' a' w' h2 hG') (zwf hC ho hs hp hG)
theorem Ky{o:Oper}{t:Nat}(h:Operand.tmp t∈o.op.operands):t∈o.looksAt ops:=by
 unfold Oper.looksAt;refine qz.2 (.inl (List.mem_filterMap.2 ⟨.tmp t,by simpa using h,rfl⟩))
theorem zoi{P:Program}{ty:TypeId}{x:Operand}{d:Nat}{g:Bool}{A:A}(h:x≠.tmp d):opd P (σ.put d g A) ty x=opd P σ ty x:=by
 cases x with
 |tmp t=>
  have htd:t≠d:=fun e=>h (by rw[e]);simp only[opd,Env.put,htd,if_false]
 |_=>rfl
theorem zx6{o:Oper}{d:Nat}{g:Bool}{A:A}(h:d∉o.looksAt ops):gd ops (σ.put d g A) o=gd ops σ o:=by
 unfold gd
 cases hg:o.guard with
 |none=>rfl
 |some jw=>
  obtain⟨j,want⟩:=jw
  cases ht:(ops[j]?).bind (·.dst)with
  |none=>simp[ht]
  |some t=>
   have:t≠d:=by
    rintro rfl;refine h ?_;unfold Oper.looksAt;refine qz.2 (.inr ?_);simp[hg,ht]
   simp[ht,Env.put,this]
def zbc(C:Ctx)(ops:Array Oper)(σ:Env)(o:Oper):Option (Prop×Bool×A):=
 match gd ops σ o with
 |some true=>match ym C σ true o with
  |some (p,A)=>some (p,true,A)
  |none=>none
 |some false=>some (True,false,.val (.hole 0))
 |none=>none
theorem KN{o:Oper}{d:Nat}(hd:o.dst=some d):qm C ops σ o=match zbc C ops σ o with
 |some (p,g,A)=>if C.dst d then some (p,σ.put d g A)else none
 |none=>none:=by
 unfold qm zbc;rw[hd]
 cases gd ops σ o with
 |none=>rfl
 |some b=>
  cases b with
  |true=>
   dsimp only
   cases hl:ym C σ true o with
   |none=>rfl
   |some r=>rfl
  |false=>rfl
theorem zp3(hw:Wf σ){o:Oper}{p:Prop}{g:Bool}{A:A}(h:zbc C ops σ o=some (p,g,A)):∀s ver,A.refs=some (s,ver)->ver<=(σ s).ver:=by
 unfold zbc at h;split at h
 ·split at h
  ·rename_i hl;simp only[za,zb]at h;obtain⟨_,_,rfl⟩:=h;exact zr5 hw hl
  ·cases h
 ·simp only[za,zb]at h;obtain⟨_,_,rfl⟩:=h;intro s ver hr;simp[A.refs]at hr
 ·cases h
theorem zbw{o:Oper}{r:Prop×Bool×A}(hg:gd ops σ o=gd ops σ' o)(h:LeR C.P σ σ' o.op.operands.toList)(ho:∀ty x,x∈o.op.operands->opd C.P σ ty x=opd C.P σ' ty x)(hl:zbc C ops σ o=some r):zbc C ops σ' o=some r:=by
 unfold zbc at hl ⊢;rw[<-hg];split at hl
 ·split at hl
  ·rename_i h2;rw[zzH h ho h2];exact hl
  ·cases hl
 ·exact hl
 ·cases hl
theorem zzn{d e:Nat}{g h:Bool}{A B:Go.Ax.A}(hne:d≠e):(σ.put d g A).put e h B=(σ.put e h B).put d g A:=by
 funext t
 simp only[Env.put];by_cases h1:t=d
 ·subst h1;simp[hne]
 ·by_cases h2:t=e
  ·subst h2;simp[h1]
  ·simp[h1,h2]
theorem Wf.put(hw:Wf σ){d:Nat}{g:Bool}{A:A}(h:∀s ver,A.refs=some (s,ver)->ver<=(σ s).ver):Wf (σ.put d g A):=by
 intro t s ver hr;have hle:(σ s).ver<=((σ.put d g A) s).ver:=by simp only[Env.put];split<;>simp_all
 by_cases ht:t=d
 ·subst ht;simp only[Env.put,if_true]at hr;exact qJ (h s ver hr) hle
 ·simp only[Env.put,ht,if_false]at hr;exact qJ (hw t s ver hr) hle
theorem Env.own_put_some{d s ver:Nat}{g:Bool}{A:Go.Ax.A}{y:V}(ho:(σ d).owner=false)(h:σ.own s ver=some y):(σ.put d g A).own s ver=some y:=by
 by_cases hs:s=d
 ·subst hs;obtain⟨h1,h2,h3,h4⟩:=Env.own_iff'.1 h;simp[E.owner,h1,h3,h4]at ho
 ·rw[Env.own_put_ne hs];exact h
theorem zmZ{oi oj:Oper}{di dj:Nat}(hap:oi.apart ops oj=true)(hdi:oi.dst=some di)(hdj:oj.dst=some dj)(hw:Wf σ)(hoi:(σ di).owner=false){σi σij:Env}{pi pj:Prop}
 (hi:qm C ops σ oi=some (pi,σi)) (hoj:(σi dj).owner=false) (hj:qm C ops σi oj=some (pj,σij)):
 ∃σj,qm C ops σ oj=some (pj,σj)/\qm C ops σj oi=some (pi,σij)/\(σ dj).owner=false/\(σj di).owner=false/\Wf σj:=by
 obtain⟨a1,a2,a3⟩:=Oper.apart_spec hap;have hne:di≠dj:=fun e=>a2 di hdi (by rw[hdj,e]);rw[KN hdi]at hi;split at hi
 ·rename_i p g A hli;split at hi
  ·rename_i hdn;simp only[za,zb]at hi;obtain⟨rfl,rfl⟩:=hi;rw[KN hdj]at hj;split at hj
   ·rename_i p' g' B hlj;split at hj
    ·rename_i hdn';simp only[za,zb]at hj;obtain⟨rfl,rfl⟩:=hj;have n1:∀x,x∈oj.op.operands.toList->x≠.tmp di:=fun x hx e=>a1 di hdi (Ky (by subst e;simpa using hx));have n2:∀x,x∈oi.op.operands.toList->x≠.tmp dj:=fun x hx e=>a3 dj hdj (Ky (by subst e;simpa using hx))
     have hlj':zbc C ops σ oj=some (p',g',B):=by
      refine zbw (zx6 (a1 di hdi)) (fun ty x gx A' s ver y hx ho hr hy=>?_) (fun ty x hx=>zoi (n1 x (by simpa using hx))) hlj;rw[zoi (n1 x hx)]at ho;by_cases hs:s=di
      ·subst hs;rw[Env.own_put_eq (Za hw ho _ _ hr)]at hy;cases hy
      ·rwa [Env.own_put_ne hs]at hy
     have hod:(σ dj).owner=false:=by
      have:=hoj;simp only[Env.put,if_neg (Ne.symm hne)]at this;exact this
     have hli':zbc C ops (σ.put dj g' B) oi=some (p,g,A):=by
      refine zbw (zx6 (a3 dj hdj)).symm (fun ty x gx A' s ver y hx ho hr hy=>Env.own_put_some hod hy) (fun ty x hx=>(zoi (n2 x (by simpa using hx))).symm) hli
     refine⟨σ.put dj g' B,?_,?_,hod,?_,Wf.put hw (zp3 hw hlj')⟩
     ·rw[KN hdj,hlj'];dsimp only;rw[if_pos hdn']
     ·rw[KN hdi,hli'];dsimp only;rw[if_pos hdn,zzn (Ne.symm hne)]
     ·simp only[Env.put,if_neg hne];exact hoi
    ·cases hj
   ·cases hj
  ·cases hi
 ·cases hi
def uU(σ σ':Env):Prop:=∀t,(σ t).ver<=(σ' t).ver/\((σ' t).a=(σ t).a\/(σ' t).a.refs=none)
theorem uU.refl:uU σ σ:=fun _=>⟨zt _,.inl rfl⟩
theorem uU.trans{σ'':Env}(h:uU σ σ')(h':uU σ' σ''):uU σ σ'':=fun t=>⟨qJ (h t).1 (h' t).1,by
 rcases (h' t).2 with e|e
 ·rcases (h t).2 with e'|e'
  ·exact .inl (e.trans e')
  ·exact .inr (by rw[e];exact e')
 ·exact .inr e⟩
theorem uU.wf(h:uU σ σ')(hw:Wf σ):Wf σ':=fun t s ver hr=>by
 rcases (h t).2 with e|e
 ·rw[e]at hr;exact qJ (hw t s ver hr) (h s).1
 ·rw[e]at hr;cases hr
theorem uU.drp{d:Nat}:uU σ (σ.drp d):=fun t=>by
 simp only[Env.drp];split
 ·rename_i h;subst h;exact⟨zgv _,.inr rfl⟩
 ·exact⟨zt _,.inl rfl⟩
theorem uU.mod{d:Nat}{x:V}:uU σ (σ.mod d x):=fun t=>by
 simp only[Env.mod];split
 ·rename_i h;subst h;exact⟨zt _,.inr rfl⟩
 ·exact⟨zt _,.inl rfl⟩
theorem uU.bmp{d:Nat}{x:V}:uU σ (σ.bmp d x):=fun t=>by
 simp only[Env.bmp];split
 ·rename_i h;subst h;exact⟨zgv _,.inr rfl⟩
 ·exact⟨zt _,.inl rfl⟩
theorem uU.putVal{d:Nat}{g:Bool}{x:V}:uU σ (σ.put d g (.val x)):=fun t=>by
 simp only[Env.put];split
 ·rename_i h;subst h;exact⟨zgv _,.inr rfl⟩
 ·exact⟨zt _,.inl rfl⟩
mutual
theorem zmm{s ver:Nat}:∀(x:V) (p:List Nat) (σ σ':Env) (q:Prop) (y:V),qw s ver x p σ=some (q,y,σ')->uU σ σ'
 | .agg fs,p,σ,σ',q,y,h=>by
   simp only[qw]at h;split at h
   ·rename_i q1 vs σ1 h1;simp only[za,zb]at h;obtain⟨_,_,rfl⟩:=h;exact zku fs p 0 σ _ _ _ h1
   ·cases h
 | .slc true e d es,p,σ,σ',q,y,h=>by
   simp only[qw]at h;split at h
   ·simp only[za,zb]at h;obtain⟨_,_,rfl⟩:=h;exact .mod
   ·cases h
 | .slc false e d es,p,σ,σ',q,y,h=>by
   simp only[qw]at h;split at h
   ·cases h
   ·simp only[za,zb]at h;obtain⟨_,_,rfl⟩:=h;exact .refl
 | .box e c,p,σ,σ',q,y,h=>by
   simp only[qw]at h;split at h
   ·simp only[za,zb]at h;obtain⟨_,_,rfl⟩:=h;exact .mod
   ·cases h
 | .int _ _,p,σ,σ',q,y,h=>by
   simp only[qw]at h;split at h
   ·cases h
   ·simp only[za,zb]at h;obtain⟨_,_,rfl⟩:=h;exact .refl
 | .bool _,p,σ,σ',q,y,h=>by
   simp only[qw]at h;split at h
   ·cases h
   ·simp only[za,zb]at h;obtain⟨_,_,rfl⟩:=h;exact .refl
 | .str _,p,σ,σ',q,y,h=>by
   simp only[qw]at h;split at h
   ·cases h
   ·simp only[za,zb]at h;obtain⟨_,_,rfl⟩:=h;exact .refl
 | .tup _,p,σ,σ',q,y,h=>by
   simp only[qw]at h;split at h
   ·cases h
   ·simp only[za,zb]at h;obtain⟨_,_,rfl⟩:=h;exact .refl
 | .fn _ _,p,σ,σ',q,y,h=>by
   simp only[qw]at h;split at h
   ·cases h
   ·simp only[za,zb]at h;obtain⟨_,_,rfl⟩:=h;exact .refl
 | .hole _,p,σ,σ',q,y,h=>by
   simp only[qw]at h;split at h
   ·cases h
   ·simp only[za,zb]at h;obtain⟨_,_,rfl⟩:=h;exact .refl
theorem zku{s ver:Nat}:∀(fs:List V) (p:List Nat) (i:Nat) (σ σ':Env) (q:Prop) (ys:List V),ZB s ver fs p i σ=some (q,ys,σ')->uU σ σ'
 |[],p,i,σ,σ',q,ys,h=>by
  simp only[ZB,za,zb]at h;obtain⟨_,_,rfl⟩:=h;exact .refl
 |x::xs,p,i,σ,σ',q,ys,h=>by
  simp only[ZB]at h;split at h
  ·rename_i q1 v σ1 h1;split at h
   ·rename_i q2 vs σ2 h2;simp only[za,zb]at h;obtain⟨_,_,rfl⟩:=h;exact(zmm x _ σ σ1 _ _ h1).trans (zku xs p _ σ1 _ _ _ h2)
   ·cases h
  ·cases h
end
theorem ZO{A:A}{q:Prop}{x:V}(h:qY σ A=some (q,x,σ')):uU σ σ':=by
 unfold qY at h;split at h
 ·simp only[za,zb]at h;obtain⟨_,_,rfl⟩:=h;exact .refl
 ·split at h
  ·split at h
   ·simp only[za,zb]at h;obtain⟨_,_,rfl⟩:=h;exact .drp
   ·split at h
    ·split at h
     ·simp only[za,zb]at h;obtain⟨_,_,rfl⟩:=h;exact .mod
     ·cases h
    ·simp only[za,zb]at h;obtain⟨_,_,rfl⟩:=h;exact .mod
  ·cases h
 ·exact zmm _ _ _ _ _ _ h
 ·cases h
theorem zcA(hw:Wf σ){o:Oper}{p:Prop}(h:qm C ops σ o=some (p,σ')):Wf σ':=by
 cases hd:o.dst with
 |none=>unfold qm at h;rw[hd]at h;split at h<;>simp_all
 |some d=>
  rw[KN hd]at h;split at h
  ·rename_i hl;split at h
   ·simp only[za,zb]at h;obtain⟨_,rfl⟩:=h;exact hw.put (zp3 hw hl)
   ·cases h
  ·cases h
theorem zq4(hw:Wf σ){o:Oper}{p:Prop}(h:qv C σ o=some (p,σ')):Wf σ':=by
 unfold qv at h;split at h
 ·cases h
 ·split at h
  ·split at h
   ·rename_i gx A h1;split at h
    ·rename_i q y σ1 ht;have g1:=ZO ht;split at h
     ·split at h
      ·split at h
       ·cases h
       ·rename_i s ver hsd;simp only[za,zb]at h;obtain⟨_,rfl⟩:=h;refine Wf.put ((g1.trans .putVal).wf hw) (fun s' ver' hr=>?_);simp only[A.refs,za,zb]at hr;obtain⟨rfl,rfl⟩:=hr;simp[Env.put]
      ·simp only[za,zb]at h;obtain⟨_,rfl⟩:=h;exact(g1.trans .putVal).wf hw
     ·cases h
    ·cases h
   ·cases h
  ·split at h
   ·split at h
    ·rename_i q y σ1 ht;have g1:=ZO ht;split at h
     ·split at h
      ·split at h
       ·simp only[za,zb]at h;obtain⟨_,rfl⟩:=h;split
        ·exact(g1.trans .mod).wf hw
        ·exact(g1.trans .bmp).wf hw
       ·cases h
      ·cases h
     ·split at h
      ·split at h
       ·split at h
        ·simp only[za,zb]at h;obtain⟨_,rfl⟩:=h;split
         ·exact(g1.trans .mod).wf hw
         ·exact(g1.trans .bmp).wf hw
        ·cases h
       ·cases h
      ·cases h
     ·cases h
    ·cases h
   ·cases h
  ·split at h
   ·split at h
    ·split at h
     ·split at h
      ·rename_i q e' dd es σ1 ht;have g1:=ZO ht;split at h
       ·split at h
        ·split at h
         ·split at h
          ·split at h
           ·rename_i q2 e2 d2 es3 σ2 ht2;simp only[za,zb]at h;obtain⟨_,rfl⟩:=h;exact((g1.trans (ZO ht2)).trans .putVal).wf hw
           ·cases h
          ·simp only[za,zb]at h;obtain⟨_,rfl⟩:=h;exact(g1.trans .putVal).wf hw
         ·cases h
        ·cases h
       ·cases h
      ·cases h
     ·cases h
    ·cases h
   ·cases h
  ·cases h
theorem zBb(hw:Wf σ){t:Bool}{o:Oper}{p:Prop}(h:step C ops t σ o=some (p,σ')):Wf σ':=by
 unfold step at h;split at h
 ·split at h
  ·rename_i r hr;simp only[za]at h;subst h;exact zcA hw hr
  ·exact zq4 hw h
 ·split at h
  ·split at h
   ·cases h
   ·exact zcA hw h
  ·cases h
theorem zhF{l:Array Bool}{i:Nat}(h:l.getD i true=false):l.getD i false=false:=by
 simp only[zw]at h ⊢
 cases hh:l[i]? with
 |none=>simp[hh]at h
 |some b=>simp[hh]at h ⊢;exact h
theorem zuo{ts:List Bool}(hk:chk ops ts=true){listed:Array Bool}(hc:zam ops listed){i j:Nat}(hi:i∈Region.ready .any ops listed)(hj:j∈Region.ready .any ops listed)(hne:i≠j):
 ts.getD i true=false/\ts.getD j true=false/\∃x y,ops[i]? =some x/\ops[j]? =some y/\x.apart ops y=true/\y.apart ops x=true:=by
 have key:∀i j,i<j->i∈Region.ready .any ops listed->j∈Region.ready .any ops listed->ts.getD i true=false/\ts.getD j true=false/\∃x y,ops[i]? =some x/\ops[j]? =some y/\x.apart ops y=true/\y.apart ops x=true:=by
  intro i j hij hi hj;obtain⟨hju,oj,hoj,hall⟩:=mem_ready.1 hj;obtain⟨hiu,oi,hoi,_⟩:=mem_ready.1 hi;simp only[chk,zh]at hk;have hjn:j<ops.size:=(yQ.1 hoj).1;rcases zii hk.2 j (by simpa using hjn) i hij with hb|hb
  ·have hw:=zhA (ops:=ops) ops.toList [] (fun j=>by simp) (fun j i h=>by simp at h) j i hb;have:=hw.listed hc (fun o ho=>by rw[hoj]at ho;simp only[za]at ho;subst ho;exact hall);rw[zhF hiu]at this;cases this
  ·exact hb
 rcases Yk hne with h|h
 ·exact key i j h hi hj
 ·obtain⟨h1,h2,x,y,h3,h4,h5,h6⟩:=key j i h hj hi;exact⟨h2,h1,y,x,h4,h3,h6,h5⟩
theorem zmr{o:Oper}{p:Prop}(h:step C ops false σ o=some (p,σ')):∃d,o.dst=some d/\(σ d).owner=false/\qm C ops σ o=some (p,σ'):=by
 unfold step at h;rw[if_neg (by simp)]at h;split at h
 ·rename_i d hd;split at h
  ·cases h
  ·rename_i ho;exact⟨d,hd,by simpa using ho,h⟩
 ·cases h
theorem zkz{o:Oper}{p:Prop}{d:Nat}(hd:o.dst=some d)(ho:(σ d).owner=false)(h:qm C ops σ o=some (p,σ')):step C ops false σ o=some (p,σ'):=by
 unfold step;rw[if_neg (by simp),hd];dsimp only;rw[ho,if_neg (by simp)];exact h
theorem zyg{ts:List Bool}{K:Env->Prop}(hk:chk ops ts=true):∀(l:List Oper) (k:Nat) (tl:List Bool) (σ:Env),(∀j,l[j]? =ops[k+j]?)->(∀j,tl[j]? =ts[k+j]?)->k+l.length=ops.size->ev C ops l tl σ K->Wf σ->
 zhV (St C ops ts) ops K l.length (KF ops.size k) σ
 |[],k,tl,σ,hl,ht,hn,h,hw=>by
  have hK:K σ:=by cases tl<;>exact h
  refine⟨?_,hK⟩
  cases hr:Region.ready .any ops (KF ops.size k)with
  |nil=>rfl
  |cons x xs=>
   have hx:x∈Region.ready .any ops (KF ops.size k):=(by rw[hr];simp);obtain⟨h1,o,ho,_⟩:=mem_ready.1 hx;have hxn:x<ops.size:=(yQ.1 ho).1;rw[zeo,if_pos hxn]at h1;simp at hn h1;omega
 |o::l,k,tl,σ,hl,ht,hn,h,hw=>by
  cases tl with
  |nil=>exact h.elim
  |cons t tl=>
   simp only[ev]at h;split at h
   ·rename_i p σ' hs;have ho:ops[k]? =some o:=by simpa using(hl 0).symm
    have htk:ts.getD k true=t:=by
     have:=(ht 0).symm;simp at this;simp[List.getD_eq_getElem?_getD,this]
    have hkn:k<ops.size:=by simp at hn;omega
    have hr:k∈Region.ready .any ops (KF ops.size k):=by
     refine mem_ready.2 ⟨by rw[zeo,if_pos hkn];simp,o,ho,fun e he hb=>?_⟩;have:=hk;simp only[chk,zh]at this;have:=za1 this.1 k o (by simpa using ho) e he hb;rw[zeo,if_pos (by omega)];simpa using this
    have hcl:zam ops (KF ops.size k):=by
     intro j oj hoj hj e he hb;have hjn:j<ops.size:=(yQ.1 hoj).1;rw[zeo,if_pos hjn]at hj;simp at hj;have:=hk;simp only[chk,zh]at this;have:=za1 this.1 j oj (by simpa using hoj) e he hb;rw[zeo,if_pos (by omega)];simp;omega
    refine zxi (I:=Wf) (i:=k) (fun listed j σ σi σij hc hi hj hne hw ⟨oi,pi,hoi,hsi,hpi⟩ ⟨oj,pj,hoj,hsj,hpj⟩=>?ex) l.length _ σ σ' hcl hw hr ⟨o,p,ho,by rw[htk];exact hs,h.1⟩ ?main
    case ex=>
     obtain⟨t1,t2,x,y,hx,hy,ap1,_⟩:=zuo hk hc hi hj (Ne.symm hne);rw[hoi]at hx;rw[hoj]at hy;simp only[za]at hx hy;subst hx;subst hy;rw[t1]at hsi;rw[t2]at hsj;obtain⟨di,hdi,hoi',hli⟩:=zmr hsi;obtain⟨dj,hdj,hoj',hlj⟩:=zmr hsj;obtain⟨σj,e1,e2,e3,e4,e5⟩:=zmZ ap1 hdi hdj hw hoi' hli hoj' hlj;exact⟨σj,⟨oj,pj,hoj,by rw[t2];exact zkz hdj e3 e1,hpj⟩,⟨oi,pi,hoi,by rw[t1];exact zkz hdi e4 e2,hpi⟩,e5⟩
    case main=>
     rw[zyX hkn];exact zyg hk l (k+1) tl σ' (fun j=>by have:=hl (j+1);simpa [Qy,Yl 1 j]using this) (fun j=>by have:=ht (j+1);simpa [Qy,Yl 1 j]using this) (by simp at hn;omega) h.2 (zBb hw hs)
   ·exact h.elim
theorem zxq(n:Nat):KF n 0=Array.replicate n false:=by
 apply Array.ext';simp[KF]
 induction n with
 |zero=>rfl
 |succ n ih=>rw[List.range_succ,List.map_append,ih,List.replicate_succ'];rfl
theorem zwn(hC:Ya C)(hm:C.P.follows .mixedOrders=true){id:Nat}{ts:List Bool}{K:Env->Prop}{Q:Exit->Act->World->Prop}(hk:chk ops ts=true)(hG:G C σ a w)(h:ev C ops ops.toList ts σ K)
 (hK:∀σ a w,K σ->G C σ a w->Q .normal a w):(Code.region id ops true).wp C.P Q a w:=by
 refine wp_region_any hm ?_;have hw:Wf σ:=by obtain⟨F,O,hI⟩:=hG;exact hI.wf
 have:=zyg (C:=C) hk ops.toList 0 ts σ (fun j=>by simp) (fun j=>by simp) (by simp) h hw;rw[zxq]at this;exact znB hC hK _ _ σ a _ (by simpa using this) hG.drew
end
end Go.Ax
namespace Go.Ax
open Go.RowKit
def zc6(C:Ctx)(ops:Array Oper)(σ:Env)(o:Oper)(r:Prop×Env):Prop:=
 qm C ops σ o=some r\/qv C σ o=some r\/Yn C σ o=some r\/znt C σ o=some r\/zbX C σ o=some r\/zqO C σ o=some r\/zdW C σ o=some r
def zcW(C:Ctx)(ops:Array Oper)(σ:Env)(o:Oper):Option (Prop×Env):=match o.dst with
 |some d=>match qm C ops σ o with
  |some (p,σ1)=>match σ1.own d (σ1 d).ver with
   |some y=>some (p/\C.st=false,(σ1.drp d).put d true (.val y.frz))
   |none=>none
  |none=>none
 |none=>none
def Gh(σ σ':Env):Prop:=σ'=σ\/∃s ver e d d' es,σ.own s ver=some (.slc true e d es)/\(d'.isBox=true->es≠[])/\σ'=(σ.drp s).put s true (.val (.slc true e d' es))
def Yy(σ:Env):List Nat->Env
 |[]=>σ
 |t::l=>match σ.own t (σ t).ver with
  |some y=>Yy ((σ.drp t).put t true (.val y.frz)) l
  |none=>Yy σ l
def FzR(C:Ctx)(σ σ0:Env):Prop:=∃l,(l=[]\/C.st=false)/\σ0=Yy σ l
theorem FzR.refl{C:Ctx}{σ:Env}:FzR C σ σ:=⟨[],.inl rfl,rfl⟩
def zm7(C:Ctx)(ops:Array Oper)(σ:Env)(o:Oper):Option (Prop×Env):=match gd ops σ o with
 |some true=>Yn C σ {o with guard:=none}
 |_=>none
def evO(C:Ctx)(ops:Array Oper):List Oper->Env->(Env->Prop)->Prop
 |o::l,σ,K=>(∃σ0 p σ1 σ',FzR C σ σ0/\(zc6 C ops σ0 o (p,σ1)\/zcW C ops σ0 o=some (p,σ1)\/zfW C σ0 o=some (p,σ1)\/zjN C σ0 o=some (p,σ1))/\p/\Gh σ1 σ'/\evO C ops l σ' K)\/
   (∃p σ',zm7 C ops σ o=some (p,σ')/\p/\evO C ops l σ' K)\/
   (∃d q es xx ng,ziQ C σ o=some (d,q,es,xx,ng)/\q/\∀b:Bool,(es≠[]->b=false)->(xx=true->es=[]->b=true)->evO C ops l (σ.put d true (.val (.bool (b !=ng)))) K)\/
   (∃p σ',zmF C σ o=some (p,σ')/\p/\evO C ops l σ' K)\/
   (match l with
    |o2::l2=>∃p σ',zji C σ o o2=some (p,σ')/\p/\evO C ops l2 σ' K
    |[]=>False)
 |[],σ,K=>K σ
section
variable {C:Ctx}{F:Nat->Prop}{O:Nat->Nat->Prop}{Z:Nat->Prop}{σ σ':Env}{a:Act}{w w':World}{ops:Array Oper}
theorem zug(hC:Ya C)(hIO:IOk C){o:Oper}{i:Nat}(hi:ops[i]? =some o){p:Prop}(h:zc6 C ops σ o (p,σ'))(hp:p){Q:Exit->Act->World->Prop}(hG:G C σ a w):wpOp C.P ops Q i (G C σ') a w:=by
 obtain⟨F,O,hI⟩:=hG
 have fin:o.guard=none/\o.wp C.P a w (G C σ') Q->wpOp C.P ops Q i (G C σ') a w:=by
  rintro⟨hg,hw⟩;unfold wpOp;rw[hi];dsimp only;rw[show Region.wanted o (yielded ops a.tmps)=true from by unfold Region.wanted;rw[hg]];exact .inl hw
 rcases h with h|h|h|h|h|h|h
 ·exact YH hC hI hi h hp
 ·exact zgg hI hi h hp
 ·exact fin (zgq hIO hI h hp)
 ·exact fin (zuD hI h hp)
 ·exact fin (zkJ hI h hp)
 ·exact fin (zuA hI h hp)
 ·exact fin (zks hIO hI h hp)
theorem zuc(hC:Ya C){o:Oper}{i:Nat}(hi:ops[i]? =some o){p:Prop}(h:zcW C ops σ o=some (p,σ'))(hp:p){Q:Exit->Act->World->Prop}(hG:G C σ a w):wpOp C.P ops Q i (G C σ') a w:=by
 obtain⟨F,O,hI⟩:=hG;unfold zcW at h;split at h
 ·split at h
  ·rename_i hl;split at h
   ·rename_i hy;simp only[za,zb]at h;obtain⟨rfl,rfl⟩:=h;refine wpOp_mono (fun a' w' hG'=>?_) (YH hC hI hi hl hp.1);obtain⟨F',O',hI'⟩:=hG';exact hI'.frzG hp.2 hy
   ·cases h
  ·cases h
 ·cases h
theorem zzM{o:Oper}{i:Nat}(hi:ops[i]? =some o){p:Prop}(h:zfW C σ o=some (p,σ'))(hp:p){Q:Exit->Act->World->Prop}(hG:G C σ a w):wpOp C.P ops Q i (G C σ') a w:=by
 obtain⟨F,O,hI⟩:=hG;obtain⟨hg,hw⟩:=zux hI h hp (Q:=Q);unfold wpOp;rw[hi];dsimp only;rw[show Region.wanted o (yielded ops a.tmps)=true from by unfold Region.wanted;rw[hg]];exact .inl hw
theorem zzA{o:Oper}{i:Nat}(hi:ops[i]? =some o){p:Prop}(h:zjN C σ o=some (p,σ')){Q:Exit->Act->World->Prop}(hG:G C σ a w):wpOp C.P ops Q i (G C σ') a w:=by
 obtain⟨F,O,hI⟩:=hG;obtain⟨hg,hw⟩:=zut hI h (Q:=Q);unfold wpOp;rw[hi];dsimp only;rw[show Region.wanted o (yielded ops a.tmps)=true from by unfold Region.wanted;rw[hg]];exact .inl hw
theorem Gh.g{a:Act}{w:World}(h:Gh σ σ')(hG:G C σ a w):G C σ' a w:=by
 rcases h with rfl|⟨s,ver,e,d,d',es,h1,h2,rfl⟩
 ·exact hG
 ·obtain⟨F,O,hI⟩:=hG;obtain⟨F',O',hI'⟩:=hI.ghost h1 h2;exact⟨F',O',hI'⟩
theorem zsq(hst:C.st=false):∀(l:List Nat) {σ:Env} {a:Act} {w:World},G C σ a w->G C (Yy σ l) a w
 |[],_,_,_,h=>h
 |t::l,σ,a,w,h=>by
  simp only[Yy];split
  ·rename_i y hy;obtain⟨F,O,hI⟩:=h;exact zsq hst l (hI.frzG hst hy)
  ·exact zsq hst l h
theorem FzR.g{σ0:Env}{a:Act}{w:World}(h:FzR C σ σ0)(hG:G C σ a w):G C σ0 a w:=by
 obtain⟨l,h1|h1,rfl⟩:=h
 ·subst h1;exact hG
 ·exact zsq h1 l hG
theorem zsl(hIO:IOk C){o:Oper}{i:Nat}(hi:ops[i]? =some o){p:Prop}(h:zm7 C ops σ o=some (p,σ'))(hp:p){Q:Exit->Act->World->Prop}(hG:G C σ a w):wpOp C.P ops Q i (G C σ') a w:=by
 obtain⟨F,O,hI⟩:=hG;unfold zm7 at h;split at h
 ·rename_i hg;obtain⟨_,hw⟩:=zgq hIO hI h hp (Q:=Q);unfold wpOp;rw[hi];dsimp only;rw[zlB hI hg];exact .inl hw
 ·cases h
theorem zej(hC:Ya C)(hIO:IOk C){K:Env->Prop}{Q:Exit->Act->World->Prop}(hK:∀σ a w,K σ->G C σ a w->Q .normal a w):∀(l:List Oper) (k:Nat) (σ:Env) (a:Act) (w:World),(∀j,l[j]? =ops[k+j]?)->evO C ops l σ K->G C σ a w->
 wpOps C.P ops Q ((List.range l.length).map (k+ ·)) a w
 |[],k,σ,a,w,_,h,hG=>hK σ a w h hG
 |o::l,k,σ,a,w,hl,h,hG=>by
  have hi:ops[k]? =some o:=by simpa using(hl 0).symm
  have e:(List.range (o::l).length).map (k+ ·)=k::(List.range l.length).map (k+1+ ·):=by
   rw[List.length_cons,ZY];simp only[yX,List.map_map,Nat.add_zero,kf,true_and];apply ky;intro j _;simp only[Function.comp];omega
  have hl':∀j,l[j]? =ops[k+1+j]? :=fun j=>by have:=hl (j+1);simpa [Qy,Yl 1 j]using this
  rw[e,wpOps_cons];unfold evO at h;rcases h with⟨σ0,p,σ1,σ',hfz,hs,hpp,hgh,hk⟩|⟨p,σ',hs,hpp,hk⟩|⟨d,q,es,xx,ng,hn,hq,hk⟩|⟨p,σ',hs,hpp,hk⟩|hs2
  ·have hG:=hfz.g hG;exact wpOp_mono (fun a' w' hG'=>zej hC hIO hK l (k+1) σ' a' w' hl' hk (hgh.g hG')) (hs.elim (fun hs=>zug hC hIO hi hs hpp hG) (fun hs=>hs.elim (fun hs=>zuc hC hi hs hpp hG) (fun hs=>hs.elim (fun hs=>zzM hi hs hpp hG) (fun hs=>zzA hi hs hG))))
  ·exact wpOp_mono (fun a' w' hG'=>zej hC hIO hK l (k+1) σ' a' w' hl' hk hG') (zsl hIO hi hs hpp hG)
  ·obtain⟨F,O,hI⟩:=hG;obtain⟨hg,hw⟩:=zrR hI hn hq (Q:=Q)
   have:wpOp C.P ops Q k (fun a' w'=>∃b:Bool,(es≠[]->b=false)/\(xx=true->es=[]->b=true)/\G C (σ.put d true (.val (.bool (b !=ng)))) a' w') a w:=by
    unfold wpOp;rw[hi];dsimp only;rw[show Region.wanted o (yielded ops a.tmps)=true from by unfold Region.wanted;rw[hg]];exact .inl hw
   exact wpOp_mono (fun a' w' ⟨b,hb,hx,hG'⟩=>zej hC hIO hK l (k+1) _ a' w' hl' (hk b hb hx) hG') this
  ·obtain⟨F,O,hI⟩:=hG;obtain⟨hg,hw⟩:=zul hI hs hpp (Q:=Q)
   have:wpOp C.P ops Q k (G C σ') a w:=by
    unfold wpOp;rw[hi];dsimp only;rw[show Region.wanted o (yielded ops a.tmps)=true from by unfold Region.wanted;rw[hg]];exact .inl hw
   exact wpOp_mono (fun a' w' hG'=>zej hC hIO hK l (k+1) σ' a' w' hl' hk hG') this
  ·cases l with
   |nil=>exact hs2.elim
   |cons o2 l2=>
    obtain⟨p,σ',hs,hpp,hk⟩:=hs2;obtain⟨F,O,hI⟩:=hG;have hi2:ops[k+1]? =some o2:=by simpa using(hl' 0).symm
    have e2:(List.range (o2::l2).length).map (k+1+ ·)=(k+1)::(List.range l2.length).map (k+1+1+ ·):=by
     rw[List.length_cons,ZY];simp only[yX,List.map_map,Nat.add_zero,kf,true_and];apply ky;intro j _;simp only[Function.comp];omega
    have hl2:∀j,l2[j]? =ops[k+1+1+j]? :=fun j=>by
     have:=hl' (j+1);rw[show k+1+(j+1)=k+1+1+j by omega]at this;simpa using this
    rw[e2];refine wpOp_mono (fun a' w' h=>?_) (ztm hI hs hpp hi hi2 (Q:=Q));rw[wpOps_cons];exact wpOp_mono (fun a'' w'' hG'=>zej hC hIO hK l2 (k+1+1) σ' a'' w'' hl2 hk hG') h
theorem zum(hC:Ya C)(hIO:IOk C){id:Nat}{K:Env->Prop}{Q:Exit->Act->World->Prop}(hG:G C σ a w)(h:evO C ops ops.toList σ K)
 (hK:∀σ a w,K σ->G C σ a w->Q .normal a w):(Code.region id ops false).wp C.P Q a w:=by
 refine wp_region ?_;have:=zej hC hIO (Q:=Q) hK ops.toList 0 σ a w (fun j=>by simp) h hG;simpa using this
end
end Go.Ax
namespace Go.Ax
open Go.RowKit
def JV(PS:List Nat)(σ:Env):Operand->Bool
 | .tmp t=>match (σ t).a with
   | .val x=> !x.owned||PS.contains t
   |_=>false
 |_=>true
def zgy(PS:List Nat)(σ:Env)(l:List Operand):Bool:=l.all (JV PS σ)
def zd3(σ:Env):Operand->Bool
 | .tmp t=>match (σ t).a with
   | .val x=> !x.owned
   |_=>false
 |_=>true
def zct(σ:Env):List Operand->Bool
 |[_,y]=>zd3 σ y
 |_=>false
def zdi(C:Ctx)(σ:Env):List Operand->List TypeId->Bool
 |[x,.tmp u],[t,_]=>(match (σ u).a with
  | .val z=>z.owned
  |_=>false)&&(match x with
  | .tmp v=>v !=u
  |_=>false)&&(match ku C.P t with
  |some e=>zaY C.P e
  |none=>false)
 |_,_=>false
def ZP(C:Ctx)(PS:List Nat)(σ:Env)(o:Oper):Option (Prop×Env):=
 if zgy PS σ o.op.operands.toList then
  match o.guard,o.op,o.dst with
  |none,.assign x,some d=>match opd C.P σ o.type x with
   |some (gx,A)=>match qY σ A with
    |some (q,y,σ1)=>if C.dst d&& !y.isHole then some (gx=true/\q,σ1.put d true (.val y))else none
    |none=>none
   |none=>none
  |none,.call ⟨.builtin .append,args,ats⟩,some _=>if zct σ args.toList||zdi C σ args.toList ats.toList then qv C σ o else none
  |_,_,_=>zbX C σ o
 else none
section
variable {C:Ctx}{F:Nat->Prop}{O:Nat->Nat->Prop}{Z:Nat->Prop}{σ σ' σ'':Env}{a:Act}{w w':World}{ops:Array Oper}{PS:List Nat}
theorem zus(hI:Inv C F O (fun _=>False) σ a w){o:Oper}{p:Prop}(h:ZP C PS σ o=some (p,σ'))(hp:p){Q:Exit->Act->World->Prop}:o.guard=none/\o.wp C.P a w (G C σ') Q:=by
 unfold ZP at h;split at h
 ·split at h
  ·rename_i x d hg hop hd;refine⟨hg,?_⟩;split at h
   ·rename_i gx A hA;split at h
    ·rename_i q y σ1 ht;split at h
     ·rename_i hc;simp only[zh,decide_eq_true_eq]at hc;have hdl:d<a.tmps.size:=(by rw[hI.ts];exact hc.1.2);simp only[za,zb]at h;obtain⟨rfl,rfl⟩:=h;obtain⟨cs,On,e1,e2⟩:=uW hI (zT hI hA hp.1).1 ht hp.2;obtain⟨O1,hI1⟩:=e2.inv;have run:(execOp a.eval o).run C.P w=.ok (.value (a.eval x)) w:=(by simp[execOp,hop]);unfold Oper.wp;rw[run,Oper.upon_value,hd];exact⟨F,_,(hI1.putVal hdl (.inl hc.1.1) (g:=true) (fun _=>⟨e1,e2.rep⟩) (fun b hb=>.inr hb) (by simp)).lessZ (fun _ h=>h.elim)⟩
     ·cases h
    ·cases h
   ·cases h
  ·rename_i args ats d hg hop hd;split at h
   ·exact⟨hg,ziv hI hg hop hd h hp⟩
   ·cases h
  ·exact zkJ hI h hp
 ·cases h
def Ks(e e':E):Prop:=e'.a.refs=none/\e.ver<=e'.ver/\(∀x,e'.a=.val x->x.owned=false)
theorem zbF{x:Operand}{ty:TypeId}{gx:Bool}{A:A}{q:Prop}{y:V}{σ1:Env}(hw:JV PS σ x=true)(h1:opd C.P σ ty x=some (gx,A))(h2:qY σ A=some (q,y,σ1)):
 (∀t,σ1 t=σ t\/(x=.tmp t/\t∈PS/\Ks (σ t) (σ1 t)))/\∀σ2:Env,(∀t,x=.tmp t->σ2 t=σ t)->opd C.P σ2 ty x=some (gx,A)/\∃σ3,qY σ2 A=some (q,y,σ3)/\(∀t,x=.tmp t->σ3 t=σ1 t)/\(∀t,x≠.tmp t->σ3 t=σ2 t):=by
 have val:∀{v:V},A=.val v->(∀t,σ1 t=σ t)/\∀σ2:Env,qY σ2 A=some (q,y,σ2):=by
  rintro v rfl;simp only[qY,za,zb]at h2;obtain⟨rfl,rfl,rfl⟩:=h2;exact⟨fun _=>rfl,fun σ2=>rfl⟩
 cases x with
 |tmp t=>
  simp only[opd]at h1
  cases ha:(σ t).a with
  |val v=>
   simp only[ha]at h1;split at h1
   ·rename_i ho;simp only[za,zb]at h1;obtain⟨rfl,rfl⟩:=h1;have hm:t∈PS:=(by simpa [JV,ha,ho]using hw);simp only[qY]at h2;split at h2
    ·rename_i r hr;simp only[za,zb]at h2;obtain⟨rfl,rfl,rfl⟩:=h2;refine⟨fun s=>?_,fun σ2 hs=>?_⟩
     ·by_cases hst:s=t
      ·subst hst;refine .inr ⟨rfl,hm,?_⟩;simp[Env.drp,Ks,A.refs,V.owned]
      ·left;simp[Env.drp,hst]
     ·have ht:=hs t rfl;refine⟨by simp only[opd,ht,ha,ho,if_true],σ2.drp t,?_,fun s hs'=>?_,fun s hs'=>?_⟩
      ·have:σ2.own t (σ t).ver=some r:=by
        unfold Env.own at hr ⊢;rw[ht];exact hr
       simp only[qY,this]
      ·simp only[Operand.tmp.injEq]at hs';subst hs';simp[Env.drp,ht]
      ·have:s≠t:=fun e=>hs' (by rw[e]);simp[Env.drp,this]
    ·cases h2
   ·rename_i ho;simp only[za,zb]at h1;obtain⟨rfl,rfl⟩:=h1;obtain⟨v1,v2⟩:=val rfl;refine⟨fun s=>.inl (v1 s),fun σ2 hs=>⟨?_,σ2,v2 σ2,fun s hs'=>by rw[hs s hs',v1],fun _ _=>rfl⟩⟩;have ht:=hs t rfl;simp only[opd,ht,ha];rw[if_neg ho]
  |_=>simp[JV,ha]at hw
 |const v=>
  simp only[opd,zJ,zb]at h1;obtain⟨z,h3,rfl,rfl⟩:=h1;obtain⟨v1,v2⟩:=val rfl;exact⟨fun s=>.inl (v1 s),fun σ2 hs=>⟨by simp[opd,h3],σ2,v2 σ2,fun s hs'=>(by cases hs'),fun _ _=>rfl⟩⟩
 |func f=>
  simp only[opd,za,zb]at h1;obtain⟨rfl,rfl⟩:=h1;obtain⟨v1,v2⟩:=val rfl;exact⟨fun s=>.inl (v1 s),fun σ2 hs=>⟨rfl,σ2,v2 σ2,fun s hs'=>(by cases hs'),fun _ _=>rfl⟩⟩
 |global g=>simp[opd]at h1
theorem Ks.refl_of{e e' e'':E}(h:Ks e e')(h':e''=e'\/Ks e' e''):Ks e e'':=by
 rcases h' with rfl|h'
 ·exact h
 ·exact⟨h'.1,qJ h.2.1 h'.2.1,h'.2.2⟩
theorem zyW{x:Operand}{σ1:Env}(hw:JV PS σ x=true)(h:∀t,σ1 t=σ t\/(t∈PS/\Ks (σ t) (σ1 t)/\∃z,(σ1 t).a=.val z)):JV PS σ1 x=true:=by
 cases x with
 |tmp t=>
  rcases h t with h|⟨h1,h2,z,h3⟩
  ·simpa [JV,h]using hw
  ·simp[JV,h3,h2.2.2 z h3]
 |_=>rfl
theorem zz0{x:Operand}{ty:TypeId}{gx:Bool}{A:A}{q:Prop}{y:V}{σ1:Env}(hw:JV PS σ x=true)(h1:opd C.P σ ty x=some (gx,A))(h2:qY σ A=some (q,y,σ1)):∀t,σ1 t=σ t\/(t∈PS/\Ks (σ t) (σ1 t)/\∃z,(σ1 t).a=.val z):=by
 intro t;rcases (zbF hw h1 h2).1 t with h|⟨h3,h4,h5⟩
 ·exact .inl h
 ·refine .inr ⟨h4,h5,?_⟩;subst h3;simp only[opd]at h1
  cases ha:(σ t).a with
  |val v=>
   simp only[ha]at h1;split at h1
   ·simp only[za,zb]at h1;obtain⟨rfl,rfl⟩:=h1;simp only[qY]at h2;split at h2
    ·simp only[za,zb]at h2;obtain⟨rfl,rfl,rfl⟩:=h2;exact⟨.hole 0,by simp[Env.drp]⟩
    ·cases h2
   ·simp only[za,zb]at h1;obtain⟨rfl,rfl⟩:=h1;simp only[qY,za,zb]at h2;obtain⟨rfl,rfl,rfl⟩:=h2;exact⟨v,ha⟩
  |_=>simp[JV,ha]at hw
theorem zeq{ty:Nat->TypeId}:∀(l:List (Nat×Operand)) (σ σ':Env) (p:Prop) (vs:List (Nat×V)),(∀e∈l,JV PS σ e.2=true)->JD C ty σ l=some (p,vs,σ')->
 (∀t,σ' t=σ t\/(Operand.tmp t∈l.map (·.2)/\t∈PS/\Ks (σ t) (σ' t)))/\
 ∀σ2:Env,(∀t,Operand.tmp t∈l.map (·.2)->σ2 t=σ t)->∃σ3,JD C ty σ2 l=some (p,vs,σ3)/\(∀t,Operand.tmp t∈l.map (·.2)->σ3 t=σ' t)/\(∀t,Operand.tmp t∉l.map (·.2)->σ3 t=σ2 t)
 |[],σ,σ',p,vs,_,h=>by
  simp only[JD,za,zb]at h;obtain⟨rfl,rfl,rfl⟩:=h;exact⟨fun _=>.inl rfl,fun σ2 _=>⟨σ2,rfl,fun t h=>by simp at h,fun _ _=>rfl⟩⟩
 |(i,x)::xs,σ,σ',p,vs,hw,h=>by
  simp only[JD]at h;split at h
  ·rename_i gx A hA;split at h
   ·rename_i q y σ1 ht;split at h
    ·cases h
    rename_i hnh;split at h
    ·rename_i p' vs' σ2 hr;simp only[za,zb]at h;obtain⟨rfl,rfl,rfl⟩:=h;have hwx:=hw (i,x) (by simp);obtain⟨a1,a2⟩:=zbF hwx hA ht;have hdv:=zz0 hwx hA ht;dsimp only at a1 a2;obtain⟨b1,b2⟩:=zeq xs σ1 _ _ _ (fun e he=>zyW (hw e (by simp[he])) hdv) hr;refine⟨fun t=>?_,fun σb hb=>?_⟩
     ·rcases a1 t with h1|⟨h1,h2,h3⟩
      ·rcases b1 t with h4|⟨h4,h5,h6⟩
       ·exact .inl (h4.trans h1)
       ·exact .inr ⟨by simp at h4 ⊢;exact .inr h4,h5,by rw[<-h1];exact h6⟩
      ·refine .inr ⟨by rw[h1];simp,h2,h3.refl_of ?_⟩;rcases b1 t with h4|⟨h4,h5,h6⟩
       ·exact .inl h4
       ·exact .inr h6
     ·obtain⟨c1,σ3,c2,c3,c4⟩:=a2 σb (fun t ht=>hb t (by rw[ht];simp))
      obtain⟨σ4,d1,d2,d3⟩:=b2 σ3 (fun t ht=>by
       by_cases hxt:x=.tmp t
       ·exact c3 t hxt
       ·rw[c4 t hxt,hb t (by simp at ht ⊢;exact .inr ht)];rcases a1 t with h1|⟨h1,_⟩
        ·exact h1.symm
        ·exact absurd h1 hxt)
      refine⟨σ4,?_,fun t ht=>?_,fun t ht=>?_⟩
      ·simp only[JD,c1,c2,d1];rw[if_neg hnh]
      ·by_cases htx:Operand.tmp t∈xs.map (·.2)
       ·exact d2 t htx
       ·have hxt:x=.tmp t:=by
         simp only[yX,zC]at ht;rcases ht with ht|ht
         ·exact ht.symm
         ·exact absurd ht htx
        rw[d3 t htx,c3 t hxt];rcases b1 t with h4|⟨h4,_⟩
        ·exact h4.symm
        ·exact absurd h4 htx
      ·simp only[yX,zC,not_or]at ht;rw[d3 t ht.2,c4 t (fun e=>ht.1 e.symm)]
    ·cases h
   ·cases h
  ·cases h
structure Foot (C:Ctx) (PS:List Nat) (σ:Env) (o:Oper) (p:Prop) (σ':Env) (d:Nat) (v:V) (τ:Env):Prop where
 dst:o.dst=some d
 eq:σ'=τ.put d true (.val v)
 off:∀t,τ t=σ t\/(Operand.tmp t∈o.op.operands/\t∈PS/\Ks (σ t) (τ t))
 same:∀σ2:Env,(∀t,Operand.tmp t∈o.op.operands->σ2 t=σ t)->∃τ2:Env,ZP C PS σ2 o=some (p,τ2.put d true (.val v))/\(∀t,Operand.tmp t∈o.op.operands->τ2 t=τ t)/\(∀t,Operand.tmp t∉o.op.operands->τ2 t=σ2 t)
theorem zaK{l:List Operand}{σ2:Env}(h:∀t,Operand.tmp t∈l->σ2 t=σ t):zgy PS σ2 l=zgy PS σ l:=by
 unfold zgy
 induction l with
 |nil=>rfl
 |cons x l ih=>
  simp only[List.all_cons];rw[ih (fun t ht=>h t (zx _ ht))];congr 1
  cases x with
  |tmp t=>simp only[JV,h t (by simp)]
  |_=>rfl
theorem zpU{P:Program}{ty:TypeId}{y:Operand}{gy:Bool}{Ay:A}(h:zd3 σ y=true)(ho:opd P σ ty y=some (gy,Ay)):
 (∃v,Ay=.val v)/\∀τ:Env,(∀t,y=.tmp t->τ t=σ t)->opd P τ ty y=some (gy,Ay):=by
 cases y with
 |tmp t=>
  simp only[zd3]at h;have hs:∀τ:Env,τ t=σ t->opd P τ ty (.tmp t)=opd P σ ty (.tmp t):=fun τ hτ=>by simp only[opd,hτ]
  refine⟨?_,fun τ hτ=>by rw[hs τ (hτ t rfl)];exact ho⟩
  cases ha:(σ t).a with
  |val z=>
   rw[ha]at h;simp only[yD]at h;simp only[opd,ha]at ho;rw[if_neg (by rw[h];simp)]at ho;simp only[za,zb]at ho;exact⟨z,ho.2.symm⟩
  |_=>rw[ha]at h;cases h
 |const v=>
  have ho':=ho;simp only[opd,zJ,zb]at ho;obtain⟨z,_,_,rfl⟩:=ho;exact⟨⟨z,rfl⟩,fun τ _=>ho'⟩
 |func f=>
  have ho':=ho;simp only[opd,za,zb]at ho;exact⟨⟨_,ho.2.symm⟩,fun τ _=>ho'⟩
 |global g=>simp[opd]at ho
theorem zv5{x:Operand}{ty:TypeId}{gx:Bool}{Ax:A}{q:Prop}{v:V}{σ1:Env}{u:Nat}(h:zd3 σ (.tmp u)=true)(ho:opd C.P σ ty x=some (gx,Ax))(ht:qY σ Ax=some (q,v,σ1))(hx:x=.tmp u):σ1 u=σ u:=by
 subst hx;obtain⟨⟨z,rfl⟩,_⟩:=zpU h ho;simp only[qY,za,zb]at ht;rw[ht.2.2]
theorem zar{o:Oper}{p:Prop}(h:ZP C PS σ o=some (p,σ')):∃d v τ,Foot C PS σ o p σ' d v τ:=by
 have h0:=h;unfold ZP at h;split at h
 ·rename_i hw;have hw':∀x∈o.op.operands.toList,JV PS σ x=true:=yd.1 hw;split at h
  ·rename_i x d hg hop hd;have hops:o.op.operands= #[x]:=(by simp[hop,Op.operands]);split at h
   ·rename_i gx A hA;split at h
    ·rename_i q y σ1 ht;split at h
     ·rename_i hc;simp only[za,zb]at h;obtain⟨rfl,rfl⟩:=h;obtain⟨a1,a2⟩:=zbF (hw' x (by simp[hops])) hA ht;refine⟨d,y,σ1,hd,rfl,fun t=>?_,fun σ2 hs=>?_⟩
      ·rcases a1 t with h1|⟨h1,h2,h3⟩
       ·exact .inl h1
       ·exact .inr ⟨by simp[hops,h1],h2,h3⟩
      ·obtain⟨c1,σ3,c2,c3,c4⟩:=a2 σ2 (fun t ht=>hs t (by simp[hops,ht]));refine⟨σ3,?_,fun t ht=>c3 t (by rw[hops]at ht;simp at ht;exact ht.symm),fun t ht=>c4 t (fun e=>ht (by simp[hops,e]))⟩;unfold ZP;rw[zaK (fun t ht=>hs t (by simpa using ht)),hw,if_pos rfl];simp only[hg,hop,hd,c1,c2];rw[if_pos hc]
     ·cases h
    ·cases h
   ·cases h
  ·rename_i args ats d hg hop hd;split at h
   ·rename_i hpo;by_cases hpl:zct σ args.toList=true
    ·clear hpo;simp only[qv,hg,hop,hd]at h;split at h
     ·rename_i x y t t' hargs hats;have hops:o.op.operands.toList=[x,y]:=by rw[hop];simpa [Op.operands,Call.operands]using hargs
      have hmem:∀z,z∈o.op.operands↔z=x\/z=y:=fun z=>by
       have:z∈o.op.operands↔z∈o.op.operands.toList:=(by simp);rw[this,hops];simp
      split at h
      ·rename_i htt;split at h
       ·rename_i e gx Ax he hA;split at h
        ·rename_i q e' dd es σ1 ht;split at h
         ·rename_i gy Ay hAy;split at h
          ·rename_i z oy ey d2 es2 hz hlk;split at h
           ·rename_i hc;obtain⟨a1,a2⟩:=zbF (hw' x (by rw[hops];simp)) hA ht;have hpy:zd3 σ y=true:=by rw[hargs]at hpl;exact hpl
            have hy1:∀u,y=.tmp u->σ1 u=σ u:=fun u hu=>by
             by_cases hxu:x=.tmp u
             ·exact zv5 (by rw[<-hu];exact hpy) hA ht hxu
             ·rcases a1 u with h1|⟨h1,_⟩
              ·exact h1
              ·exact absurd h1 hxu
            have hpy1:zd3 σ1 y=true:=by
             cases y with
             |tmp u=>simp only[zd3,hy1 u rfl]at hpy ⊢;exact hpy
             |_=>rfl
            obtain⟨⟨vy,rfl⟩,hoy⟩:=zpU hpy1 hAy
            have main:∃vv,σ'=σ1.put d true (.val vv)/\∀τ τ3:Env,opd C.P τ t x=some (gx,Ax)->qY τ Ax=some (q,.slc true e' dd es,τ3)->opd C.P τ3 t y=some (gy,.val vy)->qv C τ o=some (p,τ3.put d true (.val vv)):=by
             simp only[A.look,za]at hlk;subst hlk;by_cases hos:(oy&& !zaY C.P e)=true
             ·rw[if_pos hos]at h;have ho1:oy=true:=(by simp only[zh]at hos;exact hos.1);subst ho1;simp only[qY,za,zb]at h;obtain⟨rfl,rfl⟩:=h;refine⟨_,rfl,fun τ τ3 k1 k2 k3=>?_⟩;simp only[qv,hg,hop,hd,hargs,hats];rw[if_pos htt];simp only[he,k1,k2,k3,hz,A.look];rw[if_pos hc,if_pos hos];rfl
             ·rw[if_neg hos]at h;simp only[za,zb]at h;obtain⟨rfl,rfl⟩:=h;refine⟨_,rfl,fun τ τ3 k1 k2 k3=>?_⟩;simp only[qv,hg,hop,hd,hargs,hats];rw[if_pos htt];simp only[he,k1,k2,k3,hz,A.look];rw[if_pos hc,if_neg hos];rfl
            obtain⟨vv,rfl,hm⟩:=main;refine⟨d,vv,σ1,hd,rfl,fun t=>?_,fun σ2 hs=>?_⟩
            ·rcases a1 t with h1|⟨h1,h2,h3⟩
             ·exact .inl h1
             ·exact .inr ⟨(hmem _).2 (.inl h1.symm),h2,h3⟩
            ·obtain⟨c1,σ3,c2,c3,c4⟩:=a2 σ2 (fun t ht=>hs t ((hmem _).2 (.inl ht.symm)))
             have hy3:∀u,y=.tmp u->σ3 u=σ1 u:=fun u hu=>by
              by_cases hxu:x=.tmp u
              ·exact c3 u hxu
              ·rw[c4 u hxu,hs u ((hmem _).2 (.inr hu.symm)),hy1 u hu]
             refine⟨σ3,?_,fun t ht=>?_,fun t ht=>c4 t (fun e=>ht ((hmem _).2 (.inl e.symm)))⟩
             ·have hpl2:zct σ2 args.toList=true:=by
               rw[hargs]at hpl ⊢
               cases y with
               |tmp u=>simp only[zct,zd3,hs u ((hmem _).2 (.inr rfl))]at hpl ⊢;exact hpl
               |_=>rfl
              unfold ZP;rw[zaK (fun t ht=>hs t (by simpa using ht)),hw,if_pos rfl];simp only[hg,hop,hd];rw[if_pos (by rw[hpl2];rfl)];exact hm σ2 σ3 c1 c2 (hoy σ3 hy3)
             ·by_cases hxt:x=.tmp t
              ·exact c3 t hxt
              ·rcases (hmem _).1 ht with h1|h1
               ·exact absurd h1.symm hxt
               ·exact hy3 t h1.symm
           ·cases h
          ·cases h
         ·cases h
        ·cases h
       ·cases h
      ·cases h
     ·cases h
    ·have hoa:zdi C σ args.toList ats.toList=true:=(by simpa [hpl]using hpo);clear hpo;simp only[qv,hg,hop,hd]at h;split at h
     ·rename_i x y t t' hargs hats;have hops:o.op.operands.toList=[x,y]:=by rw[hop];simpa [Op.operands,Call.operands]using hargs
      have hmem:∀z,z∈o.op.operands↔z=x\/z=y:=fun z=>by
       have:z∈o.op.operands↔z∈o.op.operands.toList:=(by simp);rw[this,hops];simp
      rw[hargs,hats]at hoa;split at h
      ·rename_i htt;split at h
       ·rename_i e gx Ax he hA;split at h
        ·rename_i q e' dd es σ1 ht;split at h
         ·rename_i gy Ay hAy;split at h
          ·rename_i z oy ey d2 es2 hz hlk;split at h
           ·rename_i hc;obtain⟨a1,a2⟩:=zbF (hw' x (by rw[hops];simp)) hA ht
            cases y with
            |tmp u=>
             simp only[zdi,he,zh]at hoa;obtain⟨⟨o1,o2⟩,o3⟩:=hoa
             have hxu:x≠.tmp u:=by
              rintro rfl;simp at o2
             have hs1:σ1 u=σ u:=by
              rcases a1 u with h1|⟨h1,_⟩
              ·exact h1
              ·exact absurd h1 hxu
             have hos:¬(oy&& !zaY C.P e)=true:=(by rw[o3];simp);rw[if_neg hos]at h;simp only[za,zb]at h;obtain⟨rfl,rfl⟩:=h
             have hAe:Ay=.rf u (σ u).ver []/\gy=(σ u).g:=by
              rw[<-hs1]at o1 ⊢
              cases ha:(σ1 u).a with
              |val v=>
               rw[ha]at o1;simp only[opd,ha]at hAy;rw[if_pos o1]at hAy;simp only[za,zb]at hAy;exact⟨hAy.2.symm,hAy.1.symm⟩
              |_=>rw[ha]at o1;cases o1
             obtain⟨rfl,rfl⟩:=hAe
             have keep:∀τ:Env,τ u=σ1 u->opd C.P τ t (.tmp u)=some ((σ u).g,.rf u (σ u).ver [])/\A.look τ (.rf u (σ u).ver [])=A.look σ1 (.rf u (σ u).ver [])/\A.okA τ (.rf u (σ u).ver [])=A.okA σ1 (.rf u (σ u).ver []):=fun τ hτ=>by
              refine⟨?_,by simp only[A.look,Env.own,hτ],by simp only[A.okA,Env.own,hτ]⟩;rw[<-hAy];simp only[opd,hτ]
             refine⟨d,_,σ1,hd,rfl,fun t=>?_,fun σ2 hs=>?_⟩
             ·rcases a1 t with h1|⟨h1,h2,h3⟩
              ·exact .inl h1
              ·exact .inr ⟨(hmem _).2 (.inl h1.symm),h2,h3⟩
             ·obtain⟨c1,σ3,c2,c3,c4⟩:=a2 σ2 (fun t ht=>hs t ((hmem _).2 (.inl ht.symm)));have hy3:σ3 u=σ1 u:=(by rw[c4 u hxu,hs u ((hmem _).2 (.inr rfl)),hs1]);obtain⟨e1,e2,e3⟩:=keep σ3 hy3;refine⟨σ3,?_,fun t ht=>?_,fun t ht=>c4 t (fun e=>ht ((hmem _).2 (.inl e.symm)))⟩
              ·unfold ZP;rw[zaK (fun t ht=>hs t (by simpa using ht)),hw,if_pos rfl];simp only[hg,hop,hd]
               have ho2:zdi C σ2 args.toList ats.toList=true:=by
                rw[hargs,hats];simp only[zdi,he,hs u ((hmem _).2 (.inr rfl)),o1,o2,o3,Bool.and_self]
               rw[if_pos (by rw[ho2,Bool.or_true])];simp only[qv,hg,hop,hd,hargs,hats];rw[if_pos htt];simp only[he,c1,c2,e1,e2,e3,hz,hlk];rw[if_pos hc,if_neg hos]
              ·by_cases hxt:x=.tmp t
               ·exact c3 t hxt
               ·rcases (hmem _).1 ht with h1|h1
                ·exact absurd h1.symm hxt
                ·simp only[Operand.tmp.injEq]at h1;rw[h1];exact hy3
            |_=>simp[zdi]at hoa
           ·cases h
          ·cases h
         ·cases h
        ·cases h
       ·cases h
      ·cases h
     ·cases h
   ·cases h
  ·rename_i hna hnb;have h':=h;unfold zbX at h;split at h
   ·rename_i t parts d hg hop hd;have hops:o.op.operands.toList=parts.toList.map (·.2):=(by simp[hop,Op.operands]);split at h
    ·rename_i zs p' vs σ1 h1 h2;split at h
     ·rename_i fs hf;split at h
      ·rename_i hdd;simp only[za,zb]at h;obtain⟨rfl,rfl⟩:=h;obtain⟨a1,a2⟩:=zeq parts.toList σ _ _ _ (fun e he=>hw' _ (by rw[hops];exact List.mem_map.2 ⟨e,he,rfl⟩)) h2;have hm:∀t,Operand.tmp t∈o.op.operands↔Operand.tmp t∈parts.toList.map (·.2):=fun t=>(by rw[<-hops];simp);refine⟨d,.agg fs,σ1,hd,rfl,fun t=>?_,fun σ2 hs=>?_⟩
       ·rcases a1 t with h1|⟨h1,h2,h3⟩
        ·exact .inl h1
        ·exact .inr ⟨(hm t).2 h1,h2,h3⟩
       ·obtain⟨σ3,c2,c3,c4⟩:=a2 σ2 (fun t ht=>hs t ((hm t).2 ht));refine⟨σ3,?_,fun t ht=>c3 t ((hm t).1 ht),fun t ht=>c4 t (fun e=>ht ((hm t).2 e))⟩;unfold ZP;rw[zaK (fun t ht=>hs t (by simpa using ht)),hw,if_pos rfl];simp only[hg,hop,hd,zbX,h1,c2,hf];rw[if_pos hdd]
      ·cases h
     ·cases h
    ·cases h
   ·rename_i t n parts d hg hop hd;have hops:o.op.operands.toList=parts.toList.map (·.2):=(by simp[hop,Op.operands]);split at h
    ·rename_i e he;split at h
     ·rename_i z p' vs σ1 hz h1;split at h
      ·rename_i hcz;split at h
       ·rename_i es hf;split at h
        ·rename_i hdd;simp only[za,zb]at h;obtain⟨rfl,rfl⟩:=h;obtain⟨a1,a2⟩:=zeq parts.toList σ _ _ _ (fun e he=>hw' _ (by rw[hops];exact List.mem_map.2 ⟨e,he,rfl⟩)) h1;have hm:∀t,Operand.tmp t∈o.op.operands↔Operand.tmp t∈parts.toList.map (·.2):=fun t=>(by rw[<-hops];simp);refine⟨d,.slc true e z es,σ1,hd,rfl,fun t=>?_,fun σ2 hs=>?_⟩
         ·rcases a1 t with h1|⟨h1,h2,h3⟩
          ·exact .inl h1
          ·exact .inr ⟨(hm t).2 h1,h2,h3⟩
         ·obtain⟨σ3,c2,c3,c4⟩:=a2 σ2 (fun t ht=>hs t ((hm t).2 ht));refine⟨σ3,?_,fun t ht=>c3 t ((hm t).1 ht),fun t ht=>c4 t (fun e=>ht ((hm t).2 e))⟩;unfold ZP;rw[zaK (fun t ht=>hs t (by simpa using ht)),hw,if_pos rfl];simp only[hg,hop,hd,zbX,he,hz,c2];rw[if_pos hcz,hf];dsimp only;rw[if_pos hdd]
        ·cases h
       ·cases h
      ·cases h
     ·cases h
    ·cases h
   ·cases h
 ·cases h
end
end Go.Ax
namespace Go.Ax
open Go.RowKit
def NR(PS:List Nat)(σ:Env):Prop:=∀s∈PS,∀t ver,(σ t).a.refs=some (s,ver)->σ.own s ver=none
def Jy(PS:List Nat)(σ':Env)(o:Oper):Prop:=∀d,o.dst=some d->∀s ver,(σ' d).a.refs=some (s,ver)->s∉PS
def KZ(PS:List Nat)(σ:Env)(o:Oper):Prop:=o.guard=none/\∀t,Operand.tmp t∈o.op.operands->(∀s v,(σ t).a.refs=some (s,v)->s+800∉PS)/\∀x,(σ t).a=.val x->x.owned=true->t+800∉PS
def znG(C:Ctx)(PS:List Nat)(σ:Env)(o:Oper):Prop:=∃args ats tx ty t t' s ver i q r z,o.guard=none/\o.op=.call ⟨.builtin .append,args,ats⟩/\args.toList=[.tmp tx,.tmp ty]/\ats.toList=[t,t']/\(∀e,ku C.P t=some e->zaY C.P e=true)/\
 (σ tx).a=.rf s ver (i::q)/\σ.own s ver=some r/\(∀fs,r≠.tup fs)/\s≠ty/\(σ ty).a=.val z/\s+800∈PS
def zjr(PS:List Nat)(σ:Env)(o:Oper):Prop:=∃t tx tv s ver p r y,o.guard=none/\o.dst=none/\o.op=.store t (.tmp tx) (.tmp tv)/\((σ tx).a=.ad s ver p\/(σ tx).a=.rf s ver p\/(tx=s/\p=[]))/\σ.own s ver=some r/\s+800∈PS/\(σ tv).a=.val y/\y.owned=false
def zqZ(C:Ctx)(PS:List Nat)(σ:Env)(o:Oper):Prop:=znG C PS σ o\/zjr PS σ o
def zaW(C:Ctx)(PS:List Nat)(σ:Env)(o:Oper):Prop:=∃k args ats j c x gx s ver d,o.guard=none/\o.op=.call ⟨.value (.func k),args,ats⟩/\o.dst=some d/\C.Ψ k=some (j,false,c)/\KB (j%1000) args.toList=some (.tmp x)/\opd C.P σ 0 (.tmp x)=some (gx,.rf s ver [])/\s+800∈PS/\
 ∀t,Operand.tmp t∈qT (j%1000) args.toList->∃z,(σ t).a=.val z
def zds(C:Ctx)(PS:List Nat)(σ:Env)(o:Oper)(p:Prop)(σ':Env):Prop:=∃l:List Nat,(l=[]\/C.st=false)/\(∀t∈l,t+800∈PS/\Operand.tmp t∈o.op.operands)/\Yn C (Yy σ l) o=some (p,σ')/\zaW C PS (Yy σ l) o
def ZR(PS:List Nat)(o:Oper):Bool:=match o.dst with
 |some d=>PS.contains (d+800)
 |none=>PS.contains 998
def zci(C:Ctx)(ops:Array Oper)(PS:List Nat)(t:Bool)(σ:Env)(o:Oper)(p:Prop)(σ':Env):Prop:=
 (t=true/\((qm C ops σ o=some (p,σ')/\Jy PS σ' o)\/(qv C σ o=some (p,σ')/\∀x,o.op=.assign x->∀d,o.dst=some d->d∉PS)\/zdW C σ o=some (p,σ')\/zcW C ops σ o=some (p,σ')\/zds C PS σ o p σ')/\(ZR PS o=true->(qv C σ o=some (p,σ')/\zqZ C PS σ o)\/zds C PS σ o p σ'))\/
 (t=false/\∃d,o.dst=some d/\(σ d).owner=false/\((qm C ops σ o=some (p,σ')/\Jy PS σ' o)\/ZP C PS σ o=some (p,σ'))/\(ZR PS o=true->KZ PS σ o/\qm C ops σ o=some (p,σ')/\Jy PS σ' o))
section
variable {C:Ctx}{F:Nat->Prop}{O:Nat->Nat->Prop}{Z:Nat->Prop}{σ σ' σ'':Env}{a:Act}{w w':World}{ops:Array Oper}{PS:List Nat}
theorem zuf(hC:Ya C)(hIO:IOk C){t:Bool}{o:Oper}{i:Nat}(hi:ops[i]? =some o){p:Prop}(h:zci C ops PS t σ o p σ')(hp:p){Q:Exit->Act->World->Prop}(hG:G C σ a w):wpOp C.P ops Q i (G C σ') a w:=by
 obtain⟨F,O,hI⟩:=hG;rcases h with⟨_,⟨h,_⟩|⟨h,_⟩|h|h|h,_⟩|⟨_,d,_,_,⟨h,_⟩|h,_⟩
 ·exact YH hC hI hi h hp
 ·exact zgg hI hi h hp
 ·obtain⟨hg,hw⟩:=zks hIO hI h hp (Q:=Q);unfold wpOp;rw[hi];dsimp only;rw[show Region.wanted o (yielded ops a.tmps)=true from by unfold Region.wanted;rw[hg]];exact .inl hw
 ·unfold zcW at h;split at h
  ·split at h
   ·rename_i hl;split at h
    ·rename_i hy;simp only[za,zb]at h;obtain⟨rfl,rfl⟩:=h;refine wpOp_mono (fun a' w' hG'=>?_) (YH hC hI hi hl hp.1);obtain⟨F',O',hI'⟩:=hG';exact hI'.frzG hp.2 hy
    ·cases h
   ·cases h
  ·cases h
 ·obtain⟨l,hl,_,h,_⟩:=h;obtain⟨F',O',hI'⟩:=FzR.g ⟨l,hl,rfl⟩ (⟨F,O,hI⟩:G C σ a w);obtain⟨hg,hw⟩:=zgq hIO hI' h hp (Q:=Q);unfold wpOp;rw[hi];dsimp only;rw[show Region.wanted o (yielded ops a.tmps)=true from by unfold Region.wanted;rw[hg]];exact .inl hw
 ·exact YH hC hI hi h hp
 ·obtain⟨hg,hw⟩:=zus hI h hp (Q:=Q);unfold wpOp;rw[hi];dsimp only;rw[show Region.wanted o (yielded ops a.tmps)=true from by unfold Region.wanted;rw[hg]];exact .inl hw
def kW(σ σ':Env):Prop:=∀s,(σ s).ver<=(σ' s).ver/\∀ver y,σ'.own s ver=some y->(∃z,σ.own s ver=some z)\/(σ s).ver<ver
theorem kW.refl:kW σ σ:=fun _=>⟨zt _,fun _ y h=>.inl ⟨y,h⟩⟩
theorem kW.trans(h:kW σ σ')(h':kW σ' σ''):kW σ σ'':=fun s=>⟨qJ (h s).1 (h' s).1,fun ver y hy=>by
 rcases (h' s).2 ver y hy with⟨z,hz⟩|h1
 ·exact(h s).2 ver z hz
 ·exact .inr (Nat.lt_of_le_of_lt (h s).1 h1)⟩
theorem kW.at(d:Nat)(h:∀s,s≠d->σ' s=σ s)(hd:(σ d).ver<=(σ' d).ver)(ho:∀ver y,σ'.own d ver=some y->(∃z,σ.own d ver=some z)\/(σ d).ver<ver):kW σ σ':=fun s=>by
 by_cases hs:s=d
 ·subst hs;exact⟨hd,ho⟩
 ·have e:=h s hs;refine⟨by rw[e];exact zt _,fun ver y hy=>.inl ⟨y,?_⟩⟩;unfold Env.own at hy ⊢;rw[<-e];exact hy
theorem kW.drp{d:Nat}:kW σ (σ.drp d):=by
 refine kW.at d (fun s hs=>by simp[Env.drp,hs]) (by simp[Env.drp]) (fun ver y hy=>?_);rw[Env.own_drp_eq]at hy;cases hy
theorem kW.put{d:Nat}{g:Bool}{A:A}:kW σ (σ.put d g A):=by
 refine kW.at d (fun s hs=>by simp[Env.put,hs]) (by simp[Env.put]) (fun ver y hy=>.inr ?_);have:=(Env.own_elim hy).2.1;simp only[Env.put,if_true]at this;omega
theorem kW.bmp{d:Nat}{x:V}:kW σ (σ.bmp d x):=by
 refine kW.at d (fun s hs=>by simp[Env.bmp,hs]) (by simp[Env.bmp]) (fun ver y hy=>.inr ?_);have:=(Env.own_elim hy).2.1;simp only[Env.bmp,if_true]at this;omega
theorem kW.mod{d v0:Nat}{x r:V}(h:σ.own d v0=some r):kW σ (σ.mod d x):=by
 refine kW.at d (fun s hs=>by simp[Env.mod,hs]) (by simp[Env.mod]) (fun ver y hy=>.inl ⟨r,?_⟩);have h1:=(Env.own_elim hy).2.1;simp only[Env.mod,if_true]at h1;have h2:=(Env.own_elim h).2.1;rw[<-h1,h2];exact h
mutual
theorem zkw{s ver:Nat}:∀(x:V) (p:List Nat) (σ σ':Env) (q:Prop) (y:V),qw s ver x p σ=some (q,y,σ')->kW σ σ'
 | .agg fs,p,σ,σ',q,y,h=>by
   simp only[qw]at h;split at h
   ·rename_i q1 vs σ1 h1;simp only[za,zb]at h;obtain⟨_,_,rfl⟩:=h;exact ziz fs p 0 σ _ _ _ h1
   ·cases h
 | .slc true e d es,p,σ,σ',q,y,h=>by
   simp only[qw]at h;split at h
   ·rename_i hr;simp only[za,zb]at h;obtain⟨_,_,rfl⟩:=h;exact .mod hr
   ·cases h
 | .slc false e d es,p,σ,σ',q,y,h=>by
   simp only[qw]at h;split at h
   ·cases h
   ·simp only[za,zb]at h;obtain⟨_,_,rfl⟩:=h;exact .refl
 | .box e c,p,σ,σ',q,y,h=>by
   simp only[qw]at h;split at h
   ·rename_i hr;simp only[za,zb]at h;obtain⟨_,_,rfl⟩:=h;exact .mod hr
   ·cases h
 | .int _ _,p,σ,σ',q,y,h=>by
   simp only[qw]at h;split at h
   ·cases h
   ·simp only[za,zb]at h;obtain⟨_,_,rfl⟩:=h;exact .refl
 | .bool _,p,σ,σ',q,y,h=>by
   simp only[qw]at h;split at h
   ·cases h
   ·simp only[za,zb]at h;obtain⟨_,_,rfl⟩:=h;exact .refl
 | .str _,p,σ,σ',q,y,h=>by
   simp only[qw]at h;split at h
   ·cases h
   ·simp only[za,zb]at h;obtain⟨_,_,rfl⟩:=h;exact .refl
 | .tup _,p,σ,σ',q,y,h=>by
   simp only[qw]at h;split at h
   ·cases h
   ·simp only[za,zb]at h;obtain⟨_,_,rfl⟩:=h;exact .refl
 | .fn _ _,p,σ,σ',q,y,h=>by
   simp only[qw]at h;split at h
   ·cases h
   ·simp only[za,zb]at h;obtain⟨_,_,rfl⟩:=h;exact .refl
 | .hole _,p,σ,σ',q,y,h=>by
   simp only[qw]at h;split at h
   ·cases h
   ·simp only[za,zb]at h;obtain⟨_,_,rfl⟩:=h;exact .refl
theorem ziz{s ver:Nat}:∀(fs:List V) (p:List Nat) (i:Nat) (σ σ':Env) (q:Prop) (ys:List V),ZB s ver fs p i σ=some (q,ys,σ')->kW σ σ'
 |[],p,i,σ,σ',q,ys,h=>by
  simp only[ZB,za,zb]at h;obtain⟨_,_,rfl⟩:=h;exact .refl
 |x::xs,p,i,σ,σ',q,ys,h=>by
  simp only[ZB]at h;split at h
  ·rename_i q1 v σ1 h1;split at h
   ·rename_i q2 vs σ2 h2;simp only[za,zb]at h;obtain⟨_,_,rfl⟩:=h;exact(zkw x _ σ σ1 _ _ h1).trans (ziz xs p _ σ1 _ _ _ h2)
   ·cases h
  ·cases h
end
theorem Kn{A:A}{q:Prop}{x:V}(h:qY σ A=some (q,x,σ')):kW σ σ':=by
 unfold qY at h;split at h
 ·simp only[za,zb]at h;obtain⟨_,_,rfl⟩:=h;exact .refl
 ·split at h
  ·rename_i hr;split at h
   ·simp only[za,zb]at h;obtain⟨_,_,rfl⟩:=h;exact .drp
   ·split at h
    ·split at h
     ·simp only[za,zb]at h;obtain⟨_,_,rfl⟩:=h;exact .mod hr
     ·cases h
    ·simp only[za,zb]at h;obtain⟨_,_,rfl⟩:=h;exact .mod hr
  ·cases h
 ·exact zkw _ _ _ _ _ _ h
 ·cases h
theorem NR.step(hn:NR PS σ)(hw:Wf σ)(hg:kW σ σ')(hr:∀t s ver,s∈PS->(σ' t).a.refs=some (s,ver)->(σ t).a.refs=some (s,ver)):NR PS σ':=by
 intro s hs t ver h;have h1:=hr t s ver hs h
 cases ho:σ'.own s ver with
 |none=>rfl
 |some y=>
  rcases (hg s).2 ver y ho with⟨z,hz⟩|hlt
  ·rw[hn s hs t ver h1]at hz;cases hz
  ·have:=hw t s ver h1;omega
theorem uU.refKeep(h:uU σ σ'):∀t s ver,s∈PS->(σ' t).a.refs=some (s,ver)->(σ t).a.refs=some (s,ver):=by
 intro t s ver _ hr;rcases (h t).2 with e|e
 ·rw[<-e];exact hr
 ·rw[e]at hr;cases hr
theorem zxX{o:Oper}{p:Prop}(h:qm C ops σ o=some (p,σ')):∃d g A,o.dst=some d/\σ'=σ.put d g A:=by
 cases hd:o.dst with
 |none=>unfold qm at h;rw[hd]at h;split at h<;>simp_all
 |some d=>
  rw[KN hd]at h;split at h
  ·split at h
   ·simp only[za,zb]at h;exact⟨d,_,_,rfl,h.2.symm⟩
   ·cases h
  ·cases h
theorem zhC(hn:NR PS σ)(hw:Wf σ){o:Oper}{p:Prop}(h:qm C ops σ o=some (p,σ'))(hr:Jy PS σ' o):NR PS σ':=by
 obtain⟨d,g,A,hd,rfl⟩:=zxX h;refine hn.step hw .put (fun t s ver hs h=>?_);by_cases ht:t=d
 ·subst ht;exact absurd hs (hr t hd s ver h)
 ·simpa [Env.put,ht]using h
theorem zyV(hn:NR PS σ)(hw:Wf σ){o:Oper}{p:Prop}(h:qv C σ o=some (p,σ'))(hr:∀x,o.op=.assign x->∀d,o.dst=some d->d∉PS):NR PS σ':=by
 unfold qv at h;split at h
 ·cases h
 ·split at h
  ·rename_i x0 d0 hop hd;split at h
   ·rename_i gx A h1;split at h
    ·rename_i q y σ1 ht;have g1:=ZO ht;have o1:=Kn ht;split at h
     ·split at h
      ·split at h
       ·cases h
       ·rename_i s ver hsd;simp only[za,zb]at h;obtain⟨_,rfl⟩:=h;refine hn.step hw ((o1.trans .put).trans .put) (fun t s' ver' hs' hh=>?_);by_cases hts:t=s
        ·subst hts;simp only[Env.put,if_true,A.refs,za,zb]at hh;rw[<-hh.1]at hs';exact absurd hs' (hr _ hop _ hd)
        ·have h2:((σ1.put d0 true (.val y)) t).a.refs=some (s',ver'):=by
          rw[Env.put,if_neg hts]at hh;exact hh
         exact(g1.trans (.putVal (x:=y))).refKeep t s' ver' hs' h2
      ·simp only[za,zb]at h;obtain⟨_,rfl⟩:=h;exact hn.step hw (o1.trans .put) (g1.trans .putVal).refKeep
     ·cases h
    ·cases h
   ·cases h
  ·split at h
   ·split at h
    ·rename_i q y σ1 ht;have g1:=ZO ht;have o1:=Kn ht;split at h
     ·split at h
      ·rename_i hown;split at h
       ·simp only[za,zb]at h;obtain⟨_,rfl⟩:=h;split
        ·exact hn.step hw (o1.trans (.mod hown)) (g1.trans .mod).refKeep
        ·exact hn.step hw (o1.trans .bmp) (g1.trans .bmp).refKeep
       ·cases h
      ·cases h
     ·split at h
      ·rename_i hown;split at h
       ·split at h
        ·simp only[za,zb]at h;obtain⟨_,rfl⟩:=h;split
         ·exact hn.step hw (o1.trans (.mod hown)) (g1.trans .mod).refKeep
         ·exact hn.step hw (o1.trans .bmp) (g1.trans .bmp).refKeep
        ·cases h
       ·cases h
      ·cases h
     ·cases h
    ·cases h
   ·cases h
  ·split at h
   ·split at h
    ·split at h
     ·split at h
      ·rename_i q e' dd es σ1 ht;have g1:=ZO ht;have o1:=Kn ht;split at h
       ·split at h
        ·split at h
         ·split at h
          ·split at h
           ·rename_i q2 e2 d2 es3 σ2 ht2;simp only[za,zb]at h;obtain⟨_,rfl⟩:=h;exact hn.step hw ((o1.trans (Kn ht2)).trans .put) ((g1.trans (ZO ht2)).trans .putVal).refKeep
           ·cases h
          ·simp only[za,zb]at h;obtain⟨_,rfl⟩:=h;exact hn.step hw (o1.trans .put) (g1.trans .putVal).refKeep
         ·cases h
        ·cases h
       ·cases h
      ·cases h
     ·cases h
    ·cases h
   ·cases h
  ·cases h
theorem Foot.grow{o:Oper}{p:Prop}{d:Nat}{v:V}{τ:Env}(h:Foot C PS σ o p σ' d v τ):uU σ σ'/\kW σ σ':=by
 have h1:uU σ τ:=fun t=>by
  rcases h.off t with e|⟨_,_,e⟩
  ·rw[e];exact⟨zt _,.inl rfl⟩
  ·exact⟨e.2.1,.inr e.1⟩
 have h2:kW σ τ:=fun t=>by
  rcases h.off t with e|⟨_,_,e⟩
  ·refine⟨by rw[e];exact zt _,fun ver y hy=>.inl ⟨y,?_⟩⟩;unfold Env.own at hy ⊢;rw[<-e];exact hy
  ·refine⟨e.2.1,fun ver y hy=>?_⟩;obtain⟨_,_,h3,h4⟩:=Env.own_iff'.1 hy;rw[e.2.2 y h3]at h4;cases h4
 rw[h.eq];exact⟨h1.trans .putVal,h2.trans .put⟩
theorem zzr(hn:NR PS σ)(hw:Wf σ){o:Oper}{p:Prop}(h:ZP C PS σ o=some (p,σ')):NR PS σ':=by
 obtain⟨d,v,τ,hf⟩:=zar h;exact hn.step hw hf.grow.2 hf.grow.1.refKeep
theorem zzq(hw:Wf σ){o:Oper}{p:Prop}(h:ZP C PS σ o=some (p,σ')):Wf σ':=by
 obtain⟨d,v,τ,hf⟩:=zar h;exact hf.grow.1.wf hw
theorem zhf{o:Oper}{p:Prop}(h:zdW C σ o=some (p,σ')):uU σ σ'/\kW σ σ':=by
 unfold zdW at h;split at h
 ·split at h
  ·split at h
   ·split at h
    ·split at h
     ·rename_i ht;split at h
      ·split at h
       ·split at h
        ·cases h
        ·split at h
         ·split at h
          ·simp only[za,zb]at h;obtain⟨_,rfl⟩:=h;exact⟨(ZO ht).trans .putVal,(Kn ht).trans .put⟩
          ·cases h
         ·simp only[za,zb]at h;obtain⟨_,rfl⟩:=h;exact⟨ZO ht,Kn ht⟩
       ·cases h
      ·cases h
     ·cases h
    ·cases h
   ·cases h
  ·cases h
 ·cases h
theorem zzK{o:Oper}{p:Prop}(h:Yn C σ o=some (p,σ'))(hl:zaW C PS σ o):∃s ver d y r r0,o.dst=some d/\s+800∈PS/\σ.own s ver=some r0/\σ'=(σ.mod s y).put d true (.val r):=by
 obtain⟨k,args,ats,j,c,x,gx,s,ver,d,hg,hop,hd,hΨ,hx,hr,hsp,_⟩:=hl;unfold Yn at h;simp only[hg,hop,hd,hΨ,hx,hr,Ka]at h
 cases hown:σ.own s ver with
 |none=>rw[hown]at h;cases h
 |some r0=>
  rw[hown]at h;by_cases hH:r0.isH=true
  ·simp only[hH,if_true]at h;split at h
   ·rename_i pl vs br hlk;split at h
    ·rename_i q2 rr y' hc;by_cases hbr:((br&& !(rr.noFz&&y'.noFz))||(jw j&& !(zap (.rf s ver [])&&r0.bare)))=true
     ·rw[if_pos hbr]at h;cases h
     ·rw[if_neg hbr]at h;by_cases hdd:C.dst d
      ·rw[if_pos hdd]at h;simp only[za,zb]at h;exact⟨s,ver,d,_,_,r0,hd,hsp,hown,h.2.symm⟩
      ·rw[if_neg hdd]at h;cases h
    ·cases h
   ·cases h
  ·simp only[hH]at h;cases h
theorem zby:∀(l:List Nat) (σ:Env),uU σ (Yy σ l)/\kW σ (Yy σ l)
 |[],_=>⟨.refl,.refl⟩
 |t::l,σ=>by
  simp only[Yy];split
  ·obtain⟨h1,h2⟩:=zby l ((σ.drp t).put t true (.val (by assumption:V).frz));exact⟨(uU.drp.trans .putVal).trans h1,(kW.drp.trans .put).trans h2⟩
  ·exact zby l σ
theorem zhJ:∀(l:List Nat) (σ:Env) (t:Nat),Yy σ l t=σ t\/((σ t).owner=true/\t∈l)
 |[],_,_=>.inl rfl
 |s::l,σ,t=>by
  cases hy:σ.own s (σ s).ver with
  |some y=>
   simp only[Yy,hy];by_cases hts:t=s
   ·subst hts;obtain⟨o1,_,o3,o4⟩:=Env.own_iff'.1 hy;exact .inr ⟨by simp[E.owner,o1,o3,o4],by simp⟩
   ·have e:((σ.drp s).put s true (.val y.frz)) t=σ t:=(by simp[Env.put,Env.drp,hts]);rcases zhJ l ((σ.drp s).put s true (.val y.frz)) t with h|⟨h1,h2⟩
    ·exact .inl (h.trans e)
    ·exact .inr ⟨by rw[<-e];exact h1,zx _ h2⟩
  |none=>
   simp only[Yy,hy];rcases zhJ l σ t with h|⟨h1,h2⟩
   ·exact .inl h
   ·exact .inr ⟨h1,zx _ h2⟩
theorem zbH{t:Bool}{o:Oper}{p:Prop}(h:zci C ops PS t σ o p σ')(hw:Wf σ)(hn:NR PS σ):Wf σ'/\NR PS σ':=by
 rcases h with⟨_,⟨h,h1⟩|⟨h,h1⟩|h|h|h,_⟩|⟨_,d,_,_,⟨h,h1⟩|h,_⟩
 ·exact⟨zcA hw h,zhC hn hw h h1⟩
 ·exact⟨zq4 hw h,zyV hn hw h h1⟩
 ·exact⟨(zhf h).1.wf hw,hn.step hw (zhf h).2 (zhf h).1.refKeep⟩
 ·unfold zcW at h;split at h
  ·rename_i d hd;split at h
   ·rename_i q σ1 hl;split at h
    ·rename_i y hy;simp only[za,zb]at h;obtain⟨_,rfl⟩:=h
     have hr:Jy PS σ1 o:=fun d' hd' s ver hr=>by
      rw[hd]at hd';simp only[za]at hd';subst hd';rw[(Env.own_elim hy).2.2]at hr;simp[A.refs]at hr
     have w1:=zcA hw hl;have n1:=zhC hn hw hl hr;have g1:uU σ1 ((σ1.drp d).put d true (.val y.frz)):=uU.drp.trans .putVal;exact⟨g1.wf w1,n1.step w1 (kW.drp.trans .put) g1.refKeep⟩
    ·cases h
   ·cases h
  ·cases h
 ·obtain⟨l,_,_,h,h1⟩:=h;obtain⟨s,_,d,y,r,r0,_,_,hown,rfl⟩:=zzK h h1;obtain⟨k1,k2⟩:=zby l σ;have g1:uU σ (((Yy σ l).mod s y).put d true (.val r)):=k1.trans (uU.mod.trans .putVal);exact⟨g1.wf hw,hn.step hw (k2.trans ((kW.mod hown).trans .put)) g1.refKeep⟩
 ·exact⟨zcA hw h,zhC hn hw h h1⟩
 ·exact⟨zzq hw h,zzr hn hw h⟩
theorem zjP{o:Oper}(h:∀t∈o.looksAt ops,σ' t=σ t):gd ops σ' o=gd ops σ o:=by
 unfold gd
 cases hg:o.guard with
 |none=>rfl
 |some jw=>
  obtain⟨j,want⟩:=jw
  cases ht:(ops[j]?).bind (·.dst)with
  |none=>simp[ht]
  |some t=>
   have:σ' t=σ t:=h t (by
    unfold Oper.looksAt;refine qz.2 (.inr ?_)
    simp[hg,ht])
   simp[ht,this]
theorem zhv{P:Program}{o:Oper}(h:∀t∈o.looksAt ops,σ' t=σ t){ty:TypeId}{x:Operand}(hx:x∈o.op.operands):opd P σ' ty x=opd P σ ty x:=by
 cases x with
 |tmp t=>simp only[opd,h t (Ky hx)]
 |_=>rfl
theorem zgP{P:Program}{ty:TypeId}{x:Operand}{g:Bool}{A:A}{s ver:Nat}(h:opd P σ ty x=some (g,A))(hr:A.refs=some (s,ver)):x=.tmp s\/∃t,x=.tmp t/\(σ t).a.refs=some (s,ver):=by
 cases x with
 |tmp t=>
  simp only[opd]at h
  cases ha:(σ t).a with
  |val v=>
   simp only[ha]at h;split at h
   ·simp only[za,zb]at h;obtain⟨_,rfl⟩:=h;simp only[A.refs,za,zb]at hr;exact .inl (by rw[hr.1])
   ·simp only[za,zb]at h;obtain⟨_,rfl⟩:=h;simp[A.refs]at hr
  |_=>
   simp only[ha,za,zb]at h;obtain⟨_,rfl⟩:=h;exact .inr ⟨t,rfl,by rw[ha];exact hr⟩
 |const v=>
  simp only[opd,zJ,zb]at h;obtain⟨z,_,_,rfl⟩:=h;simp[A.refs]at hr
 |func f=>
  simp only[opd,za,zb]at h;obtain⟨_,rfl⟩:=h;simp[A.refs]at hr
 |global g=>simp[opd]at h
theorem KM{o:Oper}{d:Nat}{p:Prop}(hd:o.dst=some d)(h:qm C ops σ o=some (p,σ')):∃g A,zbc C ops σ o=some (p,g,A)/\C.dst d/\σ'=σ.put d g A:=by
 rw[KN hd]at h;split at h
 ·rename_i hl;split at h
  ·rename_i hdn;simp only[za,zb]at h;obtain⟨rfl,rfl⟩:=h;exact⟨_,_,hl,hdn,rfl⟩
  ·cases h
 ·cases h
theorem zhB{o:Oper}{d:Nat}{p:Prop}{g:Bool}{A:A}(hd:o.dst=some d)(h:zbc C ops σ o=some (p,g,A))(hdn:C.dst d):qm C ops σ o=some (p,σ.put d g A):=by
 rw[KN hd,h];dsimp only;rw[if_pos hdn]
theorem kx{o:Oper}{t:Nat}(h:Operand.tmp t∈o.op.operands):t∈o.looksAt ops:=Ky h
theorem zeJ{e e':E}(h:e'=e)(ho:e.owner=false):e'.owner=false:=by rw[h];exact ho
def FM(C:Ctx)(ops:Array Oper)(PS:List Nat)(b:Bool)(σ:Env)(o:Oper)(p:Prop)(σ':Env):Prop:=(b=true/\qm C ops σ o=some (p,σ')/\Jy PS σ' o)\/(b=false/\ZP C PS σ o=some (p,σ'))
theorem FM.of{o:Oper}{p:Prop}(h:((qm C ops σ o=some (p,σ')/\Jy PS σ' o)\/ZP C PS σ o=some (p,σ'))/\(ZR PS o=true->KZ PS σ o/\qm C ops σ o=some (p,σ')/\Jy PS σ' o)):
 ∃b,FM C ops PS b σ o p σ'/\(ZR PS o=true->b=true/\KZ PS σ o):=by
 cases hl:ZR PS o with
 |true=>exact⟨true,.inl ⟨rfl,(h.2 hl).2⟩,fun _=>⟨rfl,(h.2 hl).1⟩⟩
 |false=>
  rcases h.1 with h1|h1
  ·exact⟨true,.inl ⟨rfl,h1⟩,fun h=>(by cases h)⟩
  ·exact⟨false,.inr ⟨rfl,h1⟩,fun h=>(by cases h)⟩
theorem FM.to{b:Bool}{o:Oper}{p:Prop}(h:FM C ops PS b σ o p σ')(hl:ZR PS o=true->b=true/\KZ PS σ o):
 ((qm C ops σ o=some (p,σ')/\Jy PS σ' o)\/ZP C PS σ o=some (p,σ'))/\(ZR PS o=true->KZ PS σ o/\qm C ops σ o=some (p,σ')/\Jy PS σ' o):=by
 refine⟨?_,fun h1=>?_⟩
 ·rcases h with⟨_,h⟩|⟨_,h⟩
  ·exact .inl h
  ·exact .inr h
 ·obtain⟨h2,h3⟩:=hl h1;rcases h with⟨_,h⟩|⟨h4,_⟩
  ·exact⟨h3,h⟩
  ·rw[h2]at h4;cases h4
theorem FM.off{b:Bool}{o:Oper}{p:Prop}{d:Nat}{L:List Nat}(h:FM C ops PS b σ o p σ')(hd:o.dst=some d)(hn:d∉L)(hP:∀s∈PS,s∈o.looksAt ops->s∉L):∀t∈L,σ' t=σ t:=by
 intro t ht;rcases h with⟨_,h,_⟩|⟨_,h⟩
 ·obtain⟨g,A,_,_,rfl⟩:=KM hd h;have:t≠d:=fun e=>hn (by rw[<-e];exact ht);simp[Env.put,this]
 ·obtain⟨d',v,τ,hf⟩:=zar h;obtain rfl:d'=d:=by have:=hf.dst;rw[hd]at this;simpa using this.symm
  have:t≠d':=fun e=>hn (by rw[<-e];exact ht);rw[hf.eq];simp only[Env.put,this,if_false];rcases hf.off t with e|⟨e1,e2,_⟩
  ·exact e
  ·exact absurd ht (hP t e2 (kx e1))
theorem KZ.same{o:Oper}(h:KZ PS σ o)(hs:∀t∈o.looksAt ops,σ' t=σ t):KZ PS σ' o:=⟨h.1,fun t ht=>by rw[hs t (kx ht)];exact h.2 t ht⟩
theorem KZ.opd{o:Oper}(h:KZ PS σ o){P:Program}{ty:TypeId}{x:Operand}{g:Bool}{A':A}(hx:x∈o.op.operands)(ho:Go.Ax.opd P σ ty x=some (g,A')){s ver:Nat}(hr:A'.refs=some (s,ver)):s+800∉PS:=by
 rcases zgP ho hr with e|⟨t,e,e'⟩
 ·subst e;have h1:=h.2 s hx;simp only[Go.Ax.opd]at ho
  cases ha:(σ s).a with
  |val v=>
   rw[ha]at ho;simp only at ho
   cases hv:v.owned with
   |true=>exact h1.2 v ha hv
   |false=>
    rw[if_neg (by rw[hv];simp)]at ho;simp only[za,zb]at ho;rw[<-ho.2]at hr;simp[A.refs]at hr
  |_=>
   rw[ha]at ho;simp only[za,zb]at ho;rw[<-ho.2]at hr;rw[ha]at h1;exact h1.1 s ver hr
 ·subst e;exact(h.2 t hx).1 s ver e'
theorem zAX{bi bj:Bool}{oi oj:Oper}{di dj:Nat}(hap:oi.apart ops oj=true)(hdi:oi.dst=some di)(hdj:oj.dst=some dj)(hw:Wf σ)(hn:NR PS σ)
 (hP:∀s∈PS,s∈oi.looksAt ops->s∉oj.looksAt ops) {σi σij:Env} {pi pj:Prop}
 (hoi:(σ di).owner=false) (hi:FM C ops PS bi σ oi pi σi)
 (hoj:(σi dj).owner=false) (hj:FM C ops PS bj σi oj pj σij):
 ∃σj,FM C ops PS bj σ oj pj σj/\FM C ops PS bi σj oi pi σij/\(σ dj).owner=false/\(σj di).owner=false:=by
 obtain⟨a1,a2,a3⟩:=Oper.apart_spec hap;have hne:di≠dj:=fun e=>a2 di hdi (by rw[hdj,e]);have a1':=a1 di hdi;have a3':=a3 dj hdj;rcases hi with⟨rfl,hi,hri⟩|⟨rfl,hi⟩
 ·obtain⟨g,A,hli,hdn,rfl⟩:=KM hdi hi;rcases hj with⟨rfl,hj,hrj⟩|⟨rfl,hj⟩
  ·obtain⟨σj,e1,e2,e3,e4,_⟩:=zmZ hap hdi hdj hw hoi hi hoj hj;obtain⟨g1,A1,_,_,rfl⟩:=KM hdj hj;obtain⟨g2,A2,_,_,rfl⟩:=KM hdj e1;obtain⟨g3,A3,_,_,e5⟩:=KM hdi e2;refine⟨_,.inl ⟨rfl,e1,fun d hd s ver hr=>?_⟩,.inl ⟨rfl,e2,fun d hd s ver hr=>?_⟩,e3,e4⟩
   ·rw[hdj]at hd;simp only[za]at hd;subst hd;refine hrj dj hdj s ver ?_;rw[e5];simpa [Env.put,Ne.symm hne]using hr
   ·rw[hdi]at hd;simp only[za]at hd;subst hd;refine hri di hdi s ver ?_;simpa [Env.put,hne]using hr
  ·obtain⟨d,v,τ,hf⟩:=zar hj;obtain rfl:d=dj:=(by have:=hf.dst;rw[hdj]at this;simpa using this.symm);have nd:∀t,Operand.tmp t∈oj.op.operands->t≠di:=fun t ht e=>a1' (by rw[<-e];exact kx ht);obtain⟨τ2,f1,f2,f3⟩:=hf.same σ (fun t ht=>by simp[Env.put,nd t ht]);have hod:(σ d).owner=false:=zeJ (by simp[Env.put,Ne.symm hne]) hoj
   have agree:∀t∈oi.looksAt ops,(τ2.put d true (.val v)) t=σ t:=by
    intro t ht;have h1:t≠d:=fun e=>a3' (by rw[<-e];exact ht);simp only[Env.put,h1,if_false];by_cases hto:Operand.tmp t∈oj.op.operands
    ·rw[f2 t hto];rcases hf.off t with e|⟨_,e2,_⟩
     ·rw[e];simp[Env.put,nd t hto]
     ·exact absurd (kx hto) (hP t e2 ht)
    ·exact f3 t hto
   have hl2:zbc C ops (τ2.put d true (.val v)) oi=some (pi,g,A):=by
    refine zbw (zjP agree).symm (fun ty x gx A' s ver y hx ho hr hy=>?_) (fun ty x hx=>(zhv agree (by simpa using hx)).symm) hli;have hxm:x∈oi.op.operands:=(by simpa using hx);by_cases hs:s=d
    ·subst hs;obtain⟨h1,h2,h3,h4⟩:=Env.own_iff'.1 hy;simp[E.owner,h1,h3,h4]at hod
    ·by_cases hsP:Operand.tmp s∈oj.op.operands/\s∈PS
     ·rcases zgP ho hr with e|⟨t,e,e'⟩
      ·subst e;exact absurd (kx hsP.1) (hP s hsP.2 (kx hxm))
      ·rw[hn s hsP.2 t ver e']at hy;cases hy
     ·have:(τ2.put d true (.val v)) s=σ s:=by
       simp only[Env.put,hs,if_false];by_cases hto:Operand.tmp s∈oj.op.operands
       ·rw[f2 s hto];rcases hf.off s with e|⟨e1,e2,_⟩
        ·rw[e];simp[Env.put,nd s hto]
        ·exact absurd ⟨e1,e2⟩ hsP
       ·exact f3 s hto
      unfold Env.own at hy ⊢;rw[this];exact hy
   have hfin:σij=(τ2.put d true (.val v)).put di g A:=by
    rw[hf.eq]
    funext t
    have hτ:∀t,t≠di->τ2 t=τ t:=by
     intro t ht;by_cases hto:Operand.tmp t∈oj.op.operands
     ·exact f2 t hto
     ·rw[f3 t hto];rcases hf.off t with e|⟨e,_⟩
      ·rw[e];simp[Env.put,ht]
      ·exact absurd e hto
    have hdo:Operand.tmp di∉oj.op.operands:=fun h=>nd di h rfl
    have hτi:τ di=(σ.put di g A) di:=by
     rcases hf.off di with e|⟨e,_⟩
     ·exact e
     ·exact absurd e hdo
    by_cases h1:t=di
    ·subst h1;simp only[Env.put,hne,if_false,if_true,hτi,f3 t hdo]
    ·by_cases h2:t=d
     ·subst h2;simp only[Env.put,h1,if_false,if_true,hτ t h1]
     ·simp only[Env.put,h1,h2,if_false,hτ t h1]
   refine⟨_,.inr ⟨rfl,f1⟩,.inl ⟨rfl,by rw[hfin];exact zhB hdi hl2 hdn,fun e he s ver hr=>?_⟩,hod,?_⟩
   ·rw[hdi]at he;simp only[za]at he;subst he;refine hri di hdi s ver ?_;rw[hfin]at hr;simpa [Env.put]using hr
   ·have hdo:Operand.tmp di∉oj.op.operands:=fun h=>nd di h rfl;refine zeJ ?_ hoi;simp only[Env.put,hne,if_false];exact f3 di hdo
 ·obtain⟨d,v,τ,hf⟩:=zar hi;obtain rfl:d=di:=by have:=hf.dst;rw[hdi]at this;simpa using this.symm
  have ndj:Operand.tmp dj∉oi.op.operands:=fun h=>a3' (kx h)
  have hτj:τ dj=σ dj:=by
   rcases hf.off dj with e|⟨e,_⟩
   ·exact e
   ·exact absurd e ndj
  have hod:(σ dj).owner=false:=by
   rw[hf.eq]at hoj;refine zeJ ?_ hoj;simp only[Env.put,Ne.symm hne,if_false,hτj]
  have agree:∀t∈oj.looksAt ops,σi t=σ t:=by
   intro t ht;have h1:t≠d:=fun e=>a1' (by rw[<-e];exact ht);rw[hf.eq];simp only[Env.put,h1,if_false];rcases hf.off t with e|⟨e1,e2,_⟩
   ·exact e
   ·exact absurd ht (hP t e2 (kx e1))
  rcases hj with⟨rfl,hj,hrj⟩|⟨rfl,hj⟩
  ·obtain⟨g,B,hlj,hdn,rfl⟩:=KM hdj hj
   have hl2:zbc C ops σ oj=some (pj,g,B):=by
    refine zbw (zjP agree) (fun ty x gx A' s ver y hx ho hr hy=>?_) (fun ty x hx=>zhv agree (by simpa using hx)) hlj;have ho':opd C.P σ ty x=some (gx,A'):=(by rw[<-zhv agree (by simpa using hx)];exact ho);rcases (hf.grow.2 s).2 ver y hy with⟨z,hz⟩|hlt
    ·by_cases hs:s=d
     ·subst hs;have h1:=Za hw ho' _ _ hr;have h2:=(Env.own_elim hy).2.1;rw[hf.eq]at h2;simp only[Env.put,if_true]at h2
      have h3:(σ s).ver<=(τ s).ver:=by
       rcases hf.off s with e|⟨_,_,e⟩
       ·rw[e];exact zt _
       ·exact e.2.1
      omega
     ·have:σi s=τ s:=(by rw[hf.eq];simp[Env.put,hs]);rcases hf.off s with e|⟨_,_,e⟩
      ·unfold Env.own at hy ⊢;rw[this,e]at hy;exact hy
      ·obtain⟨_,_,h3,h4⟩:=Env.own_iff'.1 hy;rw[this]at h3;rw[e.2.2 y h3]at h4;cases h4
    ·have h1:=Za hw ho' _ _ hr;omega
   obtain⟨τ2,f1,f2,f3⟩:=hf.same (σ.put dj g B) (fun t ht=>by
    have:t≠dj:=fun e=>ndj (by rw[<-e];exact ht)
    simp[Env.put,this])
   have hfin:σi.put dj g B=τ2.put d true (.val v):=by
    rw[hf.eq]
    funext t
    have hτ:∀t,t≠dj->τ2 t=τ t:=by
     intro t ht;by_cases hto:Operand.tmp t∈oi.op.operands
     ·exact f2 t hto
     ·rw[f3 t hto];rcases hf.off t with e|⟨e,_⟩
      ·rw[e];simp[Env.put,ht]
      ·exact absurd e hto
    by_cases h1:t=dj
    ·subst h1;simp only[Env.put,Ne.symm hne,if_false,if_true,hτj,f3 t ndj]
    ·by_cases h2:t=d
     ·subst h2;simp only[Env.put,h1,if_false,if_true,hτ t h1]
     ·simp only[Env.put,h1,h2,if_false,hτ t h1]
   refine⟨σ.put dj g B,.inl ⟨rfl,zhB hdj hl2 hdn,fun e he s ver hr=>?_⟩,.inr ⟨rfl,by rw[hfin];exact f1⟩,hod,?_⟩
   ·rw[hdj]at he;simp only[za]at he;subst he;refine hrj dj hdj s ver ?_;simpa [Env.put]using hr
   ·refine zeJ ?_ hoi;simp[Env.put,hne]
  ·obtain⟨d',v',τ',hf'⟩:=zar hj;obtain rfl:d'=dj:=(by have:=hf'.dst;rw[hdj]at this;simpa using this.symm);obtain⟨τ3,f1,f2,f3⟩:=hf'.same σ (fun t ht=>(agree t (kx ht)).symm);have nd:Operand.tmp d∉oj.op.operands:=fun h=>a1' (kx h)
   have agree2:∀t,Operand.tmp t∈oi.op.operands->(τ3.put d' true (.val v')) t=σ t:=by
    intro t ht;have h1:t≠d':=fun e=>ndj (by rw[<-e];exact ht);simp only[Env.put,h1,if_false];by_cases hto:Operand.tmp t∈oj.op.operands
    ·rw[f2 t hto];rcases hf'.off t with e|⟨_,e2,_⟩
     ·rw[e];exact agree t (kx hto)
     ·exact absurd (kx hto) (hP t e2 (kx ht))
    ·exact f3 t hto
   obtain⟨τ4,k1,k2,k3⟩:=hf.same _ agree2
   have hfin:σij=τ4.put d true (.val v):=by
    rw[hf'.eq]
    funext t
    have c1:Operand.tmp t∉oj.op.operands->τ' t=σi t:=fun h=>by
     rcases hf'.off t with e|⟨e,_⟩
     ·exact e
     ·exact absurd e h
    have c2:Operand.tmp t∉oi.op.operands->τ t=σ t:=fun h=>by
     rcases hf.off t with e|⟨e,_⟩
     ·exact e
     ·exact absurd e h
    by_cases h1:t=d
    ·subst h1;have e1:τ' t=(τ.put t true (.val v)) t:=by rw[c1 nd,hf.eq]
     have e2:(τ4 t).ver=(τ t).ver:=by
      by_cases hto:Operand.tmp t∈oi.op.operands
      ·rw[k2 t hto]
      ·rw[k3 t hto,c2 hto];simp only[Env.put,hne,if_false,f3 t nd]
     simp only[Env.put,hne,if_false,if_true,e1,e2]
    ·by_cases h2:t=d'
     ·subst h2;have e1:τ4 t=(τ3.put t true (.val v')) t:=k3 t ndj
      have e2:(τ3 t).ver=(τ' t).ver:=by
       by_cases hto:Operand.tmp t∈oj.op.operands
       ·rw[f2 t hto]
       ·rw[f3 t hto,c1 hto,hf.eq];simp only[Env.put,h1,if_false,hτj]
      simp only[Env.put,h1,if_false,if_true,e1,e2]
     ·simp only[Env.put,h1,h2,if_false];have e0:σi t=τ t:=(by rw[hf.eq];simp[Env.put,h1]);by_cases hti:Operand.tmp t∈oi.op.operands
      ·rw[k2 t hti];by_cases htj:Operand.tmp t∈oj.op.operands
       ·have e3:=agree t (kx htj);rcases hf'.off t with e|⟨_,e2,_⟩
        ·rw[e,e0]
        ·exact absurd (kx htj) (hP t e2 (kx hti))
       ·rw[c1 htj,e0]
      ·rw[k3 t hti];simp only[Env.put,h2,if_false];by_cases htj:Operand.tmp t∈oj.op.operands
       ·rw[f2 t htj]
       ·rw[f3 t htj,c1 htj,e0,c2 hti]
   refine⟨_,.inr ⟨rfl,f1⟩,.inr ⟨rfl,by rw[hfin];exact k1⟩,hod,?_⟩;refine zeJ ?_ hoi;simp only[Env.put,hne,if_false];exact f3 d nd
theorem Env.put_mod{d s:Nat}{g:Bool}{A:Go.Ax.A}{x:V}(h:s≠d):(σ.put d g A).mod s x=(σ.mod s x).put d g A:=by
 funext t
 by_cases h1:t=d
 ·subst h1;simp[Env.put,Env.mod,Ne.symm h]
 ·by_cases h2:t=s
  ·subst h2;simp[Env.put,Env.mod,h1]
  ·simp[Env.put,Env.mod,h1,h2]
theorem Env.put_put{d e:Nat}{g g':Bool}{A B:Go.Ax.A}(h:d≠e):(σ.put d g A).put e g' B=(σ.put e g' B).put d g A:=by
 funext t
 by_cases h1:t=d
 ·subst h1;simp[Env.put,h]
 ·by_cases h2:t=e
  ·subst h2;simp[Env.put,h1]
  ·simp[Env.put,h1,h2]
theorem zrK{P:Program}{τ:Env}{ty:TypeId}{t:Nat}(h:σ t=τ t):opd P σ ty (.tmp t)=opd P τ ty (.tmp t):=by simp only[opd,h]
theorem zBx{τ:Env}{P:Program}{ty:TypeId}{t:Nat}{z:V}{g:Bool}{B:A}(h:σ t=τ t)(hz:(σ t).a=.val z)(ho:opd P σ ty (.tmp t)=some (g,B)):B.look σ=B.look τ/\B.okA σ=B.okA τ:=by
 simp only[opd,hz]at ho;split at ho
 ·simp only[za,zb]at ho;obtain⟨_,rfl⟩:=ho;have e:σ.own t (σ t).ver=τ.own t (σ t).ver:=by unfold Env.own;rw[h]
  exact⟨by simp only[A.look,e],by simp only[A.okA,e]⟩
 ·simp only[za,zb]at ho;obtain⟨_,rfl⟩:=ho;exact⟨rfl,rfl⟩
theorem zwS{oj:Oper}{di dj:Nat}{g:Bool}{A:A}{pj:Prop}{σij:Env}(hw:Wf σ)(hdj:oj.dst=some dj)(hne:di≠dj)(hdo:∀t,Operand.tmp t∈oj.op.operands->t≠di)
 (hj:qv C (σ.put di g A) oj=some (pj,σij)) (hl:znG C PS (σ.put di g A) oj):
 ∃σj,qv C σ oj=some (pj,σj)/\znG C PS σ oj/\σij=σj.put di g A/\(∀t,t≠dj->((σ t).owner=true/\t+800∈PS)\/σj t=σ t):=by
 obtain⟨args,ats,tx,ty,t,t',s,ver,i,q,r,z,hg,hop,hargs,hats,hsc,hx,hown,hr,hsy,hz,hsp⟩:=hl
 have mem:∀x,x∈args.toList->x∈oj.op.operands:=fun x hx=>by
  rw[hop];simpa [Op.operands,Call.operands]using hx
 have htx:tx≠di:=hdo tx (mem _ (by rw[hargs];simp));have hty:ty≠di:=hdo ty (mem _ (by rw[hargs];simp));have ex:(σ.put di g A) tx=σ tx:=by simp[Env.put,htx]
 have ey:(σ.put di g A) ty=σ ty:=by simp[Env.put,hty]
 have hs:s≠di:=by
  intro e;subst e;rw[ex]at hx;have h1:=hw tx s ver (by rw[hx];rfl);rw[Env.own_put_eq h1]at hown;cases hown
 have hx':(σ tx).a=.rf s ver (i::q):=by rw[<-ex];exact hx
 have hz':(σ ty).a=.val z:=by rw[<-ey];exact hz
 have hown':σ.own s ver=some r:=by rw[Env.own_put_ne hs]at hown;exact hown
 have tk:∀τ:Env,τ.own s ver=some r->qY τ (.rf s ver (i::q))=some (r.okm (i::q)/\(r.at (i::q)).isH=true,r.at (i::q),τ.mod s (r.upd (i::q) (.hole 1))):=by
  intro τ hτ;simp only[qY,hτ]
 have hL:znG C PS σ oj:=⟨args,ats,tx,ty,t,t',s,ver,i,q,r,z,hg,hop,hargs,hats,hsc,hx',hown',hr,hsy,hz',hsp⟩
 have ox:∀τ:Env,τ tx=σ tx->opd C.P τ t (.tmp tx)=some ((σ tx).g,.rf s ver (i::q)):=by
  intro τ hτ;simp only[opd,hτ,hx']
 obtain⟨r',hr'⟩:∃r',r'=r.upd (i::q) (.hole 1):=⟨_,rfl⟩;have em:((σ.put di g A).mod s r') ty=(σ.mod s r') ty:=by rw[Env.put_mod hs];simp[Env.put,hty]
 have ez:((σ.put di g A).mod s r' ty).a=.val z:=by rw[em];simp[Env.mod,Ne.symm hsy,hz']
 unfold qv at hj ⊢;simp only[hg,hop,hdj,hargs,hats]at hj ⊢;rw[ox _ ex]at hj;split at hj
 ·rename_i htt;split at hj
  ·rename_i e gx B he hB;simp only[za,zb]at hB;obtain⟨rfl,rfl⟩:=hB;rw[tk _ hown,<-hr']at hj;split at hj
   ·rename_i qq e' dd es σ1 hm;simp only[za,zb]at hm;obtain⟨hq,hat,rfl⟩:=hm;split at hj
    ·rename_i gy B hB;obtain⟨hlk,hok⟩:=zBx em ez hB;split at hj
     ·rename_i zz oy ey d2 es2 hz0 hlo;split at hj
      ·rename_i hc;have hns:¬(oy&& !zaY C.P e)=true:=(by rw[hsc e he];simp);rw[if_neg hns]at hj;simp only[za,zb]at hj;obtain⟨hpj,rfl⟩:=hj;have hB':opd C.P (σ.mod s r') t (.tmp ty)=some (gy,B):=(by rw[<-zrK em];exact hB);refine⟨(σ.mod s r').put dj true (.val (.slc true e dd (es++es2))),?_,hL,?_,fun u hu=>?_⟩
       ·rw[if_pos htt];simp only[he,ox σ rfl,tk σ hown',hat,<-hr',hB',hz0,<-hlk,hlo];rw[if_pos hc,if_neg hns,<-hpj,<-hok,<-hq,hat]
       ·rw[Env.put_mod hs,Env.put_put hne]
       ·by_cases hus:u=s
        ·obtain⟨h1,_,h3,h4⟩:=Env.own_iff'.1 hown';exact .inl ⟨by rw[hus];simp[E.owner,h1,h3,h4],by rw[hus];exact hsp⟩
        ·exact .inr (by simp[Env.put,Env.mod,hu,hus])
      ·cases hj
     ·cases hj
    ·cases hj
   ·cases hj
  ·cases hj
 ·cases hj
theorem Env.put_bmp{d s:Nat}{g:Bool}{A:Go.Ax.A}{x:V}(h:s≠d):(σ.put d g A).bmp s x=(σ.bmp s x).put d g A:=by
 funext t
 by_cases h1:t=d
 ·subst h1;simp[Env.put,Env.bmp,Ne.symm h]
 ·by_cases h2:t=s
  ·subst h2;simp[Env.put,Env.bmp,h1]
  ·simp[Env.put,Env.bmp,h1,h2]
theorem zwT{oj:Oper}{di:Nat}{g:Bool}{A:A}{pj:Prop}{σij:Env}(hw:Wf σ)(hdo:∀t,Operand.tmp t∈oj.op.operands->t≠di)
 (hj:qv C (σ.put di g A) oj=some (pj,σij)) (hl:zjr PS (σ.put di g A) oj):
 ∃σj,qv C σ oj=some (pj,σj)/\zjr PS σ oj/\σij=σj.put di g A/\(∀t,((σ t).owner=true/\t+800∈PS)\/σj t=σ t):=by
 obtain⟨t,tx,tv,s,ver,p,r,y,hg,hdn,hop,hx,hown,hsp,hy,hyo⟩:=hl;have htx:tx≠di:=hdo tx (by rw[hop];simp[Op.operands]);have htv:tv≠di:=hdo tv (by rw[hop];simp[Op.operands]);have ex:(σ.put di g A) tx=σ tx:=by simp[Env.put,htx]
 have ev:(σ.put di g A) tv=σ tv:=by simp[Env.put,htv]
 have hs:s≠di:=by
  intro e;subst e;rw[ex]at hx
  have h1:ver<=(σ s).ver:=by
   rcases hx with hx|hx|hx
   ·exact hw tx s ver (by rw[hx];rfl)
   ·exact hw tx s ver (by rw[hx];rfl)
   ·exact absurd hx.1 htx
  rw[Env.own_put_eq h1]at hown;cases hown
 rw[ex]at hx;rw[ev]at hy;have hown':σ.own s ver=some r:=by rw[Env.own_put_ne hs]at hown;exact hown
 have hL:zjr PS σ oj:=⟨t,tx,tv,s,ver,p,r,y,hg,hdn,hop,hx,hown',hsp,hy,hyo⟩;obtain⟨o1,_,o3,o4⟩:=Env.own_iff'.1 hown';have hso:(σ s).owner=true:=by simp[E.owner,o1,o3,o4]
 have ov:∀τ:Env,τ tv=σ tv->opd C.P τ t (.tmp tv)=some ((σ tv).g,.val y):=by
  intro τ hτ;simp only[opd,hτ,hy];rw[if_neg (by rw[hyo];simp)]
 have mk:∀r':V,(∀t,((σ t).owner=true/\t+800∈PS)\/(σ.mod s r') t=σ t)/\(∀t,((σ t).owner=true/\t+800∈PS)\/(σ.bmp s r') t=σ t):=by
  intro r';refine⟨fun u=>?_,fun u=>?_⟩
  ·by_cases hu:u=s
   ·exact .inl ⟨by rw[hu];exact hso,by rw[hu];exact hsp⟩
   ·exact .inr (by simp[Env.mod,hu])
  ·by_cases hu:u=s
   ·exact .inl ⟨by rw[hu];exact hso,by rw[hu];exact hsp⟩
   ·exact .inr (by simp[Env.bmp,hu])
 unfold qv at hj ⊢;simp only[hg,hop,hdn]at hj ⊢;rw[ov _ ev]at hj;rw[ov _ rfl];simp only[qY]at hj ⊢
 have hx':(σ tx).a=.ad s ver p\/∀τ:Env,τ tx=σ tx->opd C.P τ 0 (.tmp tx)=some ((σ tx).g,.rf s ver p):=by
  rcases hx with hx|hx|⟨rfl,rfl⟩
  ·exact .inl hx
  ·exact .inr fun τ hτ=>by simp only[opd,hτ,hx]
  ·refine .inr fun τ hτ=>?_;obtain⟨_,o2,o3,o4⟩:=Env.own_iff'.1 hown';simp only[opd,hτ,o3];rw[if_pos o4,o2]
 rcases hx' with hx|ox
 ·have ox:∀τ:Env,τ tx=σ tx->opd C.P τ 0 (.tmp tx)=some ((σ tx).g,.ad s ver p):=by
   intro τ hτ;simp only[opd,hτ,hx]
  rw[ox _ ex]at hj;rw[ox _ rfl];simp only[hown,hown']at hj ⊢;split at hj
  ·rename_i hc;rw[if_pos hc];simp only[za,zb]at hj;obtain⟨hpj,rfl⟩:=hj;refine⟨_,by rw[hpj],hL,?_,?_⟩
   ·split
    ·exact Env.put_mod hs
    ·exact Env.put_bmp hs
   ·split
    ·exact(mk _).1
    ·exact(mk _).2
  ·cases hj
 ·rw[ox _ ex]at hj;rw[ox _ rfl];simp only[hown,hown']at hj ⊢;split at hj
  ·split at hj
   ·rename_i hc;rw[if_pos hc];simp only[za,zb]at hj;obtain⟨hpj,rfl⟩:=hj;refine⟨_,by rw[hpj],hL,?_,?_⟩
    ·split
     ·exact Env.put_mod hs
     ·exact Env.put_bmp hs
    ·split
     ·exact(mk _).1
     ·exact(mk _).2
   ·cases hj
  ·cases hj
theorem Env.put_drp{d s:Nat}{g:Bool}{A:Go.Ax.A}(h:s≠d):(σ.put d g A).drp s=(σ.drp s).put d g A:=by
 funext t
 by_cases h1:t=d
 ·subst h1;simp[Env.put,Env.drp,Ne.symm h]
 ·by_cases h2:t=s
  ·subst h2;simp[Env.put,Env.drp,h1]
  ·simp[Env.put,Env.drp,h1,h2]
theorem zdl{α:Type}:∀{j:Nat} {l:List α} {x:α},KB j l=some x->x∈l
 |_,[],_,h=>by simp[KB]at h
 |0,y::l,x,h=>by simp only[KB,za]at h;subst h;simp
 |j+1,y::l,x,h=>by simp only[KB]at h;exact zx _ (zdl h)
theorem zbI{α:Type}:∀{j:Nat} {l:List α} {x:α},x∈qT j l->x∈l
 |_,[],_,h=>by simp[qT]at h
 |0,y::l,x,h=>by simp only[qT]at h;exact zx _ h
 |j+1,y::l,x,h=>by
  simp only[qT]at h;rcases zC.1 h with e|h
  ·rw[e];simp
  ·exact zx _ (zbI h)
theorem zBy{oj:Oper}{di:Nat}{g:Bool}{A:A}{pj:Prop}{σij:Env}(hw:Wf σ)(hne:∀dj,oj.dst=some dj->di≠dj)(hdo:∀t,Operand.tmp t∈oj.op.operands->t≠di)
 (hj:Yn C (σ.put di g A) oj=some (pj,σij)) (hl:zaW C PS (σ.put di g A) oj):
 ∃σj,Yn C σ oj=some (pj,σj)/\zaW C PS σ oj/\σij=σj.put di g A/\(∀t,oj.dst≠some t->((σ t).owner=true/\t+800∈PS)\/σj t=σ t):=by
 obtain⟨k,args,ats,j,c,x,gx,s,ver,d,hg,hop,hd,hΨ,hx,hr,hsp,hpl⟩:=hl
 have mem:∀x,x∈args.toList->x∈oj.op.operands:=fun x hx=>by
  rw[hop];have:x∈args:=by simpa using hx
  simp[Op.operands,Call.operands,this]
 have hxd:x≠di:=hdo x (mem _ (zdl hx));have hds:di≠d:=hne d hd;have es:(σ.put di g A) x=σ x:=by simp[Env.put,hxd]
 have hr':opd C.P σ 0 (.tmp x)=some (gx,.rf s ver []):=by rw[<-zrK es];exact hr
 obtain⟨r0,hown0⟩:∃r0,(σ.put di g A).own s ver=some r0:=by
  cases ho:(σ.put di g A).own s ver with
  |some r0=>exact⟨r0,rfl⟩
  |none=>
   exfalso;unfold Yn at hj;simp only[hg,hop,hΨ,hx,hr,Ka,ho]at hj;cases hj
 have hs:s≠di:=by
  intro e;subst e;rw[Env.own_put_eq (Za hw hr' _ _ rfl)]at hown0;cases hown0
 have hown:σ.own s ver=some r0:=by rw[Env.own_put_ne hs]at hown0;exact hown0
 have hpl':∀t,Operand.tmp t∈qT (j%1000) args.toList->∃z,(σ t).a=.val z:=fun t ht=>by
  obtain⟨z,hz⟩:=hpl t ht;have:t≠di:=hdo t (mem _ (zbI ht));exact⟨z,by simpa [Env.put,this]using hz⟩
 have hL:zaW C PS σ oj:=⟨k,args,ats,j,c,x,gx,s,ver,d,hg,hop,hd,hΨ,hx,hr',hsp,hpl'⟩
 have lk:∀{z:Prop×List V×Bool},Ym C.P ((σ.put di g A).drp s) true (qT (j%1000) args.toList) (qT (j%1000) ats.toList)=some z->Ym C.P (σ.drp s) true (qT (j%1000) args.toList) (qT (j%1000) ats.toList)=some z:=by
  intro z hz
  have same:∀t,Operand.tmp t∈qT (j%1000) args.toList->((σ.put di g A).drp s) t=(σ.drp s) t:=fun t ht=>by
   have:t≠di:=hdo t (mem _ (zbI ht));rw[Env.put_drp hs];simp[Env.put,this]
  refine zd6 (fun ty x gx A' s' ver y hx ho hrr hy=>?_) (fun ty x hx=>?_) hz
  ·rcases zgP ho hrr with e|⟨t,e,e'⟩
   ·subst e;have:=same s' hx;unfold Env.own at hy ⊢;rw[<-this];exact hy
   ·subst e;exfalso;obtain⟨z,hz⟩:=hpl' t hx;rw[same t hx]at e';by_cases hts:t=s
    ·subst hts;simp[Env.drp,Go.Ax.A.refs]at e'
    ·simp only[Env.drp,hts,if_false,hz,Go.Ax.A.refs]at e';cases e'
  ·cases x with
   |tmp t=>simp only[opd,same t hx]
   |_=>rfl
 unfold Yn at hj ⊢;simp only[hg,hop,hd,hΨ,hx,hr,hr',Ka,hown0,hown]at hj ⊢;by_cases hH:r0.isH=true
 ·simp only[hH,if_true]at hj ⊢;split at hj
  ·rename_i pl vs br hlk;rw[lk hlk];dsimp only;split at hj
   ·rename_i q2 rr y' hc;try rw[hc]
    try dsimp only
    by_cases hbr:((br&& !(rr.noFz&&y'.noFz))||(jw j&& !(zap (.rf s ver [])&&r0.bare)))=true
    ·rw[if_pos hbr]at hj;cases hj
    ·rw[if_neg hbr]at hj ⊢;by_cases hdd:C.dst d
     ·rw[if_pos hdd]at hj ⊢;simp only[za,zb]at hj;obtain⟨hp,rfl⟩:=hj;refine⟨_,by rw[hp],hL,?_,fun t ht=>?_⟩
      ·rw[Env.put_mod hs,Env.put_put hds]
      ·by_cases hts:t=s
       ·subst hts;obtain⟨o1,_,o3,o4⟩:=Env.own_iff'.1 hown;exact .inl ⟨by simp[E.owner,o1,o3,o4],hsp⟩
       ·have:t≠d:=fun e=>ht (by rw[e]);exact .inr (by simp[Env.put,Env.mod,hts,this])
     ·rw[if_neg hdd]at hj;cases hj
   ·cases hj
  ·cases hj
 ·simp only[hH]at hj;cases hj
theorem zBC{oj:Oper}{di:Nat}{g:Bool}{A:A}{pj:Prop}{σj:Env}(hne:∀dj,oj.dst=some dj->di≠dj)(hdo:∀t,Operand.tmp t∈oj.op.operands->t≠di)
 (hsd:∀x s ver gx r,Operand.tmp x∈oj.op.operands->opd C.P σ 0 (.tmp x)=some (gx,.rf s ver [])->σ.own s ver=some r->s≠di)
 (hj:Yn C σ oj=some (pj,σj)) (hl:zaW C PS σ oj):
 Yn C (σ.put di g A) oj=some (pj,σj.put di g A)/\zaW C PS (σ.put di g A) oj:=by
 obtain⟨k,args,ats,j,c,x,gx,s,ver,d,hg,hop,hd,hΨ,hx,hr,hsp,hpl⟩:=hl
 have mem:∀x,x∈args.toList->x∈oj.op.operands:=fun x hx=>by
  rw[hop];have:x∈args:=by simpa using hx
  simp[Op.operands,Call.operands,this]
 have hxd:x≠di:=hdo x (mem _ (zdl hx));have hds:di≠d:=hne d hd;have es:(σ.put di g A) x=σ x:=by simp[Env.put,hxd]
 have hr':opd C.P (σ.put di g A) 0 (.tmp x)=some (gx,.rf s ver []):=by rw[zrK es];exact hr
 obtain⟨r0,hown⟩:∃r0,σ.own s ver=some r0:=by
  cases ho:σ.own s ver with
  |some r0=>exact⟨r0,rfl⟩
  |none=>
   exfalso;unfold Yn at hj;simp only[hg,hop,hΨ,hx,hr,Ka,ho]at hj;cases hj
 have hs:s≠di:=hsd x s ver gx r0 (mem _ (zdl hx)) hr hown;have hown0:(σ.put di g A).own s ver=some r0:=by rw[Env.own_put_ne hs];exact hown
 have hpl':∀t,Operand.tmp t∈qT (j%1000) args.toList->∃z,((σ.put di g A) t).a=.val z:=fun t ht=>by
  obtain⟨z,hz⟩:=hpl t ht;have:t≠di:=hdo t (mem _ (zbI ht));exact⟨z,by simpa [Env.put,this]using hz⟩
 have hL:zaW C PS (σ.put di g A) oj:=⟨k,args,ats,j,c,x,gx,s,ver,d,hg,hop,hd,hΨ,hx,hr',hsp,hpl'⟩
 have lk:∀{z:Prop×List V×Bool},Ym C.P (σ.drp s) true (qT (j%1000) args.toList) (qT (j%1000) ats.toList)=some z->Ym C.P ((σ.put di g A).drp s) true (qT (j%1000) args.toList) (qT (j%1000) ats.toList)=some z:=by
  intro z hz
  have same:∀t,Operand.tmp t∈qT (j%1000) args.toList->((σ.put di g A).drp s) t=(σ.drp s) t:=fun t ht=>by
   have:t≠di:=hdo t (mem _ (zbI ht));rw[Env.put_drp hs];simp[Env.put,this]
  refine zd6 (fun ty x gx A' s' ver y hx ho hrr hy=>?_) (fun ty x hx=>?_) hz
  ·rcases zgP ho hrr with e|⟨t,e,e'⟩
   ·subst e;have:=same s' hx;unfold Env.own at hy ⊢;rw[this];exact hy
   ·subst e;exfalso;obtain⟨z,hz⟩:=hpl t hx;by_cases hts:t=s
    ·subst hts;simp[Env.drp,Go.Ax.A.refs]at e'
    ·simp only[Env.drp,hts,if_false,hz,Go.Ax.A.refs]at e';cases e'
  ·cases x with
   |tmp t=>simp only[opd,same t hx]
   |_=>rfl
 refine⟨?_,hL⟩;unfold Yn at hj ⊢;simp only[hg,hop,hd,hΨ,hx,hr,hr',Ka,hown0,hown]at hj ⊢;by_cases hH:r0.isH=true
 ·simp only[hH,if_true]at hj ⊢;split at hj
  ·rename_i pl vs br hlk;rw[lk hlk];dsimp only;split at hj
   ·rename_i q2 rr y' hc;try rw[hc]
    try dsimp only
    by_cases hbr:((br&& !(rr.noFz&&y'.noFz))||(jw j&& !(zap (.rf s ver [])&&r0.bare)))=true
    ·rw[if_pos hbr]at hj;cases hj
    ·rw[if_neg hbr]at hj ⊢;by_cases hdd:C.dst d
     ·rw[if_pos hdd]at hj ⊢;simp only[za,zb]at hj ⊢;obtain⟨hp,rfl⟩:=hj;exact⟨hp,by rw[Env.put_mod hs,Env.put_put hds]⟩
     ·rw[if_neg hdd]at hj;cases hj
   ·cases hj
  ·cases hj
 ·simp only[hH]at hj;cases hj
theorem zx1{o:Oper}{p:Prop}(h:Yn C σ o=some (p,σ'))(hl:zaW C PS σ o):∃s ver d y r r0 x gx,o.dst=some d/\Operand.tmp x∈o.op.operands/\opd C.P σ 0 (.tmp x)=some (gx,.rf s ver [])/\σ.own s ver=some r0/\σ'=(σ.mod s y).put d true (.val r):=by
 obtain⟨k,args,ats,j,c,x,gx,s,ver,d,hg,hop,hd,hΨ,hx,hr,hsp,_⟩:=hl
 have mem:Operand.tmp x∈o.op.operands:=by
  rw[hop];have:Operand.tmp x∈args:=by simpa using zdl hx
  simp[Op.operands,Call.operands,this]
 unfold Yn at h;simp only[hg,hop,hd,hΨ,hx,hr,Ka]at h
 cases hown:σ.own s ver with
 |none=>rw[hown]at h;cases h
 |some r0=>
  rw[hown]at h;by_cases hH:r0.isH=true
  ·simp only[hH,if_true]at h;split at h
   ·rename_i pl vs br hlk;split at h
    ·rename_i q2 rr y' hc;by_cases hbr:((br&& !(rr.noFz&&y'.noFz))||(jw j&& !(zap (.rf s ver [])&&r0.bare)))=true
     ·rw[if_pos hbr]at h;cases h
     ·rw[if_neg hbr]at h;by_cases hdd:C.dst d
      ·rw[if_pos hdd]at h;simp only[za,zb]at h;exact⟨s,ver,d,_,_,r0,x,gx,hd,mem,hr,hown,h.2.symm⟩
      ·rw[if_neg hdd]at h;cases h
    ·cases h
   ·cases h
  ·simp only[hH]at h;cases h
def zna(PS:List Nat)(x y:Oper):Bool:=match x.op,y.op,y.dst with
 | .call ⟨.value (.func _),_,_⟩,.alloc _,some d=>y.guard.isNone&&PS.contains d
 |_,_,_=>false
theorem zuB{x y:Oper}(h:zna PS x y=true):(∃k args ats,x.op=.call ⟨.value (.func k),args,ats⟩)/\(∃t,y.op=.alloc t)/\y.guard=none/\∃d,y.dst=some d/\d∈PS:=by
 unfold zna at h;split at h
 ·rename_i h1 h2 h3;simp only[zh,Option.isNone_iff_eq_none,List.contains_iff_mem]at h;exact⟨⟨_,_,_,h1⟩,⟨_,h2⟩,h.1,_,h3,h.2⟩
 ·cases h
theorem zhI{di:Nat}{g:Bool}{A:Go.Ax.A}:∀(l:List Nat) (σ:Env),(∀t∈l,t≠di)->Yy (σ.put di g A) l=(Yy σ l).put di g A
 |[],_,_=>rfl
 |t::l,σ,h=>by
  have ht:t≠di:=h t (by simp);have e:(σ.put di g A) t=σ t:=by simp[Env.put,ht]
  simp only[Yy,e,Env.own_put_ne ht];split
  ·rename_i y hy;have:((σ.put di g A).drp t).put t true (.val y.frz)=((σ.drp t).put t true (.val y.frz)).put di g A:=(by rw[Env.put_drp ht,Env.put_put (Ne.symm ht)]);rw[this,zhI l _ (fun s hs=>h s (by simp[hs]))]
  ·exact zhI l σ (fun s hs=>h s (by simp[hs]))
theorem zzJ{oj:Oper}{di:Nat}{g:Bool}{A:A}{pj:Prop}{σij:Env}(hw:Wf σ)(hne:∀dj,oj.dst=some dj->di≠dj)(hdo:∀t,Operand.tmp t∈oj.op.operands->t≠di)
 (hj:zds C PS (σ.put di g A) oj pj σij):
 ∃σj,zds C PS σ oj pj σj/\σij=σj.put di g A/\(∀t,oj.dst≠some t->((σ t).owner=true/\t+800∈PS)\/σj t=σ t):=by
 obtain⟨l,h1,h2,h3,h4⟩:=hj;rw[zhI l σ (fun t ht=>hdo t (h2 t ht).2)]at h3 h4;obtain⟨σj,e1,e2,e3,e4⟩:=zBy ((zby l σ).1.wf hw) hne hdo h3 h4;refine⟨σj,⟨l,h1,h2,e1,e2⟩,e3,fun t ht=>?_⟩;rcases zhJ l σ t with h|⟨h,h'⟩
 ·rcases e4 t ht with⟨h5,h6⟩|h5
  ·exact .inl ⟨by rw[<-h];exact h5,h6⟩
  ·exact .inr (h5.trans h)
 ·exact .inl ⟨h,(h2 t h').1⟩
theorem zzL{oj:Oper}{di:Nat}{g:Bool}{A:A}{pj:Prop}{σij:Env}(hw:Wf σ)(hne:∀dj,oj.dst=some dj->di≠dj)(hdo:∀t,Operand.tmp t∈oj.op.operands->t≠di)(hlb:ZR PS oj=true)
 (hj:qv C (σ.put di g A) oj=some (pj,σij)) (hl:zqZ C PS (σ.put di g A) oj):
 ∃σj,qv C σ oj=some (pj,σj)/\zqZ C PS σ oj/\σij=σj.put di g A/\(∀t,oj.dst≠some t->((σ t).owner=true/\t+800∈PS)\/σj t=σ t):=by
 rcases hl with hl|hl
 ·cases hd:oj.dst with
  |none=>
   exfalso;obtain⟨args,ats,_,_,_,_,_,_,_,_,_,_,hg,hop,hargs,hats,_⟩:=hl;unfold qv at hj;simp only[hg,hop,hd]at hj;cases hj
  |some dj=>
   obtain⟨σj,w1,w2,w3,w4⟩:=zwS hw hd (hne dj hd) hdo hj hl;exact⟨σj,w1,.inl w2,w3,fun t ht=>w4 t (fun e=>ht (by rw[e]))⟩
 ·obtain⟨σj,w1,w2,w3,w4⟩:=zwT hw hdo hj hl;exact⟨σj,w1,.inr w2,w3,fun t _=>w4 t⟩
def zw8(ops:Array Oper)(PS:List Nat):Bool:=
 (List.range ops.size).all fun j=>(List.range j).all fun i=>match ops[i]?,ops[j]? with
  |some x,some y=>PS.all fun s=> !((x.looksAt ops).contains s&&(y.looksAt ops).contains s)
  |_,_=>false
theorem zqm(h:zw8 ops PS=true){i j:Nat}{x y:Oper}(hne:i≠j)(hx:ops[i]? =some x)(hy:ops[j]? =some y):∀s∈PS,s∈x.looksAt ops->s∉y.looksAt ops:=by
 have key:∀(i j:Nat) (x y:Oper),i<j->ops[i]? =some x->ops[j]? =some y->∀s∈PS,s∈x.looksAt ops->s∉y.looksAt ops:=by
  intro i j x y hij hx hy s hs h1 h2;have hj:j<ops.size:=(yQ.1 hy).1;have:=yd.1 h j (by simpa using hj);have:=yd.1 this i (by simpa using hij);rw[hx,hy]at this;have:=yd.1 this s hs;simp[h1,h2]at this
 rcases Yk hne with h1|h1
 ·exact key i j x y h1 hx hy
 ·exact fun s hs h2 h3=>key j i y x h1 hy hx s hs h3 h2
def evM(C:Ctx)(ops:Array Oper)(PS:List Nat):List Oper->List Bool->Env->(Env->Prop)->Prop
 |o::l,t::ts,σ,K=>∃p σ',zci C ops PS t σ o p σ'/\p/\evM C ops PS l ts σ' K
 |[],_,σ,K=>K σ
 |_::_,[],_,_=>False
def StM(C:Ctx)(ops:Array Oper)(PS:List Nat)(ts:List Bool)(i:Nat)(σ σ':Env):Prop:=∃o p,ops[i]? =some o/\zci C ops PS (ts.getD i true) σ o p σ'/\p
theorem znA(hC:Ya C)(hIO:IOk C){ts:List Bool}{K:Env->Prop}{Q:Exit->Act->World->Prop}(hK:∀σ a w,K σ->G C σ a w->Q .normal a w):∀(n:Nat) (listed:Array Bool) (σ:Env) (a:Act) (w:World),zhV (StM C ops PS ts) ops K n listed σ->G C σ a w->
 wpAny C.P .any ops Q n listed a w
 |0,_,σ,a,w,h,hG=>⟨h.1,hK σ a w h.2 hG⟩
 |n+1,listed,σ,a,w,h,hG=>by
  refine⟨fun h0=>hK σ a w (h.1 h0) hG,fun i hi=>?_⟩;obtain⟨σ',⟨o,p,ho,hs,hp⟩,h2⟩:=h.2 i hi;exact wpOp_mono (fun a' w' hG'=>znA hC hIO hK n _ σ' a' w' h2 hG') (zuf hC hIO ho hs hp hG)
def ziV:Op->Bool
 | .move _=>true
 |_=>false
def ze7(ops:Array Oper):List Nat->Array Bool->Bool
 |[],_=>true
 |i::H,listed=>(match ops[i]? with
  |some o=>ziV o.op&&o.guard.isNone
  |none=>false)&&Region.free .any ops listed i&&(Region.ready .any ops listed).contains i&&ze7 ops H (listed.setIfInBounds i true)
def hev(C:Ctx)(ops:Array Oper)(PS:List Nat):List Nat->Env->(Env->Prop)->Prop
 |[],σ,K=>K σ
 |i::H,σ,K=>∃o p σ',ops[i]? =some o/\qm C ops σ o=some (p,σ')/\Jy PS σ' o/\p/\hev C ops PS H σ' K
def zbL(l:Array Bool):List Nat->Array Bool
 |[]=>l
 |i::H=>zbL (l.setIfInBounds i true) H
theorem zzF(hC:Ya C){o:Oper}{i:Nat}(hi:ops[i]? =some o)(hm:ziV o.op=true)(hg:o.guard=none){p:Prop}(h:qm C ops σ o=some (p,σ'))(hp:p)(hG:G C σ a w):
 ∃v,Yields C.P ops o v a/\G C σ' (a.put o.dst v) w:=by
 obtain⟨F,O,hI⟩:=hG
 have hx:∃x,o.op=.move x:=by
  revert hm;cases o.op<;>simp[ziV]
 obtain⟨x,hx⟩:=hx;have hrun:∀w,(execOp a.eval o).run C.P w=.ok (.value (a.eval x)) w:=fun w=>by simp[execOp,hx]
 have hw:Region.wanted o (yielded ops a.tmps)=true:=by unfold Region.wanted;rw[hg]
 refine⟨a.eval x,.inl ⟨hw,hrun⟩,?_⟩;have h1:=YH hC hI hi h hp (Q:=fun _ _ _=>False);unfold wpOp at h1;rw[hi]at h1;dsimp only at h1;rw[hw,if_pos rfl]at h1;rcases h1 with h1|⟨_,_,_,h1⟩
 ·unfold Oper.wp at h1;rw[hrun,Oper.upon_value]at h1;exact h1
 ·exact h1.elim
theorem zkN(hC:Ya C){K:Env->Prop}{Q:Exit->Act->World->Prop}(hs:Region.noSelect ops=true)(hQ:∀c a w,¬Q (.panic c) a w){fuel:Nat}:
 ∀(H:List Nat) (listed:Array Bool) (σ:Env) (a:Act),ze7 ops H listed=true->hev C ops PS H σ K->Wf σ/\NR PS σ->G C σ a w->(∀σ' a',K σ'->Wf σ'/\NR PS σ'->G C σ' a' w->wpAny C.P .any ops Q fuel (zbL listed H) a' w)->wpAny C.P .any ops Q (fuel+H.length) listed a w
 |[],listed,σ,a,_,h,hw,hG,hk=>hk σ a h hw hG
 |i::H,listed,σ,a,hc,h,hw,hG,hk=>by
  simp only[ze7,zh]at hc;obtain⟨⟨⟨h1,h2⟩,h3⟩,h4⟩:=hc;obtain⟨o,p,σ',ho,hl,hro,hp,hh⟩:=h;rw[ho]at h1;simp only[zh,Option.isNone_iff_eq_none]at h1;obtain⟨v,hy,hG'⟩:=zzF hC ho h1.1 h1.2 hl hp hG;exact wpAny_take ho hs h2 h3 (fun c a w hq=>(hQ c _ _ hq).elim) hy (zkN hC hs hQ H _ σ' _ h4 hh ⟨zcA hw.1 hl,zhC hw.2 hw.1 hl hro⟩ hG' hk)
def evI(C:Ctx)(ops:Array Oper)(PS:List Nat)(ts:List Bool):List Nat->Env->(Env->Prop)->Prop
 |[],σ,K=>K σ
 |k::R,σ,K=>∃o p σ',ops[k]? =some o/\zci C ops PS (ts.getD k true) σ o p σ'/\p/\evI C ops PS ts R σ' K
def zoB(ops:Array Oper)(PS:List Nat)(ts:List Bool)(H:List Nat):Bool:=
 ze8 ops.toList 0&&(List.range ops.size).all fun j=>H.contains j||(List.range j).all fun i=>H.contains i||((zqM ops.toList []).getD j 0).testBit i||(!ts.getD i true&&
  (match ops[i]?,ops[j]? with|some x,some y=>x.apart ops y&&y.apart ops x&&(!ts.getD j true||(ZR PS x&&ZR PS y))|_,_=>false))||
  (ts.getD i true&& !ts.getD j true&&(match ops[i]?,ops[j]? with|some x,some y=>zna PS x y&&x.apart ops y&&y.apart ops x&&ZR PS x&&ZR PS y|_,_=>false))
theorem zry{ts:List Bool}{H:List Nat}(hk:zoB ops PS ts H=true){listed:Array Bool}(hH:∀i∈H,i<ops.size->listed.getD i true=true)(hc:zam ops listed){i j:Nat}(hi:i∈Region.ready .any ops listed)(hj:j∈Region.ready .any ops listed)(hij:i<j):
 (ts.getD i true=false/\∃x y,ops[i]? =some x/\ops[j]? =some y/\x.apart ops y=true/\y.apart ops x=true/\(ts.getD j true=false\/(ZR PS x=true/\ZR PS y=true)))\/
 (ts.getD i true=true/\ts.getD j true=false/\∃x y,ops[i]? =some x/\ops[j]? =some y/\zna PS x y=true/\x.apart ops y=true/\y.apart ops x=true/\ZR PS x=true/\ZR PS y=true):=by
 obtain⟨hju,oj,hoj,hall⟩:=mem_ready.1 hj;obtain⟨hiu,oi,hoi,_⟩:=mem_ready.1 hi;have hjn:j<ops.size:=(yQ.1 hoj).1;have hin:i<ops.size:=(yQ.1 hoi).1;simp only[zoB,zh]at hk;have h1:=yd.1 hk.2 j (by simpa using hjn);simp only[qL]at h1;rcases h1 with h1|h1
 ·have:=hH j (by simpa using h1) hjn;rw[this]at hju;cases hju
 have h2:=yd.1 h1 i (by simpa using hij);simp only[qL,zh,yD]at h2;rcases h2 with((h2|h2)|⟨h2,h4⟩)|⟨⟨h2,h3⟩,h4⟩
 ·have:=hH i (by simpa using h2) hin;rw[this]at hiu;cases hiu
 ·have hw:=zhA (ops:=ops) ops.toList [] (fun j=>by simp) (fun j i h=>by simp at h) j i h2;have:=hw.listed hc (fun o ho=>by rw[hoj]at ho;simp only[za]at ho;subst ho;exact hall);rw[zhF hiu]at this;cases this
 ·rw[hoi,hoj]at h4;simp only[zh,qL,yD]at h4;exact .inl ⟨h2,oi,oj,hoi,hoj,h4.1.1,h4.1.2,h4.2⟩
 ·rw[hoi,hoj]at h4;simp only[zh]at h4;exact .inr ⟨h2,h3,oi,oj,hoi,hoj,h4.1.1.1.1,h4.1.1.1.2,h4.1.1.2,h4.1.2,h4.2⟩
theorem zuF{St:Nat->Env->Env->Prop}{Q:Env->Prop}{I:Env->Prop}{i:Nat}{L:Array Bool->Prop}(hL:∀l j,L l->L (l.setIfInBounds j true))
 (ex:∀(listed:Array Bool) (j:Nat) (σ σi σij:Env),L listed->zam ops listed->i∈Region.ready .any ops listed->j∈Region.ready .any ops listed->j≠i->I σ->St i σ σi->St j σi σij->∃σj,St j σ σj/\St i σj σij/\I σj):
 ∀(n:Nat) (listed:Array Bool) (σ σi:Env),L listed->zam ops listed->I σ->i∈Region.ready .any ops listed->St i σ σi->zhV St ops Q n (listed.setIfInBounds i true) σi->zhV St ops Q (n+1) listed σ:=by
 intro n
 induction n with
 |zero=>
  intro listed σ σi _ _ _ hr hs H;refine⟨(fun h=>by rw[h]at hr;cases hr),fun j hj=>?_⟩;by_cases hji:j=i
  ·subst hji;exact⟨σi,hs,H⟩
  ·have:=ready_mono hj hji;rw[H.1]at this;cases this
 |succ n ih=>
  intro listed σ σi hl hc hI hr hs H;refine⟨(fun h=>by rw[h]at hr;cases hr),fun j hj=>?_⟩;by_cases hji:j=i
  ·subst hji;exact⟨σi,hs,H⟩
  ·obtain⟨σij,h1,h2⟩:=H.2 j (ready_mono hj hji);obtain⟨σj,e1,e2,e3⟩:=ex listed j σ σi σij hl hc hr hj hji hI hs h1;refine⟨σj,e1,ih (listed.setIfInBounds j true) σj σij (hL _ _ hl) ?_ e3 (ready_mono hr (Ne.symm hji)) e2 ?_⟩
   ·intro k o ho hk e he hb;by_cases hkj:k=j
    ·subst hkj;obtain⟨_,o',ho',hall⟩:=mem_ready.1 hj;rw[ho]at ho';simp only[za]at ho';subst ho';exact getD_set_true (hall e he hb)
    ·rw[getD_set_ne false (Ne.symm hkj)]at hk;exact getD_set_true (hc k o ho hk e he hb)
   ·rw[Array.setIfInBounds_comm _ _ hji];exact h2
theorem zvp{ts:List Bool}{H:List Nat}{K:Env->Prop}(hk:zoB ops PS ts H=true)(hu:zw8 ops PS=true):∀(R:List Nat) (lst:Array Bool) (σ:Env),lst.size=ops.size->(∀i,i<ops.size->(lst.getD i true=false↔i∈R))->(∀i∈R,i<ops.size)->R.Pairwise (·< ·)->(∀i∈H,i∉R)->zam ops lst->evI C ops PS ts R σ K->Wf σ/\NR PS σ->
 zhV (StM C ops PS ts) ops K R.length lst σ
 |[],lst,σ,hsz,hl,hr,hs,hH,hc,h,hw=>by
  have hK:K σ:=h;refine⟨?_,hK⟩
  cases hr:Region.ready .any ops lst with
  |nil=>rfl
  |cons x xs=>
   have hx:x∈Region.ready .any ops lst:=(by rw[hr];simp);obtain⟨h1,o,ho,_⟩:=mem_ready.1 hx;have hxn:x<ops.size:=(yQ.1 ho).1;exact absurd ((hl x hxn).1 h1) (by simp)
 |k::R,lst,σ,hsz,hl,hr,hs,hH,hc,h,hw=>by
  obtain⟨o,p,σ',ho,hst,hp,h⟩:=h;have hkn:k<ops.size:=hr k (by simp);obtain⟨hs1,hs2⟩:=List.pairwise_cons.1 hs
  have hedge:∀e∈o.after,Region.binds .any e=true->lst.getD e.on false=true:=by
   intro e he hb;have hk':=hk;simp only[zoB,zh]at hk';have h1:=za1 hk'.1 k o (by simpa using ho) e he hb;have h2:e.on<ops.size:=by omega
   have h3:e.on∉k::R:=by
    intro hm;rcases zC.1 hm with h4|h4
    ·omega
    ·have:=hs1 _ h4;omega
   have h4:lst.getD e.on true≠false:=fun h5=>h3 ((hl _ h2).1 h5);rw[zw]at h4 ⊢;rw[Array.getElem?_eq_getElem (by omega)]at h4 ⊢;simpa using h4
  have hrd:k∈Region.ready .any ops lst:=mem_ready.2 ⟨(hl k hkn).2 (by simp),o,ho,hedge⟩
  have hHl:∀listed:Array Bool,(∀i,i<ops.size->lst.getD i true=true->listed.getD i true=true)->∀i∈H,i<ops.size->listed.getD i true=true:=by
   intro listed hle i hi hin;refine hle i hin ?_
   cases hh:lst.getD i true with
   |true=>rfl
   |false=>exact absurd ((hl i hin).1 hh) (hH i hi)
  refine zuF (I:=fun σ=>Wf σ/\NR PS σ) (i:=k) (L:=fun listed=>∀i,i<ops.size->lst.getD i true=true->listed.getD i true=true) (fun l j hl i hi h=>?mono) (fun listed j σ σi σij hle hc hi hj hne hw ⟨oi,pi,hoi,hsi,hpi⟩ ⟨oj,pj,hoj,hsj,hpj⟩=>?ex) R.length lst σ σ' (fun i _ h=>h) hc hw hrd ⟨o,p,ho,hst,hp⟩ ?main
  case mono=>
   by_cases hij:i=j
   ·subst hij;by_cases hb:i<l.size
    ·rw[zw,Zz hb];rfl
    ·rw[zw,Array.getElem?_eq_none (by simpa using hb)];rfl
   ·rw[getD_set_ne true (Ne.symm hij)];exact hl i hi h
  case ex=>
   have hkj:k<j:=by
    obtain⟨h1,o',ho',_⟩:=mem_ready.1 hj;have hjn:j<ops.size:=(yQ.1 ho').1
    have h2:lst.getD j true=false:=by
     cases hh:lst.getD j true with
     |false=>rfl
     |true=>
      have h3:=hle j hjn hh;have h4:=zhF h1;rw[zw]at h3 h4
      cases he:listed[j]? with
      |none=>rw[he]at h4 h3;have:=mem_ready.1 hj;simp[zw,he]at this
      |some v=>rw[he]at h3 h4;simp at h3 h4;rw[h3]at h4;cases h4
    rcases zC.1 ((hl j hjn).1 h2)with h3|h3
    ·exact absurd h3 hne
    ·exact hs1 j h3
   have hP:=zqm hu (Ne.symm hne) hoi hoj;rcases zry hk (hHl listed hle) hc hi hj hkj with⟨t1,x,y,hx,hy,ap1,ap2,t2⟩|⟨t1,t2,x,y,hx,hy,hfr,ap1,ap2,l1,l2⟩
   rotate_left
   ·rw[hoi]at hx;rw[hoj]at hy;simp only[za]at hx hy;subst hx;subst hy;obtain⟨⟨kk,args,ats,hopi⟩,⟨ta,hopj⟩,hgj,dj,hdj,hdjP⟩:=zuB hfr;rw[t1]at hsi;rw[t2]at hsj;rcases hsj with⟨h0,_⟩|⟨_,dj',hdj',hoj',hlj⟩
    ·cases h0
    rw[hdj]at hdj';simp only[za]at hdj';subst hdj';obtain⟨_,hls,hri⟩:=hlj.2 l2;rcases hsi with⟨_,_,hli⟩|⟨h0,_⟩
    rotate_left
    ·cases h0
    have hio:zds C PS σ oi pi σi:=by
     rcases hli l1 with⟨_,hw2⟩|h
     ·exfalso;rcases hw2 with⟨_,_,_,_,_,_,_,_,_,_,_,_,_,hop,_⟩|⟨_,_,_,_,_,_,_,_,_,_,hop,_⟩
      ·rw[hopi]at hop;cases hop
      ·rw[hopi]at hop;cases hop
     ·exact h
    obtain⟨l,q1,q2,q3,q4⟩:=hio;obtain⟨b1,b2,b3⟩:=Oper.apart_spec ap2;obtain⟨g,A,hlr,hdn,rfl⟩:=KM hdj hls;have hdo:∀t,Operand.tmp t∈oi.op.operands->t≠dj:=fun t ht e=>b1 dj hdj (by rw[<-e];exact kx ht);have hne2:∀d,oi.dst=some d->dj≠d:=fun d hd e=>b2 dj hdj (by rw[hd,e]);have hll:oj.looksAt ops=[]:=by simp[Oper.looksAt,hgj,hopj,Op.operands]
    have hlr':zbc C ops σ oj=some (pj,g,A):=by
     refine zbw (zjP (fun t ht=>by rw[hll]at ht;cases ht)) (fun ty x gx A' s ver y hx=>?_) (fun ty x hx=>?_) hlr
     ·simp[hopj,Op.operands]at hx
     ·simp[hopj,Op.operands]at hx
    have hNR:=hw.2.step hw.1 (zby l σ).2 (zby l σ).1.refKeep
    have hsd:∀x s ver gx r,Operand.tmp x∈oi.op.operands->opd C.P (Yy σ l) 0 (.tmp x)=some (gx,.rf s ver [])->(Yy σ l).own s ver=some r->s≠dj:=by
     intro x s ver gx r hx ho hown e;rcases zgP ho rfl with e2|⟨t,e2,e3⟩
     ·simp only[Operand.tmp.injEq]at e2;exact hdo x hx (by rw[e2,e])
     ·have:=hNR s (by rw[e];exact hdjP) t ver e3;rw[this]at hown;cases hown
    obtain⟨w1,w2⟩:=zBC (g:=g) (A:=A) hne2 hdo hsd q3 q4;have hfz:Yy (σ.put dj g A) l=(Yy σ l).put dj g A:=zhI l σ (fun t ht=>hdo t (q2 t ht).2);obtain⟨s,ver,d,y,r,r0,x',gx',e1,hx',ho',e3,e4⟩:=zx1 q3 q4;have hsj:s≠dj:=hsd x' s ver gx' r0 hx' ho' e3
    have hod:(σ dj).owner=false:=by
     have:(σi dj)=(Yy σ l) dj:=by
      rw[e4];have:dj≠d:=hne2 d e1;simp[Env.put,Env.mod,this,Ne.symm hsj]
     rcases zhJ l σ dj with h|⟨_,h⟩
     ·rw[<-h,<-this];exact hoj'
     ·exact absurd rfl (hdo dj (q2 dj h).2)
    have hri':Jy PS (σ.put dj g A) oj:=fun e he s ver hr=>by
     rw[hdj]at he;simp only[za]at he;subst he;refine hri dj hdj s ver ?_;simpa [Env.put]using hr
    have hls':qm C ops σ oj=some (pj,σ.put dj g A):=zhB hdj hlr' hdn;have hnr':KZ PS σ oj:=⟨hgj,fun t ht=>by simp[hopj,Op.operands]at ht⟩;have s1:zci C ops PS false σ oj pj (σ.put dj g A):=.inr ⟨rfl,dj,hdj,hod,.inl ⟨hls',hri'⟩,fun _=>⟨hnr',hls',hri'⟩⟩;have s2:zds C PS (σ.put dj g A) oi pi (σi.put dj g A):=⟨l,q1,q2,by rw[hfz];exact w1,by rw[hfz];exact w2⟩;exact⟨_,⟨oj,pj,hoj,by rw[t2];exact s1,hpj⟩,⟨oi,pi,hoi,by rw[t1];exact .inl ⟨rfl,.inr (.inr (.inr (.inr s2))),fun _=>.inr s2⟩,hpi⟩,zbH s1 hw.1 hw.2⟩
   rw[hoi]at hx;rw[hoj]at hy;simp only[za]at hx hy;subst hx;subst hy;rw[t1]at hsi;have hP':=zqm hu hne hoj hoi;rcases hsi with⟨h0,_⟩|⟨_,di,hdi,hoi',hli⟩
   ·cases h0
   obtain⟨b1,b2,b3⟩:=Oper.apart_spec ap1;rcases t2 with t2|⟨t2,t3⟩
   ·rw[t2]at hsj;rcases hsj with⟨h0,_⟩|⟨_,dj,hdj,hoj',hlj⟩
    ·cases h0
    obtain⟨bi,fi,li⟩:=FM.of hli;obtain⟨bj,fj,lj⟩:=FM.of hlj;obtain⟨σj,e1,e2,e3,e4⟩:=zAX ap1 hdi hdj hw.1 hw.2 hP hoi' fi hoj' fj;have off1:∀t∈oj.looksAt ops,σ t=σi t:=fun t ht=>(fi.off hdi (b1 di hdi) hP t ht).symm;have off2:∀t∈oi.looksAt ops,σj t=σ t:=e1.off hdj (b3 dj hdj) hP';have s1:zci C ops PS false σ oj pj σj:=.inr ⟨rfl,dj,hdj,e3,e1.to (fun h=>⟨(lj h).1,(lj h).2.same off1⟩)⟩;exact⟨σj,⟨oj,pj,hoj,by rw[t2];exact s1,hpj⟩,⟨oi,pi,hoi,by rw[t1];exact .inr ⟨rfl,di,hdi,e4,e2.to (fun h=>⟨(li h).1,(li h).2.same off2⟩)⟩,hpi⟩,zbH s1 hw.1 hw.2⟩
   ·obtain⟨hnr,hls,hri⟩:=hli.2 t2;rcases hsj with⟨ht,_,hlj⟩|⟨ht,dj,hdj,hoj',hlj⟩
    ·have hwl:=hlj t3;obtain⟨g,A,hlr,hdn,rfl⟩:=KM hdi hls;have hne2:∀dj,oj.dst=some dj->di≠dj:=fun dj hdj e=>b2 di hdi (by rw[hdj,e]);have hdo2:∀t,Operand.tmp t∈oj.op.operands->t≠di:=fun t ht e=>b1 di hdi (by rw[<-e];exact kx ht)
     obtain⟨σj,w12,w3,w4⟩:∃σj,((qv C σ oj=some (pj,σj)/\zqZ C PS σ oj)\/zds C PS σ oj pj σj)/\σij=σj.put di g A/\(∀t,oj.dst≠some t->((σ t).owner=true/\t+800∈PS)\/σj t=σ t):=by
      rcases hwl with⟨hws,hla⟩|hws
      ·obtain⟨σj,w1,w2,w3,w4⟩:=zzL hw.1 hne2 hdo2 t3 hws hla;exact⟨σj,.inl ⟨w1,w2⟩,w3,w4⟩
      ·obtain⟨σj,w1,w3,w4⟩:=zzJ hw.1 hne2 hdo2 hws;exact⟨σj,.inr w1,w3,w4⟩
     have hopn:∀t∈oi.looksAt ops,Operand.tmp t∈oi.op.operands:=fun t ht=>by
      simp only[Oper.looksAt,hnr.1,List.append_nil,List.mem_filterMap]at ht;obtain⟨x,hx,he⟩:=ht;cases x<;>simp at he;subst he;simpa using hx
     have off2:∀t∈oi.looksAt ops,σj t=σ t:=fun t ht=>by
      rcases w4 t (fun e=>b3 t e ht)with⟨h,h'⟩|h
      ·exfalso;have h1:=(hnr.2 t (hopn t ht)).2;unfold E.owner at h;simp only[zh]at h
       cases ha:(σ t).a with
       |val x=>rw[ha]at h;simp only at h;exact h1 x ha h.2 h'
       |_=>rw[ha]at h;cases h.2
      ·exact h
     have hl2:zbc C ops σj oi=some (pi,g,A):=by
      refine zbw (zjP off2).symm (fun ty x gx A' s ver y hx ho hr hy=>?_) (fun ty x hx=>(zhv off2 (by simpa using hx)).symm) hlr;have hsn:=hnr.opd (by simpa using hx) ho hr
      have:σj s=σ s:=by
       rcases w4 s (fun e=>hsn (by
        unfold ZR at t3;rw[e]at t3
        simpa using t3))with⟨_,h⟩|h
       ·exact absurd h hsn
       ·exact h
      unfold Env.own at hy ⊢;rw[this];exact hy
     have s1:zci C ops PS true σ oj pj σj:=.inl ⟨rfl,by
      rcases w12 with⟨w1,w2⟩|w12
      ·refine .inr (.inl ⟨w1,fun x hx=>?_⟩);rcases w2 with⟨args,ats,_,_,_,_,_,_,_,_,_,_,_,hop,_⟩|⟨_,_,_,_,_,_,_,_,_,_,hop,_⟩
       ·rw[hop]at hx;cases hx
       ·rw[hop]at hx;cases hx
      ·exact .inr (.inr (.inr (.inr w12))),fun _=>w12⟩
     have hod:(σj di).owner=false:=by
      rcases w4 di (fun e=>hne2 di e rfl)with⟨h,_⟩|h
      ·rw[hoi']at h;cases h
      ·rw[h];exact hoi'
     have e2:qm C ops σj oi=some (pi,σij):=by rw[w3];exact zhB hdi hl2 hdn
     have hri':Jy PS σij oi:=fun e he s ver hr=>by
      rw[hdi]at he;simp only[za]at he;subst he;refine hri di hdi s ver ?_;rw[w3]at hr;simpa [Env.put]using hr
     exact⟨σj,⟨oj,pj,hoj,by rw[ht];exact s1,hpj⟩,⟨oi,pi,hoi,by rw[t1];exact .inr ⟨rfl,di,hdi,hod,.inl ⟨e2,hri'⟩,fun _=>⟨hnr.same off2,e2,hri'⟩⟩,hpi⟩,zbH s1 hw.1 hw.2⟩
    ·obtain⟨bi,fi,li⟩:=FM.of hli;obtain⟨bj,fj,lj⟩:=FM.of hlj;obtain⟨σj,e1,e2,e3,e4⟩:=zAX ap1 hdi hdj hw.1 hw.2 hP hoi' fi hoj' fj;have off1:∀t∈oj.looksAt ops,σ t=σi t:=fun t ht=>(fi.off hdi (b1 di hdi) hP t ht).symm;have off2:∀t∈oi.looksAt ops,σj t=σ t:=e1.off hdj (b3 dj hdj) hP';have s1:zci C ops PS false σ oj pj σj:=.inr ⟨rfl,dj,hdj,e3,e1.to (fun h=>⟨(lj h).1,(lj h).2.same off1⟩)⟩;exact⟨σj,⟨oj,pj,hoj,by rw[ht];exact s1,hpj⟩,⟨oi,pi,hoi,by rw[t1];exact .inr ⟨rfl,di,hdi,e4,e2.to (fun h=>⟨(li h).1,(li h).2.same off2⟩)⟩,hpi⟩,zbH s1 hw.1 hw.2⟩
  case main=>
   refine zvp hk hu R _ σ' (by simpa using hsz) (fun i hin=>?_) (fun i hi=>hr i (by simp[hi])) hs2 (fun i hi hm=>hH i hi (by simp[hm])) ?_ h (zbH hst hw.1 hw.2)
   ·by_cases hik:i=k
    ·subst hik
     have:(lst.setIfInBounds i true).getD i true=true:=by
      rw[zw,Zz (by omega)];rfl
     rw[this];refine⟨fun h=>(by cases h),fun hm=>?_⟩;have:=hs1 i hm;omega
    ·rw[getD_set_ne true (Ne.symm hik),hl i hin,zC];exact⟨fun h=>h.resolve_left hik,fun h=>.inr h⟩
   ·intro j oj hoj hj e he hb;by_cases hjk:j=k
    ·subst hjk;rw[ho]at hoj;simp only[za]at hoj;subst hoj;exact getD_set_true (hedge e he hb)
    ·rw[getD_set_ne false (Ne.symm hjk)]at hj;exact getD_set_true (hc j oj hoj hj e he hb)
theorem zkB:∀(H:List Nat) (l:Array Bool),(zbL l H).size=l.size
 |[],_=>rfl
 |i::H,l=>by rw[zbL,zkB H];simp
theorem zmu:∀(H:List Nat) (l:Array Bool) (i:Nat),i<l.size->(zbL l H).getD i true=(H.contains i||l.getD i true)
 |[],l,i,_=>by simp[zbL]
 |k::H,l,i,hi=>by
  rw[zbL,zmu H _ i (by simpa using hi)];by_cases hik:i=k
  ·subst hik
   have:(l.setIfInBounds i true).getD i true=true:=by
    rw[zw,Zz hi];rfl
   rw[this];simp
  ·rw[getD_set_ne true (Ne.symm hik)];have:¬i=k:=hik;simp[List.contains_cons,this]
theorem zie:∀(H:List Nat) (l:Array Bool),ze7 ops H l=true->zam ops l->zam ops (zbL l H)
 |[],_,_,h=>h
 |k::H,l,hc,h=>by
  simp only[ze7,zh]at hc;obtain⟨⟨⟨h1,h2⟩,h3⟩,h4⟩:=hc;refine zie H _ h4 ?_;intro j oj hoj hj e he hb;by_cases hjk:j=k
  ·subst hjk;obtain⟨_,o,ho,hall⟩:=mem_ready.1 (show j∈Region.ready .any ops l by simpa using h3);rw[hoj]at ho;simp only[za]at ho;subst ho;exact getD_set_true (hall e he hb)
  ·rw[getD_set_ne false (Ne.symm hjk)]at hj;exact getD_set_true (h j oj hoj hj e he hb)
def kU(ops:List Oper):List Nat->List Oper
 |[]=>[]
 |i::H=>match ops[i]? with
  |some o=>o::kU ops H
  |none=>kU ops H
def zaq(n:Nat)(H:List Nat):List Nat:=(List.range n).filter fun i=> !H.contains i
theorem zvn:∀(H:List Nat) (listed:Array Bool) (l:List Oper) (tl:List Bool) (σ:Env) (K:Env->Prop),ze7 ops H listed=true->evM C ops PS (kU ops.toList H++l) ((kU ops.toList H).map (fun _=>false)++tl) σ K->hev C ops PS H σ (fun σ'=>evM C ops PS l tl σ' K)
 |[],_,_,_,_,_,_,h=>h
 |i::H,listed,l,tl,σ,K,hc,h=>by
  simp only[ze7,zh]at hc;obtain⟨⟨⟨h1,h2⟩,h3⟩,h4⟩:=hc
  cases ho:ops[i]? with
  |none=>rw[ho]at h1;cases h1
  |some o=>
   rw[ho]at h1;have ho':ops.toList[i]? =some o:=(by simpa using ho);simp only[kU,ho',List.cons_append,yX]at h;obtain⟨p,σ',hs,hp,h⟩:=h
   have hlr:qm C ops σ o=some (p,σ')/\Jy PS σ' o:=by
    rcases hs with⟨h0,_⟩|⟨_,d,_,_,hs|hs,_⟩
    ·cases h0
    ·exact hs
    exfalso;simp only[zh]at h1;have hm:=h1.1;unfold ZP zbX at hs;cases hop:o.op<;>simp[ziV,hop]at hm;rw[hop]at hs;split at hs
    ·cases hg:o.guard<;>cases hd:o.dst<;>simp[hg,hd]at hs
    ·cases hs
   exact⟨o,p,σ',ho,hlr.1,hlr.2,hp,zvn H _ l tl σ' K h4 h⟩
theorem zvo{ts:List Bool}{K:Env->Prop}:∀(R:List Nat) (σ:Env),(∀i∈R,i<ops.size)->evM C ops PS (kU ops.toList R) (R.map fun i=>ts.getD i true) σ K->evI C ops PS ts R σ K
 |[],_,_,h=>h
 |i::R,σ,hr,h=>by
  have hi:i<ops.size:=hr i (by simp);have ho:ops.toList[i]? =some ops[i]:=by simp[hi]
  simp only[kU,ho,yX]at h;obtain⟨p,σ',hs,hp,h⟩:=h;exact⟨ops[i],p,σ',by simp[hi],hs,hp,zvo R σ' (fun j hj=>hr j (by simp[hj])) h⟩
theorem zun(hC:Ya C)(hIO:IOk C)(hm:C.P.follows .mixedOrders=true){id:Nat}{ts:List Bool}{H:List Nat}{K:Env->Prop}{Q:Exit->Act->World->Prop}(hk:zoB ops PS ts H=true)(hu:zw8 ops PS=true)(hs:Region.noSelect ops=true)(hh:ze7 ops H (Array.replicate ops.size false)=true)(hcount:(zaq ops.size H).length+H.length=ops.size)(hG:G C σ a w)(hN:∀s∈PS,(σ s).owner=false)
 (h:evM C ops PS (kU ops.toList H++kU ops.toList (zaq ops.size H)) ((kU ops.toList H).map (fun _=>false)++(zaq ops.size H).map fun i=>ts.getD i true) σ K)
 (hK:∀σ a w,K σ->G C σ a w->Q .normal a w):(Code.region id ops true).wp C.P Q a w:=by
 refine Code.wp_mono (Q:=fun e a w=>e=.normal/\Q .normal a w) (fun e a w hq=>by obtain⟨rfl,hq⟩:=hq;exact hq) (wp_region_any hm ?_)
 have hn:∀σ,Wf σ->(∀s∈PS,(σ s).owner=false)->NR PS σ:=by
  intro σ _ hN s hs t ver _
  cases ho:σ.own s ver with
  |none=>rfl
  |some y=>
   obtain⟨h1,h2,h3,h4⟩:=Env.own_iff'.1 ho;have:=hN s hs;simp[E.owner,h1,h3,h4]at this
 have hrs:∀i∈zaq ops.size H,i<ops.size:=fun i hi=>by
  have:=(jp.1 hi).1;simpa using this
 have hw:Wf σ:=by obtain⟨F,O,hI⟩:=hG;exact hI.wf
 have hv:=zvn H _ _ _ σ K hh h
 have:=zkN (Q:=fun e a w=>e=.normal/\Q .normal a w) (fuel:=(zaq ops.size H).length) (K:=fun σ'=>evM C ops PS (kU ops.toList (zaq ops.size H)) ((zaq ops.size H).map fun i=>ts.getD i true) σ' K) hC hs (fun c a w hq=>by cases hq.1) H _ σ a hh hv ⟨hw,hn σ hw hN⟩ hG.drew (fun σ' a' hev hw' hG'=>by
  have hev':=zvo (ts:=ts) _ _ hrs hev;have hle:(zbL (Array.replicate ops.size false) H).size=ops.size:=by rw[zkB];simp
  refine znA hC hIO (fun σ a w h1 h2=>⟨rfl,hK σ a w h1 h2⟩) _ _ σ' a' _ (zvp hk hu _ _ σ' hle (fun i hi=>?_) hrs ?_ (fun i hi hm=>?_) ?_ hev' hw') hG'
  ·rw[zmu _ _ _ (by simpa using hi)];simp only[zaq,jp,List.mem_range,hi,true_and];simp[hi]
  ·exact List.Pairwise.filter _ List.pairwise_lt_range
  ·have:=(jp.1 hm).2;simp[hi]at this
  ·refine zie H _ hh (fun j o ho hj=>?_)
   by_cases hjn:j<ops.size<;>simp[hjn]at hj)
 rw[hcount]at this;exact this
end
end Go.Ax
namespace Go.Ax
abbrev jH(a b:Nat):Bool:=a==b
abbrev zgn(a b:Nat):Bool:=decide (a<=b)
abbrev Jf(a b:Nat):Bool:=decide (a+1<=b)
theorem qg{a b:Nat}(h:jH a b=true):a=b:=by simpa using h
theorem uL(a:Nat):jH a a=true:=by simp
theorem jn{a b:Nat}(h:zgn a b=true):a<=b:=of_decide_eq_true h
inductive TK where
 |int (k:IntKind)
 |bool
 |str
 |slc (e:TypeId)
 |agg (fs:List (Nat×TypeId))
 |oth
 deriving Inhabited
structure TI where
 k:TK
 cells:Nat
 zero:V
 deriving Inhabited
abbrev kj:=List (Nat×TI)
def qE:kj->Nat->Option TI
 |[],_=>none
 |(k,ti)::l,t=>match jH k t with
  |true=>some ti
  |false=>qE l t
def kK(T:kj)(t:TypeId):Nat:=match qE T t with
 |some ti=>ti.cells
 |none=>0
structure Lv where
 toI:V->Int
 toB:V->Bool
 toS:V->ByteArray
 toL:V->List V
 fld:V->Nat->V
structure Alg where
 v:Lv
 wrap:IntKind->Int->Int
 add:Int->Int->Int
 sub:Int->Int->Int
 mul:Int->Int->Int
 quo:Int->Int->Int
 rem:Int->Int->Int
 band:IntKind->Int->Int->Int
 shr:IntKind->Int->Int->Int
 imin:Int->Int->Int
 imax:Int->Int->Int
 eqI:Int->Int->Bool
 leI:Int->Int->Bool
 ltI:Int->Int->Bool
 eqB:Bool->Bool->Bool
 not:Bool->Bool
 and:Bool->Bool->Bool
 pick:Bool->Bool->Bool->Bool
 eqS:ByteArray->ByteArray->Bool
 ltS:ByteArray->ByteArray->Bool
 appS:ByteArray->ByteArray->ByteArray
 lenS:ByteArray->Int
 getS:ByteArray->Int->Int
 extS:ByteArray->Int->Int->ByteArray
 len:List V->Int
 get:List V->Nat->V->V
 set:List V->Nat->V->List V
 app:List V->List V->List V
 sli:List V->Int->Int->List V
 rep:Int->V->List V
 frz:List V->List V
 nat:Int->Nat
 ltN:Nat->List V->Prop
 nofz:List V->Prop
 nown:List V->Prop
 emp:List V->Prop
 ok:Bool->TypeId->V->Prop
 okS:TypeId->V->Prop
 solid:List V->Prop
 le:Int->Int->Prop
 lt:Int->Int->Prop
 ne0:Int->Prop
 imp:Bool->Prop->Prop
 tt:Bool->Prop
 ifP:Bool->Prop->Prop->Prop
 strB:List V->ByteArray
 byt:List V->Prop
def V.toI:V->Int
 | .int _ n=>n
 |_=>0
def V.toB:V->Bool
 | .bool b=>b
 |_=>false
def V.toS:V->ByteArray
 | .str s=>s
 |_=>ByteArray.empty
def V.toL:V->List V
 | .slc _ _ _ es=>es
 |_=>[]
def V.fld:V->Nat->V
 | .agg fs,i=>fs.getD i (.hole 0)
 |_,_=>.hole 0
def vwD(o:Bool)(d:V):V:=match o with
 |true=>d
 |false=>d.frz
def zdF:List V->Nat->Option V
 |[],_=>none
 |x::_,0=>some x
 |_::l,i+1=>zdF l i
section
variable (L:Lv)(T:kj)
mutual
def vw(o:Bool):Nat->TypeId->V->Option V
 |0,_,_=>none
 |n+1,t,y=>match qE T t with
  |some ⟨.int k,_,_⟩=>some (.int k (L.toI y))
  |some ⟨.bool,_,_⟩=>some (.bool (L.toB y))
  |some ⟨.str,_,_⟩=>some (.str (L.toS y))
  |some ⟨.slc e,_,.slc _ _ d _⟩=>some (.slc o e (vwD o d) (L.toL y))
  |some ⟨.agg fs,_,_⟩=>match vws o n fs 0 y with
   |some ys=>some (.agg ys)
   |none=>none
  |_=>none
def vws(o:Bool):Nat->List (Nat×TypeId)->Nat->V->Option (List V)
 |_,[],_,_=>some []
 |0,_::_,_,_=>none
 |n+1,(_,t)::fs,i,y=>match vw o n t (L.fld y i)with
  |some v=>match vws o n fs (i+1) y with
   |some vs=>some (v::vs)
   |none=>none
  |none=>none
end
end
section
variable (L:Alg)(T:kj)
abbrev zU:=List (Nat×Option Bool×A)
def look:zU->Nat->Option (Option Bool×A)
 |[],_=>none
 |(k,e)::l,t=>match jH k t with
  |true=>some e
  |false=>look l t
def A.at0:A->Nat->Bool
 | .rf s _ _,d=>jH s d
 | .ad s _ _,d=>jH s d
 | .ag s _ _ _,d=>jH s d
 |_,_=>false
def Jr(d:Nat):zU->zU
 |[]=>[]
 |(k,g,a)::l=>match jH k d with
  |true=>Jr d l
  |false=>match a.at0 d with
   |true=>Jr d l
   |false=>(k,g,a)::Jr d l
def ins(d:Nat)(e:Option Bool×A):zU->zU
 |[]=>[(d,e)]
 |(k,e')::l=>match Jf k d with
  |true=>(k,e')::ins d e l
  |false=>(d,e)::(k,e')::l
def jl(S:zU)(d:Nat)(g:Option Bool)(a:A):zU:=ins d (g,a) (Jr d S)
def zja(d:Nat):zU->zU
 |[]=>[]
 |(k,g,a)::l=>match a.at0 d with
  |true=>zja d l
  |false=>(k,g,a)::zja d l
def Qg(S:zU)(d:Nat)(x:V):zU:=match S with
 |[]=>[]
 |(k,g,a)::l=>match jH k d with
  |true=>(k,g,.val x)::Qg l d x
  |false=>(k,g,a)::Qg l d x
def ju:List Nat->Nat->Bool
 |[],_=>false
 |x::l,t=>match jH x t with
  |true=>true
  |false=>ju l t
def A.in0:A->List Nat->Bool
 | .rf s _ _,l=>ju l s
 | .ad s _ _,l=>ju l s
 | .ag s _ _ _,l=>ju l s
 |_,_=>true
def ZS(ks:List Nat):zU->zU
 |[]=>[]
 |(k,g,a)::l=>match ju ks k with
  |true=>match a.in0 ks with
   |true=>(k,g,a)::ZS ks l
   |false=>ZS ks l
  |false=>ZS ks l
def jW(S:zU)(s:Nat):Option V:=match look S s with
 |some (none,.val x)=>match x.owned with
  |true=>some x
  |false=>none
 |_=>none
def zyu(t:TypeId):Value->Option V
 | .int k n=>some (.int k n)
 | .bool b=>some (.bool b)
 | .string s=>some (.str s)
 | .pointer none=>some (.hole 1)
 | .slice none 0 0=>match qE T t with
   |some ⟨.slc e,_,.slc _ _ d _⟩=>some (.slc true e d [])
   |_=>none
 |_=>none
def jr(S:zU)(t:TypeId):Operand->Option (Option Bool×A)
 | .tmp x=>match look S x with
   |some (g,.val v)=>match v.owned with
    |true=>some (g,.rf x 0 [])
    |false=>some (g,.val v)
   |some (g,a)=>some (g,a)
   |none=>none
 | .const v=>match zyu T t v with
   |some x=>some (none,.val x)
   |none=>none
 | .func f=>some (none,.val (.fn f []))
 | .global _=>none
def Yo(g:Option Bool)(p:List Prop):List Prop:=match g with
 |none=>p
 |some b=>match p with
  |[]=>[]
  |p::l=>L.imp b p::Yo (some b) l
def yS(g gx:Option Bool):List Prop:=match gx with
 |none=>[]
 |some b=>match g with
  |none=>[L.tt b]
  |some a=>[L.imp a (L.tt b)]
def dO:V->Bool
 | .slc o _ _ _=>o
 | .agg (.slc o _ _ _::_)=>o
 |_=>true
def kX:V->List Nat->Option (V×List Prop)
 |x,[]=>some (x,[])
 | .slc true e d es,i::p=>match vw L.v T (dO d) 20 e (L.get es i d)with
   |some y=>match kX y p with
    |some (z,q)=>some (z,L.ltN i es::L.ok (dO d) e (L.get es i d)::q)
    |none=>none
   |none=>none
 | .agg fs,i::p=>match zdF fs i with
   |some y=>kX y p
   |none=>none
 | .box _ c,0::p=>kX c p
 |_,_=>none
def Yd:V->List Nat->V->Option V
 |_,[],y=>some y
 | .slc true e d es,i::p,y=>match vw L.v T (dO d) 20 e (L.get es i d)with
   |some x=>match Yd x p y with
    |some z=>some (.slc true e d (L.set es i z))
    |none=>none
   |none=>none
 | .agg fs,i::p,y=>match zdF fs i with
   |some x=>match Yd x p y with
    |some z=>some (.agg (fs.set i z))
    |none=>none
   |none=>none
 | .box e c,0::p,y=>match Yd c p y with
   |some z=>some (.box e z)
   |none=>none
 |_,_,_=>none
def atW:V->List Nat->Option (V×List Prop)
 |x,[]=>some (x,[])
 | .slc true e d es,i::p=>match vw L.v T (dO d) 20 e (L.get es i d)with
   |some y=>match p with
    |[]=>match y.isScalar|| !dO d with
     |true=>some (y,[L.ltN i es,L.ok (dO d) e (L.get es i d)])
     |false=>some (y,[L.ltN i es,L.okS e (L.get es i d)])
    |_=>match atW y p with
     |some (z,q)=>some (z,L.ltN i es::L.ok (dO d) e (L.get es i d)::q)
     |none=>none
   |none=>none
 | .agg fs,i::p=>match zdF fs i with
   |some y=>atW y p
   |none=>none
 | .box _ c,0::p=>atW c p
 |_,_=>none
def zxg(r:V)(p:List Nat):Option (V×List Prop):=match p with
 |[]=>some (r,[])
 |i::q=>match r with
  | .agg _=>none
  | .tup _=>none
  |r=>atW L T r (i::q)
def atR(r:V)(p:List Nat):Option (V×List Prop):=match p with
 |[]=>some (r,[])
 |i::q=>match r with
  | .agg _=>none
  | .tup _=>none
  |r=>kX L T r (i::q)
def ikN:IntKind->Nat
 | .i8=>0
 | .i16=>1
 | .i32=>2
 | .i64=>3
 | .u8=>4
 | .u16=>5
 | .u32=>6
 | .u64=>7
def ikE(k k':IntKind):Bool:=jH (ikN k) (ikN k')
def zhE(S:zU)(x:Operand):Option (Option Bool×Int):=match jr T S 0 x with
 |some (g,.val (.int .i64 n))=>some (g,n)
 |_=>none
def zcc(S:zU)(d:Int):Option Operand->Option (Option Bool×Int)
 |none=>some (none,d)
 |some x=>zhE T S x
def zAi(op:BinOp)(k:IntKind)(a b:Int):Option (List Prop×V):=
 match op with
 | .add=>some ([],.int k (L.wrap k (L.add a b)))
 | .sub=>some ([],.int k (L.wrap k (L.sub a b)))
 | .mul=>some ([],.int k (L.wrap k (L.mul a b)))
 | .quo=>some ([L.ne0 b],.int k (L.wrap k (L.quo a b)))
 | .rem=>some ([L.ne0 b],.int k (L.rem a b))
 | .and=>some ([],.int k (L.band k a b))
 | .shr=>some ([L.le 0 b],.int k (L.shr k a b))
 | .eql=>some ([],.bool (L.eqI a b))
 | .neq=>some ([],.bool (L.not (L.eqI a b)))
 | .lss=>some ([],.bool (L.ltI a b))
 | .leq=>some ([],.bool (L.leI a b))
 | .gtr=>some ([],.bool (L.ltI b a))
 | .geq=>some ([],.bool (L.leI b a))
 |_=>none
def zy0(op:BinOp)(a b:ByteArray):Option (List Prop×V):=
 match op with
 | .add=>some ([L.lt (L.add (L.lenS a) (L.lenS b)) 1099511627776],.str (L.appS a b))
 | .eql=>some ([],.bool (L.eqS a b))
 | .neq=>some ([],.bool (L.not (L.eqS a b)))
 | .lss=>some ([],.bool (L.ltS a b))
 |_=>none
def zeg(t:TypeId):Bool:=match qE T t with
 |some ⟨.bool,_,_⟩=>true
 |_=>false
def zb0(t:TypeId):Bool:=match qE T t with
 |some ⟨.str,_,_⟩=>true
 |_=>false
def ZU(t:TypeId):Option TypeId:=match qE T t with
 |some ⟨.slc e,_,_⟩=>some e
 |_=>none
def zfX(t:TypeId):Option IntKind:=match qE T t with
 |some ⟨.int k,_,_⟩=>some k
 |_=>none
def Kx(t:TypeId):Bool:=match qE T t with
 |some ⟨.int _,_,_⟩=>true
 |some ⟨.bool,_,_⟩=>true
 |some ⟨.str,_,_⟩=>true
 |_=>false
def Qu(t:TypeId):Option (List (Nat×TypeId)):=match qE T t with
 |some ⟨.agg fs,_,_⟩=>some fs
 |_=>none
def zeK:List (Nat×TypeId)->Nat->Option (Nat×TypeId)
 |[],_=>none
 |x::_,0=>some x
 |_::l,i+1=>zeK l i
def zoq(fs:List (Nat×TypeId))(i:Nat):TypeId:=match zeK fs i with
 |some x=>x.2
 |none=>0
def zhL(t:TypeId)(y:V):Bool:=match qE T t,y with
 |some ⟨.int k,_,_⟩,.int k' _=>ikE k k'
 |some ⟨.bool,_,_⟩,.bool _=>true
 |some ⟨.str,_,_⟩,.str _=>true
 |some ⟨.slc e,_,_⟩,.slc _ e' _ _=>jH e e'
 |some ⟨.agg _,c,_⟩,.agg fs=>jH c (V.sizes fs)
 |some ⟨.oth,c,_⟩,.box _ _=>jH c 1
 |some ⟨.oth,c,_⟩,.fn _ _=>jH c 1
 |_,_=>false
def ziO(off:Nat)(ft:TypeId)(f:Nat)(fs:List V):Bool:=jH (V.offs fs f) off&&Jf f fs.length&&Jf 0 (kK T ft)
def zhH:V->V
 | .slc _ e d es=>.slc false e d.frz (L.frz es)
 | .agg fs=>.agg (frzsS fs)
 | .tup fs=>.tup (frzsS fs)
 | .box _ c=>.fn 1000000000 [zhH c]
 |x=>x
where frzsS:List V->List V
 |[]=>[]
 |x::l=>zhH x::frzsS l
def zc0(S:zU):A->Option (V×List Prop)
 | .val x=>some (x,[])
 | .rf s _ p=>match jW S s with
   |some r=>match p with
    |[]=>some (r,[])
    |i::q=>match r with
     | .tup fs=>match q with
       |[]=>match zdF fs i with
        |some y=>some (y,[])
        |none=>none
       |_=>none
     |_=>match atR L T r p with
      |some (y,ps)=>match y.isH with
       |true=>some (y,ps)
       |false=>none
      |none=>none
   |none=>none
 |_=>none
def zgS(r:V)(p:List Nat):List V->Nat->Option (List V×List Prop)
 |[],_=>some ([],[])
 |f::fs,i=>match f.leaf with
  |true=>match f.owned with
   |true=>match atR L T r (p++[i])with
    |some (y,ps)=>match y.isH with
     |true=>match zgS r p fs (i+1)with
      |some (ys,qs)=>some (y::ys,ps++qs)
      |none=>none
     |false=>none
    |none=>none
   |false=>match zgS r p fs (i+1)with
    |some (ys,qs)=>some (f::ys,qs)
    |none=>none
  |false=>none
def zeP(r:V)(p:List Nat):List V->Nat->Option (List V×List Prop)
 |[],_=>some ([],[])
 |f::fs,i=>match f.leaf with
  |true=>match f.owned with
   |true=>match atR L T r (p++[i])with
    |some (y,ps)=>match y.isH with
     |true=>match zeP r p fs (i+1)with
      |some (ys,qs)=>some (y::ys,ps++qs)
      |none=>none
     |false=>none
    |none=>none
   |false=>match zeP r p fs (i+1)with
    |some (ys,qs)=>some (f::ys,qs)
    |none=>none
  |false=>match f with
   | .agg gs=>match zgS L T r (p++[i]) gs 0 with
     |some (zs,ps)=>match zeP r p fs (i+1)with
      |some (ys,qs)=>some (.agg zs::ys,ps++qs)
      |none=>none
     |none=>none
   |_=>none
def zm2(S:zU)(a:A):Option (V×List Prop):=match a with
 | .ag s _ p fs=>match jW S s with
   |some r=>match zeP L T r p fs 0 with
    |some (ys,ps)=>some (.agg ys,ps)
    |none=>none
   |none=>none
 |a=>zc0 L T S a
mutual
def V.isFn:V->Bool
 | .fn _ _=>true
 | .box _ _=>true
 | .agg fs=>V.areFn fs
 | .tup fs=>V.areFn fs
 |_=>false
def V.areFn:List V->Bool
 |[]=>false
 |x::l=>x.isFn||V.areFn l
end
def zcY:V->List Prop
 | .slc true _ _ es=>[L.nofz es]
 | .slc false _ _ es=>[L.emp es]
 | .agg fs=>nofzsS fs
 | .tup fs=>nofzsS fs
 |_=>[]
where nofzsS:List V->List Prop
 |[]=>[]
 |x::l=>zcY x++nofzsS l
def zed(S:zU)(g:Option Bool):List Operand->List TypeId->Option (List Prop×List V×Bool)
 |[],_=>some ([],[],false)
 |x::xs,ts=>match jr T S (ts.headD 0) x with
  |some (gx,a)=>match zm2 L T S a with
   |some (v,ps)=>match zed S g xs (ts.drop 1)with
    |some (qs,vs,br)=>some (yS L g gx++Yo L g ps++qs,zhH L v::vs,br||v.owned||a.isAg)
    |none=>none
   |none=>none
  |none=>none
def zfE(S:zU)(g:Option Bool)(ty:Nat->TypeId):List (Nat×Operand)->Option (List Prop×List (Nat×V))
 |[]=>some ([],[])
 |(i,x)::xs=>match jr T S (ty i) x with
  |some (gx,.val v)=>match v.owned with
   |true=>match v with
    | .slc true e d []=>match zfE S g ty xs with
      |some (qs,vs)=>some (yS L g gx++qs,(i,.slc true e d [])::vs)
      |none=>none
    |_=>none
   |false=>match v.isHole with
    |true=>none
    |false=>match zfE S g ty xs with
     |some (qs,vs)=>some (yS L g gx++qs,(i,v)::vs)
     |none=>none
  |_=>none
abbrev zK:=List V->Option (List Prop×V)
abbrev jZ:=List (FuncId×zK)
def zce:jZ->FuncId->Option zK
 |[],_=>none
 |(k,f)::l,t=>match jH k t with
  |true=>some f
  |false=>zce l t
mutual
def zaF:V->V
 | .slc _ e d es=>.slc false e d.frz (L.frz es)
 | .agg fs=>.agg (zm9 fs)
 | .tup fs=>.tup (zm9 fs)
 | .box _ c=>.fn 1000000000 [zaF c]
 | .int k n=>.int k n
 | .bool b=>.bool b
 | .str s=>.str s
 | .fn f c=>.fn f c
 | .hole n=>.hole n
def zm9:List V->List V
 |[]=>[]
 |v::vs=>zaF v::zm9 vs
end
def znz(S:zU):List Operand->List TypeId->Bool
 |[],_=>false
 |x::xs,ts=>(match jr T S (ts.headD 0) x with
  |some (_,.val v)=>v.owned
  |some (_,.ag _ _ _ fs)=>V.owneds fs
  |_=>true)||znz S xs (ts.drop 1)
def zAf(B:jZ)(S:zU)(k:FuncId)(xs:List Operand)(ts:List TypeId)(br:Bool):Bool:=match br with
 |false=>false
 |true=>match zce B (3000000000+k)with
  |some f=>match f []with
   |some _=>znz T S xs ts
   |none=>true
  |none=>true
def zw1(B:jZ)(k:FuncId)(r:V):V:=match zce B (2000000000+k)with
 |some f=>match f []with
  |some _=>zaF L r
  |none=>r
 |none=>r
def uk(B:jZ)(S:zU)(g:Option Bool)(o:Oper):Option (List Prop×A):=
 match o.op with
 | .move x=>match jr T S o.type x with
   |some (gx,a)=>some (yS L g gx,a)
   |none=>none
 | .assign x=>match jr T S o.type x with
   |some (gx,.val v)=>match v.owned with
    |true=>none
    |false=>some (yS L g gx,.val v)
   |some (gx,.rf s _ (i::p))=>match jW S s with
    |some (.tup _)=>none
    |some _=>some (yS L g gx,.rf s 0 (i::p))
    |none=>none
   |some (gx,.rf s _ [])=>match o.dst with
    |some d=>match zce B (1000000000+d)with
     |some f=>match f []with
      |some _=>some (yS L g gx,.rf s 0 [])
      |none=>none
     |none=>none
    |none=>none
   |_=>none
 | .pick c a b=>match jr T S 0 c,jr T S 0 a,jr T S 0 b with
   |some (gc,.val (.bool c)),some (ga,.val (.bool a)),some (gb,.val (.bool b))=>
    some (yS L g gc++Yo L g ((yS L none ga).map (L.imp c))++Yo L g ((yS L none gb).map (L.imp (L.not c))),.val (.bool (L.pick c a b)))
   |_,_,_=>none
 | .binOp op xt x y _=>match jr T S xt x,jr T S xt y with
   |some (gx,.val (.bool a)),some (gy,.val (.bool b))=>match zeg T xt with
    |true=>match op with
     | .eql=>some (yS L g gx++yS L g gy,.val (.bool (L.eqB a b)))
     | .neq=>some (yS L g gx++yS L g gy,.val (.bool (L.not (L.eqB a b))))
     |_=>none
    |false=>none
   |some (gx,.val (.int k a)),some (gy,.val (.int k' b))=>match ikE k k' with
    |true=>match zAi L op k a b with
     |some (ps,v)=>some (yS L g gx++yS L g gy++Yo L g ps,.val v)
     |none=>none
    |false=>match op with
     | .shr=>some (yS L g gx++yS L g gy++Yo L g [L.le 0 b],.val (.int k (L.shr k a b)))
     |_=>none
   |some (gx,.val (.str a)),some (gy,.val (.str b))=>match zy0 L op a b with
    |some (ps,v)=>some (yS L g gx++yS L g gy++Yo L g ps,.val v)
    |none=>none
   |_,_=>none
 | .unOp op _ x=>match op,jr T S o.type x with
   | .not,some (gx,.val (.bool b))=>some (yS L g gx,.val (.bool (L.not b)))
   | .neg,some (gx,.val (.int k n))=>some (yS L g gx,.val (.int k (L.wrap k (L.sub 0 n))))
   |_,_=>none
 | .load t x=>match jr T S 0 x with
   |some (gx,.fz y)=>match vw L.v T false 20 t y with
    |some z=>some (yS L g gx++Yo L g [L.ok false t y],.val z)
    |none=>none
   |some (gx,.val v)=>match v.fb? with
    |some y=>match zhL T t y with
     |true=>some (yS L g gx,.val y)
     |false=>none
    |none=>none
   |some (gx,.ad s _ p)=>match jW S s with
    |some r=>match p,atR L T r p with
     |_::_,some (y,ps)=>match zhL T t y with
      |true=>match y.owned with
       |false=>some (yS L g gx++Yo L g ps,.val y)
       |true=>match y.isH with
        |true=>some (yS L g gx++Yo L g ps,.rf s 0 p)
        |false=>match y with
         | .agg fs=>match V.flats fs with
           |true=>some (yS L g gx++Yo L g ps,.ag s 0 p fs)
           |false=>none
         |_=>none
      |false=>none
     |_,_=>none
    |none=>none
   |some (gx,.rf s _ p)=>match jW S s with
    |some r=>match atR L T r p with
     |some (.box _ c,ps)=>match zhL T t c with
      |true=>match c.owned with
       |false=>some (yS L g gx++Yo L g ps,.val c)
       |true=>match c.isH with
        |true=>some (yS L g gx++Yo L g ps,.rf s 0 (p++[0]))
        |false=>match c with
         | .agg fs=>match V.flats fs with
           |true=>some (yS L g gx++Yo L g ps,.ag s 0 (p++[0]) fs)
           |false=>none
         |_=>none
      |false=>none
     |_=>none
    |none=>none
   |_=>none
 | .nilCheck x=>match jr T S 0 x with
   |some (gx,.rf s _ p)=>match jW S s with
    |some r=>match atR L T r p with
     |some (.box _ _,ps)=>some (yS L g gx++Yo L g ps,.rf s 0 p)
     |_=>none
    |none=>none
   |_=>none
 | .fieldAddr st x f=>match Qu T st with
   |some fts=>match zeK fts f with
    |some (off,ft)=>match jr T S 0 x with
     |some (gx,.fz y)=>some (yS L g gx++Yo L g [L.ok false st y],.fz (L.v.fld y f))
     |some (gx,.val v)=>match v.fb? with
      |some (.agg fs)=>match ziO T off ft f fs with
       |true=>some (yS L g gx,.val (.fn 1000000000 [fs.getD f (.hole 0)]))
       |false=>none
      |_=>none
     |some (gx,.ad s _ p)=>match jW S s with
      |some r=>match p,atR L T r p with
       |_::_,some (.agg fs,ps)=>match ziO T off ft f fs with
        |true=>some (yS L g gx++Yo L g ps,.ad s 0 (p++[f]))
        |false=>none
       |_,_=>none
      |none=>none
     |some (gx,.rf s _ p)=>match jW S s with
      |some r=>match atR L T r p with
       |some (.box _ (.agg fs),ps)=>match ziO T off ft f fs with
        |true=>some (yS L g gx++Yo L g ps,.ad s 0 (p++[0,f]))
        |false=>none
       |_=>none
      |none=>none
     |_=>none
    |none=>none
   |none=>none
 | .indexAddr st x i=>match ZU T st,zhE T S i with
   |some e,some (gi,n)=>match jr T S 0 x with
    |some (gx,.val (.slc false e' d es))=>match jH e e' with
     |true=>some (yS L g gx++yS L g gi++Yo L g [L.le 0 n,L.lt n (L.len es)],.fz (L.get es (L.nat n) d))
     |false=>none
    |some (gx,.rf s _ p)=>match jW S s with
     |some r=>match atR L T r p with
      |some (.slc true e' d es,ps)=>match jH e e' with
       |true=>some (yS L g gx++yS L g gi++Yo L g (ps++[L.le 0 n,L.lt n (L.len es)]),.ad s 0 (p++[L.nat n]))
       |false=>none
      |_=>none
     |none=>none
    |_=>none
   |_,_=>none
 | .index st x i=>match zb0 T st with
   |true=>match jr T S 0 x,zhE T S i with
    |some (gx,.val (.str s)),some (gi,n)=>some (yS L g gx++yS L g gi++Yo L g [L.le 0 n,L.lt n (L.lenS s)],.val (.int .u8 (L.getS s n)))
    |_,_=>none
   |false=>none
 | .extract x i=>match jr T S 0 x with
   |some (gx,.val (.tup fs))=>match zdF fs i with
    |some y=>some (yS L g gx,.val y)
    |none=>none
   |some (gx,.rf s _ [])=>match jW S s with
    |some (.tup fs)=>match zdF fs i with
     |some y=>match y.owned with
      |true=>some (yS L g gx,.rf s 0 [i])
      |false=>some (yS L g gx,.val y)
     |none=>none
    |_=>none
   |_=>none
 | .slice st x lo hi none=>match jr T S 0 x with
   |some (gx,.val (.slc false e d es))=>match ZU T st with
    |some e'=>match jH e e' with
     |true=>match zcc T S 0 lo,zcc T S (L.len es) hi with
      |some (gl,l),some (gh,h)=>some (yS L g gx++yS L g gl++yS L g gh++Yo L g [L.le 0 l,L.le l h,L.le h (L.len es)],.val (.slc false e d (L.sli es l h)))
      |_,_=>none
     |false=>none
    |none=>none
   |some (gx,.val (.str s))=>match zb0 T st with
    |true=>match zcc T S 0 lo,zcc T S (L.lenS s) hi with
     |some (gl,l),some (gh,h)=>some (yS L g gx++yS L g gl++yS L g gh++Yo L g [L.le 0 l,L.le l h,L.le h (L.lenS s)],.val (.str (L.extS s l h)))
     |_,_=>none
    |false=>none
   |_=>none
 | .convert s d x=>match zfX T s,zfX T d,jr T S s x with
   |some _,some k,some (gx,.val (.int _ n))=>some (yS L g gx,.val (.int k (L.wrap k n)))
   |none,none,some (gx,.rf sl _ [])=>match zb0 T d,ZU T s,jW S sl with
    |true,some e,some (.slc true e' _ es)=>match jH e e',zfX T e,qE T e with
     |true,some .u8,some ti=>match jH ti.cells 1 with
      |true=>some (yS L g gx++Yo L g [L.byt es],.val (.str (L.strB es)))
      |false=>none
     |_,_,_=>none
    |_,_,_=>none
   |_,_,_=>none
 | .alloc t=>match qE T t with
   |some ti=>some ([],.val (.box t ti.zero))
   |none=>none
 | .box t x=>match jr T S t x with
   |some (gx,.val v)=>match v.owned with
    |false=>match zhL T t v with
     |true=>some (yS L g gx,.val (.box t v))
     |false=>none
    |true=>none
   |_=>none
 | .makeSlice t l c=>match ZU T t with
   |some e=>match zhE T S l,zhE T S c,qE T e with
    |some (gl,n),some (gc,m),some ti=>some (yS L g gl++yS L g gc++Yo L g [L.le 0 n,L.le n m,L.le m 2147483647],.val (.slc true e ti.zero (L.rep n ti.zero)))
    |_,_,_=>none
   |none=>none
 | .buildSlice t n parts=>match ZU T t with
   |some e=>match qE T e,zfE L T S g (fun _=>e) parts.toList with
    |some ti,some (ps,vs)=>match zgn (n*ti.cells) 1048576 with
     |true=>match Kc (List.replicate n ti.zero) vs with
      |some es=>some (ps,.val (.slc true e ti.zero es))
      |none=>none
     |false=>none
    |_,_=>none
   |none=>none
 | .build t parts=>match qE T t with
   |some ⟨.agg fts,_,.agg zs⟩=>match zfE L T S g (zoq fts) parts.toList with
    |some (ps,vs)=>match Kc zs vs with
     |some fs=>some (ps,.val (.agg fs))
     |none=>none
    |none=>none
   |_=>none
 | .makeFunc (.func f) first caps=>match first.toList,zfE L T S g (fun _=>0) (caps.toList.map fun x=>(0,x))with
   |[],some (ps,vs)=>match f==1000000000 with
    |true=>none
    |false=>some (ps,.val (.fn f (vs.map (·.2))))
   |_,_=>none
 | .call c=>match c.callee with
   | .builtin .len=>match c.args.toList,c.argTypes.toList with
     |[x],[t]=>match jr T S 0 x with
      |some (gx,a)=>match zc0 L T S a with
       |some (.slc _ _ _ es,ps)=>match ZU T t with
        |some _=>some (yS L g gx++Yo L g ps,.val (.int .i64 (L.len es)))
        |none=>none
       |some (.str s,ps)=>match zb0 T t with
        |true=>some (yS L g gx++Yo L g ps,.val (.int .i64 (L.lenS s)))
        |false=>none
       |_=>none
      |none=>none
     |_,_=>none
   | .builtin .min=>match c.args.toList with
     |[x,y]=>match jr T S o.type x,jr T S o.type y with
      |some (gx,.val (.int k a)),some (gy,.val (.int k' b))=>match ikE k k' with
       |true=>some (yS L g gx++yS L g gy,.val (.int k (L.imin a b)))
       |false=>none
      |_,_=>none
     |_=>none
   | .builtin .max=>match c.args.toList with
     |[x,y]=>match jr T S o.type x,jr T S o.type y with
      |some (gx,.val (.int k a)),some (gy,.val (.int k' b))=>match ikE k k' with
       |true=>some (yS L g gx++yS L g gy,.val (.int k (L.imax a b)))
       |false=>none
      |_,_=>none
     |_=>none
   | .value f=>match jr T S 0 f with
     |some (gf,.val (.fn k caps))=>match zed L T S g c.args.toList c.argTypes.toList with
      |some (ps,vs,br)=>match k==1000000000 with
       |true=>none
       |false=>match zce B k with
        |some ct=>match ct (vs++caps)with
         |some (qs,r)=>match zAf T B S k c.args.toList c.argTypes.toList br with
          |true=>match r.isFn with
           |true=>none
           |false=>some (yS L g gf++ps++Yo L g (qs++zcY L r),.val (zw1 L B k r))
          |false=>some (yS L g gf++ps++Yo L g qs,.val (zw1 L B k r))
         |none=>none
        |none=>none
      |none=>none
     |_=>none
   |_=>none
 |_=>none
def zgA(s:Nat)(p:List Nat):List V->Nat->zU->Option (List Prop×List V×zU)
 |[],_,S=>some ([],[],S)
 |f::fs,i,S=>match f.leaf with
  |true=>match f.owned with
   |true=>match jW S s with
    |some r=>match atR L T r (p++[i])with
     |some (y,ps)=>match y.isH with
      |true=>match Yd L T r (p++[i]) (.hole 1)with
       |some r'=>match zgA s p fs (i+1) (Qg S s r')with
        |some (qs,ys,S')=>some (ps++qs,y::ys,S')
        |none=>none
       |none=>none
      |false=>none
     |none=>none
    |none=>none
   |false=>match zgA s p fs (i+1) S with
    |some (qs,ys,S')=>some (qs,f::ys,S')
    |none=>none
  |false=>none
def zes(s:Nat)(p:List Nat):List V->Nat->zU->Option (List Prop×List V×zU)
 |[],_,S=>some ([],[],S)
 |f::fs,i,S=>match f.leaf with
  |true=>match f.owned with
   |true=>match jW S s with
    |some r=>match atR L T r (p++[i])with
     |some (y,ps)=>match y.isH with
      |true=>match Yd L T r (p++[i]) (.hole 1)with
       |some r'=>match zes s p fs (i+1) (Qg S s r')with
        |some (qs,ys,S')=>some (ps++qs,y::ys,S')
        |none=>none
       |none=>none
      |false=>none
     |none=>none
    |none=>none
   |false=>match zes s p fs (i+1) S with
    |some (qs,ys,S')=>some (qs,f::ys,S')
    |none=>none
  |false=>match f with
   | .agg gs=>match zgA L T s (p++[i]) gs 0 S with
     |some (ps,zs,S1)=>match zes s p fs (i+1) S1 with
      |some (qs,ys,S')=>some (ps++qs,.agg zs::ys,S')
      |none=>none
     |none=>none
   |_=>none
def JW(S:zU):A->Option (List Prop×V×zU)
 | .val x=>some ([],x,S)
 | .rf s _ p=>match jW S s with
   |some r=>match p with
    |[]=>some ([],r,Jr s S)
    |i::q=>match r with
     | .tup fs=>match q with
       |[]=>match zdF fs i with
        |some y=>some ([],y,Qg S s (.tup (fs.set i (.hole y.size))))
        |none=>none
       |_=>none
     |_=>match atR L T r p with
      |some (y,ps)=>match y.isH with
       |true=>match Yd L T r p (.hole 1)with
        |some r'=>some (ps,y,Qg S s r')
        |none=>none
       |false=>none
      |none=>none
   |none=>none
 | .ag s _ p fs=>match zes L T s p fs 0 S with
   |some (ps,ys,S')=>some (ps,.agg ys,S')
   |none=>none
 |_=>none
def wS(S:zU)(o:Oper):Option (List Prop×zU):=
 match o.guard with
 |some _=>none
 |none=>match o.op,o.dst with
  | .assign x,some d=>match jr T S o.type x with
    |some (gx,.rf s _ p)=>match JW L T S (.rf s 0 p)with
     |some (ps,y,S1)=>match y.isHole with
      |true=>none
      |false=>match p with
       |[]=>match jH s d with
        |true=>none
        |false=>some (yS L none gx++ps,jl (jl S1 d none (.val y)) s none (.rf d 0 []))
       |_=>match jW S s with
        |some (.tup _)=>some (yS L none gx++ps,jl S1 d none (.val y))
        |_=>none
     |none=>none
    |some (gx,.val v)=>match v.owned&& !v.isHole with
     |true=>some (yS L none gx,jl S d none (.val v))
     |false=>none
    |_=>none
  | .store t x v,none=>match jr T S t v with
    |some (gv,av)=>match JW L T S av with
     |some (ps,y,S1)=>match zhL T t y&&y.solid&&Jf 0 y.size with
      |true=>match jr T S1 0 x with
       |some (gx,.ad s _ p)=>match jW S1 s with
        |some r=>match p,zxg L T r p,Yd L T r p y with
         |_::_,some (z,qs),some r'=>match jH z.size y.size&&(z.isScalar&&y.isScalar|| !Kx T t)with
          |true=>some (yS L none gv++ps++yS L none gx++qs,match z.isScalar&&y.isScalar with
           |true=>Qg S1 s r'
           |false=>Qg (zja s S1) s r')
          |false=>none
         |_,_,_=>none
        |none=>none
       |some (gx,.rf s _ p)=>match jW S1 s with
        |some r=>match atR L T r p,Yd L T r (p++[0]) y with
         |some (.box _ z,qs),some r'=>match jH z.size y.size&&(z.isScalar&&y.isScalar|| !Kx T t)with
          |true=>some (yS L none gv++ps++yS L none gx++qs,match z.isScalar&&y.isScalar with
           |true=>Qg S1 s r'
           |false=>Qg (zja s S1) s r')
          |false=>none
         |_,_=>none
        |none=>none
       |_=>none
      |false=>none
     |none=>none
    |none=>none
  | .call ⟨.builtin .append,args,ats⟩,some d=>match args.toList,ats.toList with
    |[x,y],[t,t']=>match jH t t' with
     |true=>match ZU T t with
      |some e=>match jr T S t x with
       |some (gx,ax)=>match JW L T S ax with
        |some (ps,.slc true e' dd es,S1)=>match jr T S1 t y with
         |some (gy,ay)=>match zc0 L T S1 ay with
          |some (.slc oy ey _ es2,qs)=>match jH e e'&&jH e ey&&Jf 0 (kK T e)with
           |true=>match oy&& !(Kx T e)with
            |false=>some (yS L none gx++ps++yS L none gy++qs++[L.nown es2,L.le (L.add (L.len es) (L.len es2)) 2147483647,L.solid es2],jl S1 d none (.val (.slc true e dd (L.app es es2))))
            |true=>match JW L T S1 ay with
             |some (rs,.slc true _ _ es3,S2)=>some (yS L none gx++ps++yS L none gy++qs++rs++[L.le (L.add (L.len es) (L.len es3)) 2147483647,L.solid es3],jl S2 d none (.val (.slc true e dd (L.app es es3))))
             |_=>none
           |false=>none
          |_=>none
         |none=>none
        |_=>none
       |none=>none
      |none=>none
     |false=>none
    |_,_=>none
  |_,_=>none
abbrev kQ:=List V->Option (List Prop×V×V)
abbrev qN:=List (FuncId×Nat×Bool×kQ)
def zdG:qN->FuncId->Option (Nat×Bool×kQ)
 |[],_=>none
 |(k,f)::l,t=>match jH k t with
  |true=>some f
  |false=>zdG l t
def ioS(S:zU):A->Option (List Prop×V×zU×(V->Option zU))
 | .rf s _ p=>match jW S s with
   |some r=>match p with
    |[]=>match r.isH with
     |true=>some ([],r,Jr s S,fun y=>some (Qg S s y))
     |false=>none
    |i::q=>match atR L T r (i::q)with
     |some (x,ps)=>match x.isH with
      |true=>match Yd L T r (i::q) (.hole 1)with
       |some r1=>some (ps,x,Qg S s r1,fun y=>match Yd L T r (i::q) y with
        |some r2=>some (Qg S s r2)
        |none=>none)
       |none=>none
      |false=>none
     |none=>none
   |none=>none
 | .ag s _ p fs=>match jW S s with
   |some r=>match p with
    |[]=>none
    |i::q=>match atR L T r (i::q)with
     |some (.agg gs,ps)=>match zhW fs gs with
      |true=>match Yd L T r (i::q) (.hole (V.sizes gs))with
       |some r1=>some (ps,.agg (mrg fs gs),Qg S s r1,fun y=>match y with
        | .agg xs=>match Yd L T r (i::q) (.agg (zhy fs gs xs))with
          |some r2=>some (Qg S s r2)
          |none=>none
        |_=>none)
       |none=>none
      |false=>none
     |_=>none
   |none=>none
 |_=>none
def iS(B:jZ)(Bi:qN)(S:zU)(o:Oper):Option (List Prop×zU):=
 match o.guard with
 |some _=>none
 |none=>match o.op with
  | .call ⟨.value (.func k),args,ats⟩=>match zce B k with
    |some _=>none
    |none=>match zdG Bi k with
     |some (j,false,c)=>match KB (j%1000) args.toList with
      |some x=>match jr T S 0 x with
       |some (gx,a)=>match ioS L T S a with
        |some (ps,y,S1,back)=>match zed L T S1 none (qT (j%1000) args.toList) (qT (j%1000) ats.toList)with
         |some (qs,vs,br)=>match c (QN (j%1000) y vs)with
          |some (rs,r,y')=>match back y' with
           |some S2=>match (br&&(r.isFn||y'.isFn))||(jw j&& !(zap a&&y.bare))with
            |true=>none
            |false=>some (yS L none gx++ps++qs++rs++(match br with
             |true=>zcY L r++zcY L y'
             |false=>[]),match o.dst with
             |some d=>jl S2 d none (.val r)
             |none=>S2)
           |none=>none
          |none=>none
         |none=>none
        |none=>none
       |none=>none
      |none=>none
     |_=>none
  |_=>none
def vS(B:jZ)(Bi:qN)(S:zU)(o:Oper):Option (List Prop×zU):=
 match o.guard with
 |some _=>none
 |none=>match o.op with
  | .call ⟨.value (.func k),args,ats⟩=>match zce B k with
    |some _=>none
    |none=>match zdG Bi k with
     |some (j,true,c)=>match KB j args.toList with
      |some x=>match jr T S (ats.toList.getD j 0) x with
       |some (gx,a)=>match JW L T S a with
        |some (ps,y,S1)=>match zed L T S1 none (qT j args.toList) (qT j ats.toList)with
         |some (qs,vs,br)=>match c (QN j y vs)with
          |some (rs,r,_)=>match br&&r.isFn with
           |true=>none
           |false=>some (yS L none gx++ps++qs++rs++(match br with
            |true=>zcY L r
            |false=>[]),match o.dst with
            |some d=>jl S1 d none (.val r)
            |none=>S1)
          |none=>none
         |none=>none
        |none=>none
       |none=>none
      |none=>none
     |_=>none
  |_=>none
def bS(S:zU)(o:Oper):Option (List Prop×zU):=
 match o.guard with
 |some _=>none
 |none=>match o.op,o.dst with
  | .box t x,some d=>match jr T S t x with
    |some (gx,.rf s _ p)=>match p with
     |[]=>match jW S s with
      |some (.agg fs)=>match !(jH s d)&&zhW fs fs with
       |true=>some (yS L none gx,jl (jl (Jr s S) d none (.val (.box t (.agg fs)))) s none (.ag d 0 [0] fs))
       |false=>none
      |_=>none
     |_=>none
    |_=>none
  |_,_=>none
def zee(ty:Nat->TypeId):zU->List (Nat×Operand)->Option (List Prop×List (Nat×V)×zU)
 |S,[]=>some ([],[],S)
 |S,(i,x)::xs=>match jr T S (ty i) x with
  |some (gx,a)=>match JW L T S a with
   |some (ps,y,S1)=>match y.isHole with
    |true=>none
    |false=>match zee ty S1 xs with
     |some (qs,vs,S2)=>some (yS L none gx++ps++qs,(i,y)::vs,S2)
     |none=>none
   |none=>none
  |none=>none
def mS(S:zU)(o:Oper):Option (List Prop×zU):=
 match o.guard with
 |some _=>none
 |none=>match o.op,o.dst with
  | .build t parts,some d=>match qE T t with
    |some ⟨.agg fts,_,.agg zs⟩=>match zee L T (zoq fts) S parts.toList with
     |some (ps,vs,S1)=>match Kc zs vs with
      |some fs=>some (ps,jl S1 d none (.val (.agg fs)))
      |none=>none
     |none=>none
    |_=>none
  | .buildSlice t n parts,some d=>match ZU T t with
    |some e=>match qE T e,zee L T (fun _=>e) S parts.toList with
     |some ti,some (ps,vs,S1)=>match zgn (n*ti.cells) 1048576&&Jf 0 n with
      |true=>match Kc (List.replicate n ti.zero) vs with
       |some es=>some (ps,jl S1 d none (.val (.slc true e ti.zero es)))
       |none=>none
      |false=>none
     |_,_=>none
    |none=>none
  |_,_=>none
def fS(S:zU)(o:Oper):Option (List Prop×zU):=
 match o.guard with
 |some _=>none
 |none=>match o.op,o.dst with
  | .slice st x lo hi mx,some d=>match jr T S 0 x with
    |some (gx,.rf s _ p)=>match p with
     |[]=>match jW S s with
      |some (.slc true e dd es)=>match ZU T st with
       |some e'=>match jH e e'&& !(jH s d)&&(hi.isSome|| !mx.isSome)with
        |true=>match zcc T S 0 lo,zcc T S (L.len es) hi,zcc T S (L.len es) mx with
         |some (gl,l),some (gh,h),some (gm,m)=>some (yS L none gx++yS L none gl++yS L none gh++yS L none gm++[L.le 0 l,L.le l h,L.le h m,L.le m (L.len es)],
          jl (jl (Jr s S) s none (.val (.slc false e dd.frz (L.frz es)))) d none (.val (.slc false e dd.frz (L.sli (L.frz es) l h))))
         |_,_,_=>none
        |false=>none
       |none=>none
      |_=>none
     |_=>none
    |_=>none
  |_,_=>none
def zgm:List Oper->Nat->Option Oper
 |[],_=>none
 |x::_,0=>some x
 |_::l,i+1=>zgm l i
def zlQ(L:Alg)(g:Option Bool)(b:Bool):Option Bool:=match g with
 |none=>some b
 |some a=>some (L.and a b)
def gdS(ops:List Oper)(S:zU)(o:Oper):Option (Option Bool):=match o.guard with
 |none=>some none
 |some (j,want)=>match zgm ops j with
  |some o'=>match o'.dst with
   |some t=>match look S t with
    |some (g,.val (.bool b))=>match want with
     |true=>some (zlQ L g b)
     |false=>some (zlQ L g (L.not b))
    |_=>none
   |none=>none
  |none=>none
def kT:Op->Bool
 | .assign _=>true
 | .store _ _ _=>true
 | .call ⟨.builtin _,_,_⟩=>true
 |_=>false
def zzN:Op->Bool
 | .call ⟨.builtin .len,_,_⟩=>true
 | .call ⟨.builtin .min,_,_⟩=>true
 | .call ⟨.builtin .max,_,_⟩=>true
 |_=>false
def zwV(o:Oper):Bool:=match o.op with
 | .assign _=>Kx T o.type
 |_=>false
def kO(o:Oper):Bool:=kT o.op&& !zzN o.op&& !zwV T o
def Yv(lo:Nat)(st:Bool)(o:Oper):Bool:=(match o.dst with
    |some d=>zgn lo d
    |none=>true)&&(!st||match o.op with
    | .store t _ _=>Kx T t
    | .call ⟨.builtin .append,_,_⟩=>false
    | .slice .. =>false
    |_=>true)
def zaZ(lo:Nat)(st:Bool):List Oper->Bool
 |[]=>true
 |o::l=>Yv T lo st o&&zaZ lo st l
def zln:Option (Option Bool×A)->Bool
 |some (_,.val x)=>x.owned
 |_=>false
def zy2(B:jZ)(n:Nat)(ops:List Oper)(S:zU)(o:Oper):Option (List Prop×zU):=
 match gdS L ops S o with
 |some g=>match o.dst with
  |some d=>match Jf d n with
   |true=>match uk L T B S g o with
    |some (ps,a)=>match a.at0 d|| !kO T o&&zln (look S d)with
     |true=>none
     |false=>some (ps,jl S d g a)
    |none=>match kO T o with
     |true=>wS L T S o
     |false=>none
   |false=>none
  |none=>wS L T S o
 |none=>none
def ZA:List Prop->Prop->Prop
 |[],r=>r
 |p::l,r=>p/\ZA l r
def evS(B:jZ)(n:Nat)(ops:List Oper):List Oper->zU->(zU->Prop)->Prop
 |[],S,K=>K S
 |o::l,S,K=>match zy2 L T B n ops S o with
  |some (ps,S')=>ZA ps (evS B n ops l S' K)
  |none=>False
def zwd(B:jZ)(Bi:qN)(n:Nat)(ops:List Oper)(S:zU)(o:Oper):Option (List Prop×zU):=
 match gdS L ops S o with
 |some g=>match o.dst with
  |some d=>match Jf d n with
   |true=>match uk L T B S g o with
    |some (ps,a)=>match a.at0 d with
     |true=>none
     |false=>some (ps,jl S d g a)
    |none=>match wS L T S o with
     |some r=>some r
     |none=>match iS L T B Bi S o with
      |some r=>some r
      |none=>match bS L T S o with
       |some r=>some r
       |none=>match mS L T S o with
        |some r=>some r
        |none=>match fS L T S o with
         |some r=>some r
         |none=>vS L T B Bi S o
   |false=>none
  |none=>match wS L T S o with
   |some r=>some r
   |none=>match iS L T B Bi S o with
    |some r=>some r
    |none=>match bS L T S o with
     |some r=>some r
     |none=>match mS L T S o with
      |some r=>some r
      |none=>match fS L T S o with
       |some r=>some r
       |none=>vS L T B Bi S o
 |none=>none
def zwL(S:zU)(n:Nat)(o:Oper):Option (Nat×List Prop×List V×Bool×Bool):=
 match o.guard with
 |some _=>none
 |none=>match o.op,o.dst with
  | .binOp op xt x (.const (.slice none 0 0)) _,some d=>match zwW op with
    |some ng=>match Jf d n with
     |true=>match ZU T xt,jr T S xt x with
      |some _,some (gx,a)=>match zc0 L T S a with
       |some (.slc oo _ dd es,ps)=>some (d,yS L none gx++ps,es,oo&&dd.isBox,ng)
       |_=>none
      |_,_=>none
     |false=>none
    |none=>none
  |_,_=>none
def zM(PS:List Nat)(o:Oper):Bool:=match o.op,o.dst with
 | .call ⟨.value (.func _),_,_⟩,some d=>ju PS (d+600)
 |_,_=>false
def zy1(B:jZ)(n:Nat)(ops:List Oper)(S:zU)(o:Oper):Option (List Prop×zU):=
 match gdS L ops S o with
 |some g=>match o.dst with
  |some d=>match Jf d n with
   |true=>match uk L T B S g o with
    |some (ps,.val y)=>match y.owned with
     |true=>some (ps,jl (Jr d (jl S d g (.val y))) d g (.val (zaF L y)))
     |false=>none
    |_=>none
   |false=>none
  |none=>none
 |none=>none
def zwF:List Nat->List Nat->Bool
 |[],_::_=>true
 |i::q,j::p=>match jH i j with
  |true=>zwF q p
  |false=>false
 |_,[]=>false
def zdH(d:Nat)(p:List Nat):zU->zU
 |[]=>[]
 |(k,g,a)::l=>match a.at0 d with
  |true=>match a with
   | .rf _ _ q=>match zwF q p with
     |true=>(k,g,a)::zdH d p l
     |false=>zdH d p l
   |_=>zdH d p l
  |false=>(k,g,a)::zdH d p l
def kZ(PS:List Nat)(o:Oper):Bool:=match o.op,o.dst with
 | .store _ _ _,none=>ju PS 997
 |_,_=>false
def zy5(S:zU)(o:Oper):Option (List Prop×zU):=
 match o.guard with
 |some _=>none
 |none=>match o.op,o.dst with
  | .store t x v,none=>match jr T S t v with
    |some (gv,av)=>match JW L T S av with
     |some (ps,y,S1)=>match zhL T t y&&y.solid&&Jf 0 y.size with
      |true=>match jr T S1 0 x with
       |some (gx,.ad s _ p)=>match jW S1 s with
        |some r=>match p,zxg L T r p,Yd L T r p y with
         |_::_,some (z,qs),some r'=>match jH z.size y.size&& !(z.isScalar&&y.isScalar)with
          |true=>some (yS L none gv++ps++yS L none gx++qs,Qg (zdH s p S1) s r')
          |false=>none
         |_,_,_=>none
        |none=>none
       |_=>none
      |false=>none
     |none=>none
    |none=>none
  |_,_=>none
def nM(PS:List Nat)(o:Oper):Bool:=match o.op,o.dst with
 | .assign _,some d=>ju PS (d+400)
 |_,_=>false
def zy3(B:jZ)(Bi:qN)(n:Nat)(ops:List Oper)(S:zU)(o:Oper):Option (List Prop×zU):=
 match o.op,o.dst with
 | .assign (.const (.slice none 0 0)),some d=>match o.guard with
   |some _=>none
   |none=>match Jf d n with
    |true=>match ZU T o.type with
     |some e=>some ([],jl S d none (.val (.slc true e V.nilG [])))
     |none=>none
    |false=>none
 |_,some d=>match zwd L T B Bi n ops S o with
  |some (ps,S1)=>match jW S1 d with
   |some (.slc true e _ es)=>some (ps++[L.lt 0 (L.len es)],jl (Jr d S1) d none (.val (.slc true e V.nilG es)))
   |_=>none
  |none=>none
 |_,none=>none
def zaG(PS:List Nat):zU->List Operand->zU
 |S,[]=>S
 |S,.tmp t::l=>match ju PS (t+800)with
  |true=>match jW S t with
   |some (.slc true e d es)=>zaG PS (jl (Jr t S) t none (.val (zaF L (.slc true e d es)))) l
   |_=>zaG PS S l
  |false=>zaG PS S l
 |S,_::l=>zaG PS S l
def zhu:Op->List Operand
 | .call ⟨.value (.func _),args,_⟩=>args.toList
 |_=>[]
def giS(B:jZ)(Bi:qN)(n:Nat)(ops:List Oper)(S:zU)(o:Oper):Option (Bool×List Prop×zU×zU):=
 match o.guard with
 |none=>none
 |some _=>match gdS L ops S o,o.dst with
  |some (some b),some d=>match Jf d n with
   |true=>match iS L T B Bi S {o with guard:=none}with
    |some (ps,S1)=>match look S1 d with
     |some (none,.val r)=>some (b,ps,S1,jl S d (some b) (.val r))
     |_=>none
    |none=>none
   |false=>none
  |_,_=>none
def rS(n:Nat)(S:zU)(o:Oper):Option (List Prop×zU):=match o.guard,o.op,o.dst with
 |none,.slice st x none (some hi) none,some d=>match jr T S 0 x,zhE T S hi,ZU T st with
  |some (gx,.rf s _ []),some (gi,m),some e=>match jW S s with
   |some (.slc true e' dd es)=>match jH e e',dd.isBox,Jf d n with
    |true,false,true=>some (yS L none gx++yS L none gi++[L.le 0 m,L.le m (L.len es)],jl (Jr s S) d none (.val (.slc true e' dd (L.sli es 0 m))))
    |_,_,_=>none
   |_=>none
  |_,_,_=>none
 |_,_,_=>none
def rM(PS:List Nat)(o:Oper):Bool:=match o.op,o.dst with
 | .slice _ _ _ _ _,some d=>ju PS (d+300)
 |_,_=>false
def c2S(n:Nat)(S:zU)(o o2:Oper):Option (List Prop×zU):=match o.guard,o.op,o.dst,o2.guard,o2.op,o2.dst with
 |none,.slice st x (some lo) none none,some d,none,.call ⟨.builtin .clear,args,ats⟩,none=>match args.toList,ats.toList,jr T S 0 x,zhE T S lo,ZU T st with
  |[.tmp t],[ty],some (gx,.rf s _ []),some (gi,m),some e=>match jW S s,qE T e with
   |some (.slc true e' dd es),some ti=>match jH e e'&&(jH ti.cells 1&&(jH t d&&(jH ty st&&(Jf d n&&(ti.zero.solid&& !(jH s d||dd.isBox))))))with
    |true=>some (yS L none gx++yS L none gi++[L.le 0 m,L.le m (L.len es)],jl (jl (Jr s S) s none (.val (.slc true e' dd (L.app (L.sli es 0 m) (L.rep (L.sub (L.len es) m) (.hole 1)))))) d none (.val (.hole 1)))
    |false=>none
   |_,_=>none
  |_,_,_,_,_=>none
 |_,_,_,_,_,_=>none
def c2L(PS:List Nat)(n:Nat)(S:zU)(o:Oper):List Oper->Option (List Prop×zU)
 |o2::_=>match o.dst with
  |some d=>match ju PS (d+800)with
   |true=>c2S L T n S o o2
   |false=>none
  |none=>none
 |[]=>none
def evL(B:jZ)(Bi:qN)(PS:List Nat)(n:Nat)(ops:List Oper):List Oper->zU->(zU->Prop)->Prop
 |[],S,K=>K S
 |o::l,S,K=>match zwL L T S n o with
  |some (d,ps,es,xx,ng)=>ZA ps (L.imp (L.eqI (L.len es) 0) (evL B Bi PS n ops l (jl S d none (.val (.bool (!ng)))) K)/\(match xx with
   |true=>L.imp (L.not (L.eqI (L.len es) 0)) (evL B Bi PS n ops l (jl S d none (.val (.bool ng))) K)
   |false=>evL B Bi PS n ops l (jl S d none (.val (.bool ng))) K))
  |none=>match giS L T B Bi n ops S o with
   |some (b,ps,S1,S0)=>L.imp b (ZA ps (evL B Bi PS n ops l S1 K))/\L.imp (L.not b) (evL B Bi PS n ops l S0 K)
   |none=>match c2L L T PS n S o l with
    |some (ps,S')=>ZA ps (match l with
     |_::l2=>evL B Bi PS n ops l2 S' K
     |[]=>False)
    |none=>match (match rM PS o with
     |true=>rS L T n S o
     |false=>match kZ PS o with
      |true=>zy5 L T S o
      |false=>match zM PS o with
       |true=>zy1 L T B n ops S o
       |false=>match nM PS o with
        |true=>zy3 L T B Bi n ops S o
        |false=>zwd L T B Bi n ops (zaG L PS S (zhu o.op)) o)with
     |some (ps,S')=>ZA ps (evL B Bi PS n ops l S' K)
     |none=>False
def zqL(lo:Nat):List Nat->List Nat
 |[]=>[]
 |x::l=>match zgn lo x with
  |true=>match Jf x (lo+1000)with
   |true=>(x-lo)::zqL lo l
   |false=>zqL lo l
  |false=>match zgn 1000000000 x with
   |true=>zqL lo l
   |false=>[]
def zr1(base:Nat)(ks:List Nat)(id:Nat):List Nat:=match ks with
 |[]=>[]
 |x::_=>match zgn 1000000000 x with
  |true=>zqL (base+1000*id) ks
  |false=>[]
def ziM(ks:List Nat)(id:Nat):List Nat:=zr1 2000000000 ks id
def zlC(ks:List Nat)(id:Nat):List Nat:=zr1 1000000000 ks id
def ziX(ks:List Nat)(id:Nat):List Nat:=zr1 3000000000 ks id
def appS:List Oper->List Oper->List Oper
 |[],l=>l
 |x::k,l=>x::appS k l
def zfQ(H:List Nat):Nat->List Oper->List Oper
 |_,[]=>[]
 |i,o::l=>match ju H i with
  |true=>zfQ H (i+1) l
  |false=>o::zfQ H (i+1) l
def zmS(ops:List Oper):List Nat->List Oper
 |[]=>[]
 |i::H=>match zgm ops i with
  |some o=>o::zmS ops H
  |none=>zmS ops H
def zCC(ops:List Oper)(H:List Nat):List Oper:=match H with
 |[]=>ops
 |i::H=>appS (zmS ops (i::H)) (zfQ (i::H) 0 ops)
def fz1(S:zU)(s:Nat):zU:=match jW S s with
 |some (.slc true e d es)=>jl (Jr s S) s none (.val (.slc false e d.frz (L.frz es)))
 |some (.box e c)=>jl (Jr s S) s none (.val (.box e (zaF L c)))
 |_=>S
def fz2(S:zU)(s:Nat):zU:=match jW S s with
 |some (.box _ c)=>jl (Jr s S) s none (.val (.fn 1000000000 [zaF L c]))
 |_=>S
def ghN:V->V
 | .box _ _=>.int .i64 0
 |d=>d.frz
def gh1(S:zU)(s:Nat):zU:=match jW S s with
 |some (.slc true e d es)=>jl (Jr s S) s none (.val (.slc true e (ghN d) es))
 |_=>S
def gh2(S:zU)(s:Nat):zU:=match jW S s with
 |some (.box e (.agg (.slc true e' d es::fs)))=>jl (Jr s S) s none (.val (.box e (.agg (.slc true e' (ghN d) es::fs))))
 |_=>S
def fzL:List Nat->zU->zU
 |[],S=>S
 |s::l,S=>match zgn 900 s with
  |true=>fzL l (fz2 L S (s-900))
  |false=>match zgn 700 s with
   |true=>fzL l (gh2 S (s-700))
   |false=>match zgn 500 s with
    |true=>fzL l (gh1 S (s-500))
    |false=>fzL l (fz1 L S s)
def kM(PS:List Nat)(o:Oper):Bool:=match o.op with
 | .assign (.tmp t)=>match ju PS t with
   |true=>false
   |false=>kO T o
 | .call ⟨.builtin .append,args,_⟩=>match args.toList,o.dst with
   |[.tmp t,_],some _=>match ju PS t with
    |true=>false
    |false=>kO T o
   |_,_=>kO T o
 | .call ⟨.value (.func _),_,_⟩=>ju PS 999||zM PS o||(ju PS 995&&(match o.dst with
   |some d=>ju PS (d+800)
   |none=>false))||(ju PS 996&&(match o.dst with
   |some d=>ju PS (d+700)
   |none=>false))
 |_=>kO T o
def zrf:List (Nat×Operand)->List Operand
 |[]=>[]
 |(_,x)::l=>x::zrf l
def zzy:Op->Option (List Operand)
 | .assign x=>some [x]
 | .build _ ps=>some (zrf ps.toList)
 | .buildSlice _ _ ps=>some (zrf ps.toList)
 | .call ⟨.builtin .append,args,_⟩=>some args.toList
 |_=>none
def zxO(S:zU):Operand->Bool
 | .tmp t=>match look S t with
   |some (none,.val x)=> !x.owned
   |_=>false
 | .global _=>false
 |_=>true
def ziN(S:zU):List Operand->Bool
 |[_,y]=>zxO S y
 |_=>false
def zoh(S:zU):List Operand->List TypeId->Bool
 |[.tmp v,.tmp u],[t,_]=>(match look S u with
  |some (none,.val z)=>z.owned
  |_=>false)&& !(jH v u)&&(match ZU T t with
  |some e=>Kx T e
  |none=>false)
 |_,_=>false
def zmi(PS:List Nat)(S:zU):Operand->Bool
 | .tmp t=>match look S t with
   |some (none,.val x)=> !x.owned||ju PS t
   |_=>false
 | .global _=>false
 |_=>true
def zjD(PS:List Nat)(S:zU):List Operand->Bool
 |[]=>true
 |x::l=>zmi PS S x&&zjD PS S l
def pS(PS:List Nat)(S:zU)(o:Oper):Option (List Prop×zU):=
 match zzy o.op with
 |some l=>match zjD PS S l with
  |true=>match o.guard with
   |some _=>none
   |none=>match o.op,o.dst with
    | .assign x,some d=>match jr T S o.type x with
      |some (gx,a)=>match JW L T S a with
       |some (ps,y,S1)=>match y.isHole with
        |true=>none
        |false=>some (yS L none gx++ps,jl S1 d none (.val y))
       |none=>none
      |none=>none
    | .call ⟨.builtin .append,args,ats⟩,some _=>match ziN S args.toList||zoh T S args.toList ats.toList with
      |true=>wS L T S o
      |false=>none
    |_,_=>mS L T S o
  |false=>none
 |none=>none
def zqG(PS:List Nat):A->Bool
 | .rf s _ _=>ju PS s
 | .ad s _ _=>ju PS s
 | .ag s _ _ _=>ju PS s
 |_=>false
def zmW(PS:List Nat)(S:zU):Operand->Bool
 | .tmp t=>match look S t with
   |some (none,.val x)=> !x.owned|| !ju PS (t+800)
   |some (none,.fz _)=>true
   |some (none,.rf s _ _)=> !ju PS (s+800)
   |some (none,.ad s _ _)=> !ju PS (s+800)
   |_=>false
 | .global _=>false
 |_=>true
def zmV(PS:List Nat)(S:zU):List Operand->Bool
 |[]=>true
 |x::l=>zmW PS S x&&zmV PS S l
def zwU(PS:List Nat)(S:zU)(o:Oper):Bool:=match o.op with
 | .call ⟨.builtin .append,args,ats⟩=>match args.toList,ats.toList with
   |[.tmp tx,.tmp ty],[t,_]=>match look S tx,look S ty with
    |some (none,.rf s _ (_::_)),some (none,.val _)=>(match jW S s with
     |some (.slc ..)=>true
     |some (.box ..)=>true
     |some (.agg ..)=>true
     |_=>false)&& !(jH s ty)&&ju PS (s+800)&&(match ZU T t with
     |some e=>Kx T e
     |none=>false)
    |_,_=>false
   |_,_=>false
 |_=>false
def zom(PS:List Nat)(S:zU)(o:Oper):Bool:=match o.op with
 | .store _ (.tmp tx) (.tmp tv)=>match look S tv with
   |some (none,.val y)=> !y.owned&&(match look S tx with
    |some (none,.ad s _ _)=>ju PS (s+800)&&(match jW S s with
     |some _=>true
     |none=>false)
    |some (none,.rf s _ _)=>ju PS (s+800)&&(match jW S s with
     |some _=>true
     |none=>false)
    |some (none,.val _)=>ju PS (tx+800)&&(match jW S tx with
     |some _=>true
     |none=>false)
    |_=>false)
   |_=>false
 |_=>false
def zda(S:zU):List Operand->Bool
 |[]=>true
 | .tmp t::l=>(match look S t with
   |some (none,.val _)=>true
   |_=>false)&&zda S l
 |_::l=>zda S l
def zon(Bi:qN)(PS:List Nat)(S:zU)(o:Oper):Bool:=match o.op with
 | .call ⟨.value (.func k),args,_⟩=>match zdG Bi k with
   |some (j,false,_)=>match KB (j%1000) args.toList with
    |some (.tmp x)=>(match look S x with
     |some (none,.val z)=>z.owned&&ju PS (x+800)
     |some (none,.rf s _ [])=>ju PS (s+800)
     |_=>false)&&zda S (qT (j%1000) args.toList)
    |_=>false
   |_=>false
 |_=>false
def zCp(B:jZ)(Bi:qN)(PS:List Nat)(n:Nat)(ops:List Oper)(S:zU)(o:Oper)(d:Nat):Option (List Prop×zU):=
 match o.guard,Jf d n with
 |none,true=>match kM T PS o with
  |true=>match zwU T PS S o with
   |true=>wS L T S o
   |false=>match zon Bi PS (zaG L PS S (zhu o.op)) o with
    |true=>iS L T B Bi (zaG L PS S (zhu o.op)) o
    |false=>none
  |false=>match zmV PS S o.op.operands.toList with
   |true=>match uk L T B S none o with
    |some (ps,a)=>match a.at0 d||zqG PS a||zln (look S d)with
     |true=>none
     |false=>some (ps,jl S d none a)
    |none=>none
   |false=>none
 |_,_=>none
def zqD(B:jZ)(Bi:qN)(PS:List Nat)(n:Nat)(ops:List Oper)(S:zU)(o:Oper):Option (List Prop×zU):=
 match gdS L ops S o with
 |some g=>match o.dst with
  |some d=>match Jf d n with
   |true=>match uk L T B S g o with
    |some (ps,a)=>match zM PS o with
     |true=>match g,a with
      |none,.val y=>match y.owned with
       |true=>some (ps,jl (Jr d (jl S d none (.val y))) d none (.val (zaF L y)))
       |false=>none
      |_,_=>none
     |false=>match a.at0 d||zqG PS a|| !kM T PS o&&zln (look S d)with
      |true=>none
      |false=>some (ps,jl S d g a)
    |none=>match kM T PS o with
     |true=>match wS L T S o with
      |some r=>some r
      |none=>vS L T B Bi S o
     |false=>match zln (look S d)with
      |true=>none
      |false=>pS L T PS S o
   |false=>none
  |none=>wS L T S o
 |none=>none
def zy4(B:jZ)(Bi:qN)(PS:List Nat)(n:Nat)(ops:List Oper)(S:zU)(o:Oper):Option (List Prop×zU):=
 match o.dst with
 |some d=>match ju PS (d+800)with
  |true=>zCp L T B Bi PS n ops S o d
  |false=>zqD L T B Bi PS n ops S o
 |none=>match ju PS 998 with
  |true=>match o.guard,kM T PS o&&zom PS S o with
   |none,true=>wS L T S o
   |_,_=>none
  |false=>zqD L T B Bi PS n ops S o
def evP(B:jZ)(Bi:qN)(PS:List Nat)(n:Nat)(ops:List Oper):List Oper->zU->(zU->Prop)->Prop
 |[],S,K=>K S
 |o::l,S,K=>match zy4 L T B Bi PS n ops S o with
  |some (ps,S')=>ZA ps (evP B Bi PS n ops l S' K)
  |none=>False
def znC:List Nat->zU->Bool
 |[],_=>true
 |s::l,S=>(match look S s with
  |none=>true
  |some _=>false)&&znC l S
abbrev ZW:=Exit->zU->Prop
def zaX(next:zU->Prop)(Q:ZW):ZW:=fun e S=>match e with
 | .normal=>next S
 |e=>Q e S
def zyA(id:Nat)(Q:ZW):ZW:=fun e S=>match e with
 | .exit id'=>match jH id' id with
   |true=>Q .normal S
   |false=>Q e S
 |e=>Q e S
abbrev QZ:=Code->ZW->zU->Prop
def uX(lp:QZ)(B:jZ)(Bi:qN)(n:Nat)(ks:List Nat):Code->ZW->zU->Prop
 | .skip,Q,S=>Q .normal S
 | .seq x y,Q,S=>uX lp B Bi n ks x (zaX (uX lp B Bi n ks y Q) Q) S
 | .region id ops draw,Q,S=>match draw with
   |true=>match ziM ks id,ziX ks id with
    |[],[]=>evS L T B n ops.toList ops.toList (fzL L (zlC ks id) (ZS ks S)) (Q .normal)
    |ps,hs=>match znC ps (fzL L (zlC ks id) (ZS ks S))with
     |true=>evP L T B Bi ps n ops.toList (zCC ops.toList hs) (fzL L (zlC ks id) (ZS ks S)) (Q .normal)
     |false=>False
   |false=>evL L T B Bi (ziM ks id) n ops.toList ops.toList (fzL L (zlC ks id) (ZS ks S)) (Q .normal)
 | .cond c x y,Q,S=>match jr T S 0 c with
   |some (none,.val (.bool b))=>L.ifP b (uX lp B Bi n ks x Q (ZS ks S)) (uX lp B Bi n ks y Q (ZS ks S))
   |_=>False
 | .block id c,Q,S=>uX lp B Bi n ks c (zyA id Q) S
 | .loop c,Q,S=>lp c Q (ZS ks S)
 | .exit id,Q,S=>Q (.exit id) S
 | .ret,Q,S=>Q .ret S
 |_,_,_=>False
def Yu:List ResultVar->zU->Option (List Prop×List V)
 |[],_=>some ([],[])
 | .tmp t::l,S=>match jr T S 0 (.tmp t)with
   |some (gx,a)=>match JW L T S a with
    |some (ps,y,S1)=>match Yu l S1 with
     |some (qs,ys)=>some (yS L none gx++ps++qs,y::ys)
     |none=>none
    |none=>none
   |none=>none
 | .cell t ty::l,S=>match jW S t with
   |some (.box _ c)=>match zhL T ty c with
    |true=>match Yu l (Jr t S)with
     |some (qs,ys)=>some (qs,c::ys)
     |none=>none
    |false=>none
   |_=>none
def Qf:List V->V
 |[x]=>x
 |l=>.tup l
def zwk(res:List ResultVar)(r:V):ZW:=fun e S=>match e with
 | .ret=>match Yu L T res S with
   |some (ps,l)=>ZA ps (Qf l=r)
   |none=>False
 | .normal=>match Yu L T res S with
   |some (ps,l)=>ZA ps (Qf l=r)
   |none=>False
 |_=>False
def Jv:List V->List V
 |[]=>[]
 |[_]=>[]
 |x::l=>x::Jv l
def KA:List V->V
 |[]=>.hole 0
 |[x]=>x
 |_::l=>KA l
def zzh(res:List ResultVar)(j:Nat)(r y:V):ZW:=fun e S=>match e with
 | .ret=>match Yu L T (res++[.tmp j]) S with
   |some (ps,l)=>ZA ps (Qf (Jv l)=r/\KA l=y)
   |none=>False
 | .normal=>match Yu L T (res++[.tmp j]) S with
   |some (ps,l)=>ZA ps (Qf (Jv l)=r/\KA l=y)
   |none=>False
 |_=>False
def uh:Nat->List V->zU
 |_,[]=>[]
 |i,x::l=>(i,none,.val x)::uh (i+1) l
end
end Go.Ax
namespace Go.Ax
def uT:Lv:={toI:=V.toI,toB:=V.toB,toS:=V.toS,toL:=V.toL,fld:=V.fld}
def OkS(T:kj)(t:TypeId)(y:V):Prop:=vw uT T true 20 t y=some y\/∃z,vw uT T true 20 t y=some z/\y.size=z.size/\y.isScalar=z.isScalar
def yk(T:kj):Alg where
 v:=uT
 wrap:=fun k n=>k.wrap n
 add:=fun a b=>a+b
 sub:=fun a b=>a-b
 mul:=fun a b=>a*b
 quo:=fun a b=>a.tdiv b
 rem:=fun a b=>a.tmod b
 band:=fun k a b=>zcd k a b
 shr:=fun k a b=>zeu k a b
 imin:=fun a b=>min a b
 imax:=fun a b=>max a b
 eqI:=fun a b=>a==b
 leI:=fun a b=>decide (a<=b)
 ltI:=fun a b=>decide (a<b)
 eqB:=fun a b=>a==b
 not:=fun a=> !a
 and:=fun a b=>a&&b
 pick:=fun c a b=>bif c then a else b
 eqS:=fun a b=>a.toList==b.toList
 ltS:=fun a b=>Op.bytesLess a.toList b.toList
 appS:=fun a b=>a++b
 lenS:=fun a=>(a.size:Int)
 getS:=fun s n=>((s.data.getD n.toNat 0).toNat:Int)
 extS:=fun s l h=>s.extract l.toNat h.toNat
 len:=fun es=>(es.length:Int)
 get:=fun es i d=>es.getD i d
 set:=fun es i y=>es.set i y
 app:=fun a b=>a++b
 sli:=fun es l h=>(es.take h.toNat).drop l.toNat
 rep:=fun n z=>List.replicate n.toNat z
 frz:=V.frzs
 nat:=Int.toNat
 ltN:=fun i es=>i<es.length
 nofz:=fun es=>V.noFzs es=true
 nown:=fun es=>V.owneds es=false
 emp:=fun es=>es=[]
 ok:=fun o t y=>vw uT T o 20 t y=some y
 okS:=fun t y=>OkS T t y
 solid:=fun es=>∀x∈es,x.solid=true
 le:=fun a b=>a<=b
 lt:=fun a b=>a<b
 ne0:=fun b=>b≠0
 imp:=fun b p=>b=true->p
 tt:=fun b=>b=true
 ifP:=fun b p q=>(b=true->p)/\(b=false->q)
 strB:=zfb
 byt:=zkb
def zcD(P:Program)(t:TypeId):Option (List (Nat×TypeId)):=match P.underlying t with
 |some (.struct fs)=>some (fs.toList.map fun x=>(x.offset,x.type))
 |_=>none
structure Got where
 zero:Option V
 agg:Option Bool
 cells:Nat
 int:Option IntKind
 elem:Option TypeId
 str:Bool
 bool:Bool
 fields:Option (List (Nat×TypeId))
 struct:Option (List V)
 small:Bool
def zzR(P:Program)(t:TypeId):Got:=
 {zero:=QD P t,agg:=zgt P t,cells:=P.cellsOf t,int:=Ku P t,elem:=ku P t,str:=Jt P t,bool:=zf6 P t,fields:=zcD P t,struct:=za6 P t,small:=decide (P.bytesOf t<=65536)}
def zcC:TK->Bool
 | .agg _=>true
 |_=>false
def zDJ:V->Option (List V)
 | .agg zs=>some zs
 |_=>none
def zdV(ti:TI):Got:=
 {zero:=some ti.zero
  agg:=some (zcC ti.k)
  cells:=ti.cells
  int:=match ti.k with
   | .int k=>some k
   |_=>none
  elem:=match ti.k with
   | .slc e=>some e
   |_=>none
  str:=match ti.k with
   | .str=>true
   |_=>false
  bool:=match ti.k with
   | .bool=>true
   |_=>false
  fields:=match ti.k with
   | .agg fs=>some fs
   |_=>none
  struct:=match ti.k with
   | .agg _=>zDJ ti.zero
   |_=>none
  small:=true}
def za0(T:kj):List (Nat×TypeId)->Nat->Option Nat
 |[],n=>some n
 |(o,t)::l,n=>match qE T t with
  |some ti=>if o=n/\ti.cells≠0 then za0 T l (n+ti.cells)else none
  |none=>none
def zAI(e:TypeId):V->Bool
 | .slc true e' _ []=>jH e e'
 |_=>false
def ZV(T:kj)(ti:TI):Bool:=match ti.k with
 | .agg fs=>decide (za0 T fs 0=some ti.cells)
 | .slc e=>decide (ti.cells=1)&&(zAI e ti.zero&&(match qE T e with
   |some te=>decide (te.cells≠0)
   |none=>false))
 |_=>decide (ti.cells=1)
def dZ:V->V
 | .slc _ _ d _=>d
 |x=>x
def zDj(T:kj)(ti:TI):Option V:=match ti.k with
 | .slc e=>match qE T e with
   |some te=>some te.zero
   |none=>none
 |_=>some ti.zero
def zDR(ti:TI):Option V:=match ti.k with
 | .slc _=>some (dZ ti.zero)
 |_=>some ti.zero
structure TabOk (P:Program) (T:kj):Prop where
 eq:(T.map fun x=>zzR P x.1)=T.map fun x=>zdV x.2
 chk:(T.all fun x=>ZV T x.2)=true
 dz:(T.map fun x=>zDR x.2)=T.map fun x=>zDj T x.2
section
variable {P:Program}{T:kj}
theorem zk4{T:kj}{t:Nat}{ti:TI}(h:qE T t=some ti):(t,ti)∈T:=by
 induction T with
 |nil=>simp[qE]at h
 |cons x l ih=>
  obtain⟨k,ti'⟩:=x;simp only[qE]at h;split at h
  ·rename_i hk;simp only[za]at h;rw[qg hk,h];simp
  ·exact zx _ (ih h)
theorem zmY{α β:Type}{f g:α->β}:∀{l:List α},l.map f=l.map g->∀x∈l,f x=g x
 |[],_,x,hx=>by simp at hx
 |y::l,h,x,hx=>by
  simp only[yX,kf]at h;rcases zC.1 hx with rfl|hx
  ·exact h.1
  ·exact zmY h.2 x hx
theorem TabOk.got(h:TabOk P T){t:Nat}{ti:TI}(ht:qE T t=some ti):zzR P t=zdV ti:=zmY h.eq _ (zk4 ht)
theorem TabOk.c(h:TabOk P T){t:Nat}{ti:TI}(ht:qE T t=some ti):ZV T ti=true:=by
 have:=yd.1 h.chk _ (zk4 ht);exact this
theorem TabOk.zero(h:TabOk P T){t:Nat}{ti:TI}(ht:qE T t=some ti):QD P t=some ti.zero:=congrArg Got.zero (h.got ht)
theorem TabOk.agg(h:TabOk P T){t:Nat}{ti:TI}(ht:qE T t=some ti):zgt P t=some (zcC ti.k):=congrArg Got.agg (h.got ht)
theorem TabOk.cells(h:TabOk P T){t:Nat}{ti:TI}(ht:qE T t=some ti):P.cellsOf t=ti.cells:=congrArg Got.cells (h.got ht)
theorem TabOk.small(h:TabOk P T){t:Nat}{ti:TI}(ht:qE T t=some ti):P.bytesOf t<=65536:=by
 have:=congrArg Got.small (h.got ht);simpa [zzR,zdV]using this
theorem TabOk.elem(h:TabOk P T){t e:Nat}(ht:ZU T t=some e):ku P t=some e:=by
 unfold ZU at ht;split at ht
 ·rename_i hh;simp only[za]at ht;subst ht;exact congrArg Got.elem (h.got hh)
 ·cases ht
theorem TabOk.str(h:TabOk P T){t:Nat}(ht:zb0 T t=true):Jt P t=true:=by
 unfold zb0 at ht;split at ht
 ·rename_i hh;exact congrArg Got.str (h.got hh)
 ·cases ht
theorem TabOk.bool(h:TabOk P T){t:Nat}(ht:zeg T t=true):zf6 P t=true:=by
 unfold zeg at ht;split at ht
 ·rename_i hh;exact congrArg Got.bool (h.got hh)
 ·cases ht
theorem TabOk.kind(h:TabOk P T){t:Nat}{k:IntKind}(ht:zfX T t=some k):Ku P t=some k:=by
 unfold zfX at ht;split at ht
 ·rename_i hh;simp only[za]at ht;subst ht;exact congrArg Got.int (h.got hh)
 ·cases ht
theorem TabOk.fields(h:TabOk P T){t:Nat}{fs:List (Nat×TypeId)}(ht:Qu T t=some fs):zcD P t=some fs:=by
 unfold Qu at ht;split at ht
 ·rename_i hh;simp only[za]at ht;subst ht;exact congrArg Got.fields (h.got hh)
 ·cases ht
theorem zrO(fs:List (Nat×TypeId))(i:Nat):zeK fs i=fs[i]? :=by
 induction fs generalizing i with
 |nil=>simp[zeK]
 |cons x l ih=>cases i with
  |zero=>simp[zeK]
  |succ i=>simp[zeK,ih]
theorem za9(fs:List V)(i:Nat):zdF fs i=fs[i]? :=by
 induction fs generalizing i with
 |nil=>simp[zdF]
 |cons x l ih=>cases i with
  |zero=>simp[zdF]
  |succ i=>simp[zdF,ih]
theorem zzz(fs:List Oper)(i:Nat):zgm fs i=fs[i]? :=by
 induction fs generalizing i with
 |nil=>simp[zgm]
 |cons x l ih=>cases i with
  |zero=>simp[zgm]
  |succ i=>simp[zgm,ih]
theorem zf0{t f:Nat}{fs:List (Nat×TypeId)}(h:zcD P t=some fs):JK P t f=zeK fs f:=by
 unfold zcD at h;unfold JK;split at h
 ·rename_i x hx;simp only[za]at h;subst h;rw[hx,zrO];simp
 ·cases h
mutual
theorem zjE(h:TabOk P T)(o:Bool):∀(n:Nat) (t:TypeId) (y z:V),vw uT T o n t y=some z->z.size=kK T t/\(∃ti,qE T t=some ti)/\uG P t z=true/\(∀fs,Qu T t=some fs->∃zs,z=.agg zs)/\(o=false->z.owned=false)/\z.isHole=false/\(∀fs,z≠.tup fs)
 |0,_,_,_,hv=>by simp[vw]at hv
 |n+1,t,y,z,hv=>by
  simp only[vw]at hv
  have one:∀{ti:TI},qE T t=some ti->zcC ti.k=false->z.size=1->(∀fs,z≠.agg fs)->(∀fs,z≠.tup fs)->(∀n,z≠.hole n)->ti.cells=1->(o=false->z.owned=false)->(∀fs,ti.k≠.agg fs)->
   z.size=kK T t/\(∃ti,qE T t=some ti)/\uG P t z=true/\(∀fs,Qu T t=some fs->∃zs,z=.agg zs)/\(o=false->z.owned=false)/\z.isHole=false/\(∀fs,z≠.tup fs):=by
   intro ti ht hk hs h1 h2 h3 hc ho hna;refine⟨by simp[kK,ht,hs,hc],⟨ti,ht⟩,?_,fun fs hf=>?_,ho,?_,h2⟩
   ·unfold uG;rw[h.agg ht,hk,h.cells ht,hc,hs];cases z<;>simp_all
   ·unfold Qu at hf;rw[ht]at hf;split at hf
    ·rename_i e;simp only[za]at e;subst e;exact absurd rfl (hna _)
    ·cases hf
   ·cases z<;>simp_all [V.isHole]
  split at hv
  ·rename_i k c zz ht;simp only[za]at hv;subst hv;have:=h.c ht;exact one ht rfl rfl (by simp) (by simp) (by simp) (by simpa [ZV]using this) (fun _=>rfl) (by simp)
  ·rename_i c zz ht;simp only[za]at hv;subst hv;have:=h.c ht;exact one ht rfl rfl (by simp) (by simp) (by simp) (by simpa [ZV]using this) (fun _=>rfl) (by simp)
  ·rename_i c zz ht;simp only[za]at hv;subst hv;have:=h.c ht;exact one ht rfl rfl (by simp) (by simp) (by simp) (by simpa [ZV]using this) (fun _=>rfl) (by simp)
  ·rename_i e c _ _ d _ ht;simp only[za]at hv;subst hv;have:=h.c ht;simp only[ZV,zh,decide_eq_true_eq]at this;exact one ht rfl rfl (by simp) (by simp) (by simp) this.1 (fun h=>by simp[V.owned,h]) (by simp)
  ·rename_i fs c zz ht;split at hv
   ·rename_i ys hys;simp only[za]at hv;subst hv;have hc:=h.c ht;simp only[ZV,decide_eq_true_eq]at hc;obtain⟨e1,e2,_⟩:=zk2 h o n fs 0 y ys hys;have hsz:=e1 0 c hc;refine⟨by simp only[V.size,kK,ht];omega,⟨_,ht⟩,?_,fun fs' _=>⟨ys,rfl⟩,fun ho=>by simp only[V.owned];exact e2 ho,rfl,by simp⟩;unfold uG;rw[h.agg ht,h.cells ht];simp only[zcC,Bool.true_and,V.size];simp;omega
   ·cases hv
  ·cases hv
theorem zk2(h:TabOk P T)(o:Bool):∀(n:Nat) (fs:List (Nat×TypeId)) (i:Nat) (y:V) (ys:List V),vws uT T o n fs i y=some ys->
 (∀k m,za0 T fs k=some m->k+V.sizes ys=m)/\(o=false->V.owneds ys=false)/\ys.length=fs.length
 |_,[],_,_,ys,hv=>by
  simp only[vws,za]at hv;subst hv;exact⟨fun k m h=>by simpa [za0,V.sizes]using h,fun _=>rfl,rfl⟩
 |0,_::_,_,_,_,hv=>by simp[vws]at hv
 |n+1,(o',t)::fs,i,y,ys,hv=>by
  simp only[vws]at hv;split at hv
  ·rename_i v hv1;split at hv
   ·rename_i vs hv2;simp only[za]at hv;subst hv;obtain⟨e1,⟨ti,e2⟩,_,_,e3,_⟩:=zjE h o n t _ v hv1;obtain⟨f1,f2,f3⟩:=zk2 h o n fs (i+1) y vs hv2;refine⟨fun k m hm=>?_,fun ho=>by simp[V.owneds,e3 ho,f2 ho],by simp[f3]⟩;simp only[za0,e2]at hm;split at hm
    ·have:=f1 _ _ hm;simp only[V.sizes,e1,kK,e2];omega
    ·cases hm
   ·cases hv
  ·cases hv
end
end
end Go.Ax
namespace Go.Ax
def gb:Option Bool->Bool
 |none=>true
 |some b=>b
def vz(σ:Env):A->A
 | .rf s _ p=>.rf s (σ s).ver p
 | .ad s _ p=>.ad s (σ s).ver p
 | .ag s _ p fs=>.ag s (σ s).ver p fs
 |a=>a
structure Agr (S:zU) (σ:Env):Prop where
 on:∀t g a,(t,g,a)∈S->(σ t).g=gb g/\(σ t).u=true/\(gb g=true->(σ t).a=vz σ a)
 off:∀t,(∀e,(t,e)∉S)->(σ t).owner=false
def qd(ps:List Prop):Prop:=∀q∈ps,q
theorem ztu:qd []:=fun _ h=>by simp at h
theorem zm{p:Prop}{l:List Prop}:qd (p::l)↔p/\qd l:=by
 constructor
 ·exact fun h=>⟨h p (by simp),fun q hq=>h q (zx _ hq)⟩
 ·rintro⟨h1,h2⟩ q hq;rcases zC.1 hq with rfl|hq
  ·exact h1
  ·exact h2 q hq
theorem zu{l l':List Prop}:qd (l++l')↔qd l/\qd l':=by
 constructor
 ·exact fun h=>⟨fun q hq=>h q (qz.2 (.inl hq)),fun q hq=>h q (qz.2 (.inr hq))⟩
 ·exact fun h q hq=>(qz.1 hq).elim (h.1 q) (h.2 q)
section
variable {P:Program}{T:kj}{S:zU}{σ:Env}
theorem jN{t:Nat}{e:Option Bool×A}(h:look S t=some e):(t,e)∈S:=by
 induction S with
 |nil=>simp[look]at h
 |cons x l ih=>
  obtain⟨k,e'⟩:=x;simp only[look]at h;split at h
  ·rename_i hk;simp only[za]at h;rw[qg hk,h];simp
  ·exact zx _ (ih h)
theorem zp4{t:Nat}(h:look S t=none):∀e,(t,e)∉S:=by
 induction S with
 |nil=>simp
 |cons x l ih=>
  obtain⟨k,e'⟩:=x;simp only[look]at h;split at h
  ·cases h
  ·rename_i hk;intro e he;rcases zC.1 he with he|he
   ·simp only[zb]at he;obtain⟨rfl,rfl⟩:=he;rw[uL]at hk;cases hk
   ·exact ih h e he
theorem zH(hT:TabOk P T)(hA:Agr S σ){ty:TypeId}{x:Operand}{g:Option Bool}{a:A}(h:jr T S ty x=some (g,a))(hg:gb g=true):opd P σ ty x=some (true,vz σ a):=by
 cases x with
 |tmp t=>
  simp only[jr]at h;split at h
  ·rename_i g' v hl;obtain⟨e1,_,e3⟩:=hA.on _ _ _ (jN hl);split at h
   ·rename_i ho;simp only[za,zb]at h;obtain⟨rfl,rfl⟩:=h;have e3':(σ t).a=.val v:=e3 hg;simp only[opd,e3',ho,if_true,e1,vz,hg]
   ·rename_i ho;simp only[za,zb]at h;obtain⟨rfl,rfl⟩:=h;have e3':(σ t).a=.val v:=e3 hg;simp[opd,e3',ho,e1,vz,hg]
  ·rename_i g' a' hn hl;obtain⟨e1,_,e3⟩:=hA.on _ _ _ (jN hl);simp only[za,zb]at h;obtain⟨rfl,rfl⟩:=h
   cases a' with
   |val v=>exact absurd rfl (hn v)
   |_=>have e3':=e3 hg;simp only[vz]at e3' ⊢;simp[opd,e3',e1,hg]
  ·cases h
 |const v=>
  simp only[jr]at h;split at h
  ·rename_i x hx;simp only[za,zb]at h;obtain⟨rfl,rfl⟩:=h
   have:KU P ty v=some x:=by
    unfold zyu at hx;split at hx
    ·simpa [KU]using hx
    ·simpa [KU]using hx
    ·simpa [KU]using hx
    ·simpa [KU]using hx
    ·split at hx
     ·rename_i e c _ e' d es ht;simp only[za]at hx;subst hx;have hz:=hT.zero ht;have hc:=hT.c ht;simp only[ZV,zh,decide_eq_true_eq]at hc;have hc2:=hc.2.1;unfold zAI at hc2;split at hc2
      ·rename_i heq;simp only[V.slc.injEq]at heq;obtain⟨rfl,rfl,rfl,rfl⟩:=heq;have:=qg hc2;subst this;simp only[KU,zgT,if_true,hz]
      ·cases hc2
     ·cases hx
    ·cases hx
   simp[opd,this,vz]
  ·cases h
 |func f=>
  simp only[jr,za,zb]at h;obtain⟨rfl,rfl⟩:=h;rfl
 |global g=>simp[jr]at h
theorem yv(hA:Agr S σ){s:Nat}{r:V}(h:jW S s=some r):σ.own s (σ s).ver=some r:=by
 unfold jW at h;split at h
 ·rename_i x hl;split at h
  ·rename_i ho;simp only[za]at h;subst h;obtain⟨e1,_,e3⟩:=hA.on _ _ _ (jN hl);exact Env.own_iff'.2 ⟨e1,rfl,e3 rfl,ho⟩
  ·cases h
 ·cases h
theorem qV{g:Option Bool}{ps:List Prop}(h:qd (Yo (yk T) g ps))(hg:gb g=true):qd ps:=by
 cases g with
 |none=>cases ps<;>simpa [Yo]using h
 |some b=>
  have hb:b=true:=hg
  induction ps with
  |nil=>exact ztu
  |cons p l ih=>
   simp only[Yo]at h;rw[zm]at h ⊢;exact⟨h.1 hb,ih h.2⟩
theorem zL{g gx:Option Bool}(h:qd (yS (yk T) g gx))(hg:gb g=true):gb gx=true:=by
 cases gx with
 |none=>rfl
 |some b=>
  cases g with
  |none=>simp only[yS,zm]at h;exact h.1
  |some a=>simp only[yS,zm]at h;exact h.1 hg
theorem zga:∀(p:List Nat) (x y:V) (ps:List Prop),kX (yk T) T x p=some (y,ps)->qd ps->x.at p=y/\x.okp p
 |[],x,y,ps,h,_=>by
  simp only[kX,za,zb]at h;exact⟨by simp only[V.at];exact h.1,trivial⟩
 |i::p,.slc o e d es,y,ps,h,hp=>by
  cases o with
  |false=>simp[kX]at h
  |true=>
   simp only[kX]at h;split at h
   ·rename_i y' hv;split at h
    ·rename_i z q hz;simp only[za,zb]at h;obtain⟨rfl,rfl⟩:=h;rw[zm,zm]at hp;obtain⟨h1,h2,h3⟩:=hp;have h2':vw uT T (dO d) 20 e (es.getD i d)=some (es.getD i d):=h2;have hv':vw uT T (dO d) 20 e (es.getD i d)=some y':=hv;rw[h2']at hv';simp only[za]at hv';subst hv';obtain⟨e1,e2⟩:=zga p _ _ _ hz h3;exact⟨by simp only[V.at,V.kid];exact e1,⟨⟨rfl,h1⟩,e2⟩⟩
    ·cases h
   ·cases h
 |i::p,.agg fs,y,ps,h,hp=>by
  simp only[kX]at h;split at h
  ·rename_i z hz;rw[za9]at hz;obtain⟨e1,e2⟩:=zga p _ _ _ h hp;have hl:i<fs.length:=(zk.1 hz).1;have:fs.getD i (.hole 0)=z:=je hz;exact⟨by simp only[V.at,V.kid];rw[this];exact e1,⟨hl,by simp only[V.kid];rw[this];exact e2⟩⟩
  ·cases h
 |i::p,.box e c,y,ps,h,hp=>by
  cases i with
  |zero=>
   simp only[kX]at h;obtain⟨e1,e2⟩:=zga p _ _ _ h hp;exact⟨by simp only[V.at,V.kid];exact e1,⟨trivial,e2⟩⟩
  |succ i=>simp[kX]at h
 |_::_,.int _ _,_,_,h,_=>by simp[kX]at h
 |_::_,.bool _,_,_,h,_=>by simp[kX]at h
 |_::_,.str _,_,_,h,_=>by simp[kX]at h
 |_::_,.tup _,_,_,h,_=>by simp[kX]at h
 |_::_,.fn _ _,_,_,h,_=>by simp[kX]at h
 |_::_,.hole _,_,_,h,_=>by simp[kX]at h
theorem uY:∀(p:List Nat) (x y z r:V) (ps:List Prop),kX (yk T) T x p=some (z,ps)->qd ps->Yd (yk T) T x p y=some r->r=x.upd p y
 |[],x,y,z,r,ps,h,_,hu=>by
  simp only[Yd,za]at hu;simp only[V.upd,hu]
 |i::p,.slc o e d es,y,z,r,ps,h,hp,hu=>by
  cases o with
  |false=>simp[kX]at h
  |true=>
   simp only[kX]at h;split at h
   ·rename_i y' hv;split at h
    ·rename_i z' q hz;simp only[za,zb]at h;obtain⟨rfl,rfl⟩:=h;rw[zm,zm]at hp;obtain⟨h1,h2,h3⟩:=hp;have h2':vw uT T (dO d) 20 e (es.getD i d)=some (es.getD i d):=h2;have hv':vw uT T (dO d) 20 e (es.getD i d)=some y':=hv;rw[h2']at hv';simp only[za]at hv';subst hv';simp only[Yd,hv]at hu;split at hu
     ·rename_i u hu';simp only[za]at hu;subst hu;have:=uY p _ y _ u _ hz h3 hu';simp only[V.upd,V.setKid,V.kid,this];rfl
     ·cases hu
    ·cases h
   ·cases h
 |i::p,.agg fs,y,z,r,ps,h,hp,hu=>by
  simp only[kX]at h;split at h
  ·rename_i z' hz;simp only[Yd,hz]at hu;split at hu
   ·rename_i u hu';simp only[za]at hu;subst hu;rw[za9]at hz;have:=uY p _ y _ u _ h hp hu';have hg:fs.getD i (.hole 0)=z':=je hz;simp only[V.upd,V.setKid,V.kid,hg,this]
   ·cases hu
  ·cases h
 |i::p,.box e c,y,z,r,ps,h,hp,hu=>by
  cases i with
  |zero=>
   simp only[kX]at h;simp only[Yd]at hu;split at hu
   ·rename_i u hu';simp only[za]at hu;subst hu;have:=uY p _ y _ u _ h hp hu';simp only[V.upd,V.setKid,V.kid,this]
   ·cases hu
  |succ i=>simp[kX]at h
 |_::_,.int _ _,_,_,_,_,h,_,_=>by simp[kX]at h
 |_::_,.bool _,_,_,_,_,h,_,_=>by simp[kX]at h
 |_::_,.str _,_,_,_,_,h,_,_=>by simp[kX]at h
 |_::_,.tup _,_,_,_,_,h,_,_=>by simp[kX]at h
 |_::_,.fn _ _,_,_,_,_,h,_,_=>by simp[kX]at h
 |_::_,.hole _,_,_,_,_,h,_,_=>by simp[kX]at h
theorem zf9:∀(p:List Nat) (x y:V) (ps:List Prop),atW (yk T) T x p=some (y,ps)->qd ps->((x.at p).size=y.size/\(x.at p).isScalar=y.isScalar)/\x.okp p/\∀u r,Yd (yk T) T x p u=some r->r=x.upd p u
 |[],x,y,ps,h,_=>by
  simp only[atW,za,zb]at h;obtain⟨rfl,rfl⟩:=h;refine⟨⟨by simp only[V.at],by simp only[V.at]⟩,trivial,fun u r hu=>?_⟩;simp only[Yd,za]at hu;simp only[V.upd,hu]
 |[i],.slc o e d es,y,ps,h,hp=>by
  cases o with
  |false=>simp[atW]at h
  |true=>
   simp only[atW]at h;split at h
   ·rename_i y' hv;have hv':vw uT T (dO d) 20 e (es.getD i d)=some y':=hv;have key:∀{q:List Prop},qd ((yk T).ltN i es::q)->i<es.length:=fun h=>(zm.1 h).1
    have upd:∀u r,Yd (yk T) T (.slc true e d es) [i] u=some r->r=V.upd (.slc true e d es) [i] u:=by
     intro u r hu;simp only[Yd,hv]at hu;simp only[za]at hu;subst hu;simp only[V.upd,V.setKid,V.kid];rfl
    split at h
    ·simp only[za,zb]at h;obtain⟨rfl,rfl⟩:=h;have h2':vw uT T (dO d) 20 e (es.getD i d)=some (es.getD i d):=(zm.1 (zm.1 hp).2).1;rw[h2']at hv';simp only[za]at hv';subst hv';exact⟨⟨by simp only[V.at,V.kid],by simp only[V.at,V.kid]⟩,⟨⟨rfl,key hp⟩,trivial⟩,upd⟩
    ·rename_i hsd
     have hdo:dO d=true:=by
      simp only[qh,Bool.not_eq_false']at hsd;exact hsd.2
     rw[hdo]at hv';simp only[za,zb]at h;obtain⟨rfl,rfl⟩:=h;have h2:OkS T e (es.getD i d):=(zm.1 (zm.1 hp).2).1;refine⟨?_,⟨⟨rfl,key hp⟩,trivial⟩,upd⟩;rcases h2 with h2|⟨z,h2,h3,h4⟩
     ·rw[h2]at hv';simp only[za]at hv';subst hv';exact⟨by simp only[V.at,V.kid],by simp only[V.at,V.kid]⟩
     ·rw[h2]at hv';simp only[za]at hv';subst hv';exact⟨by simp only[V.at,V.kid];exact h3,by simp only[V.at,V.kid];exact h4⟩
   ·cases h
 |i::j::p,.slc o e d es,y,ps,h,hp=>by
  cases o with
  |false=>simp[atW]at h
  |true=>
   simp only[atW]at h;split at h
   ·rename_i y' hv;split at h
    ·rename_i z q hz;simp only[za,zb]at h;obtain⟨rfl,rfl⟩:=h;rw[zm,zm]at hp;obtain⟨h1,h2,h3⟩:=hp;have h2':vw uT T (dO d) 20 e (es.getD i d)=some (es.getD i d):=h2;have hv':vw uT T (dO d) 20 e (es.getD i d)=some y':=hv;rw[h2']at hv';simp only[za]at hv';subst hv';obtain⟨e1,e2,e3⟩:=zf9 (j::p) _ _ _ hz h3;refine⟨by rw[show V.at (.slc true e d es) (i::j::p)=V.at (es.getD i d) (j::p) by simp only[V.at,V.kid]];exact e1,⟨⟨rfl,h1⟩,e2⟩,fun u r hu=>?_⟩;rw[Yd,hv]at hu;dsimp only at hu;split at hu
     ·rename_i u' hu';simp only[za]at hu;subst hu;have:=e3 _ _ hu';rw[V.upd];simp only[V.setKid,V.kid,<-this];rfl
     ·cases hu
    ·cases h
   ·cases h
 |i::p,.agg fs,y,ps,h,hp=>by
  simp only[atW]at h;split at h
  ·rename_i z hz;have hz0:=hz;rw[za9]at hz;obtain⟨e1,e2,e3⟩:=zf9 p _ _ _ h hp;have hl:i<fs.length:=(zk.1 hz).1;have hg:fs.getD i (.hole 0)=z:=je hz;refine⟨by simp only[V.at,V.kid];rw[hg];exact e1,⟨hl,by simp only[V.kid];rw[hg];exact e2⟩,fun u r hu=>?_⟩;simp only[Yd,hz0]at hu;split at hu
   ·rename_i u' hu';simp only[za]at hu;subst hu;have:=e3 _ _ hu';simp only[V.upd,V.setKid,V.kid,hg,this]
   ·cases hu
  ·cases h
 |i::p,.box e c,y,ps,h,hp=>by
  cases i with
  |zero=>
   simp only[atW]at h;obtain⟨e1,e2,e3⟩:=zf9 p _ _ _ h hp;refine⟨by simp only[V.at,V.kid];exact e1,⟨trivial,e2⟩,fun u r hu=>?_⟩;simp only[Yd]at hu;split at hu
   ·rename_i u' hu';simp only[za]at hu;subst hu;have:=e3 _ _ hu';simp only[V.upd,V.setKid,V.kid,this]
   ·cases hu
  |succ i=>simp[atW]at h
 |_::_,.int _ _,_,_,h,_=>by simp[atW]at h
 |_::_,.bool _,_,_,h,_=>by simp[atW]at h
 |_::_,.str _,_,_,h,_=>by simp[atW]at h
 |_::_,.tup _,_,_,h,_=>by simp[atW]at h
 |_::_,.fn _ _,_,_,h,_=>by simp[atW]at h
 |_::_,.hole _,_,_,h,_=>by simp[atW]at h
theorem znx{i:Nat}{p:List Nat}{r y:V}{ps:List Prop}(h:zxg (yk T) T r (i::p)=some (y,ps))(hp:qd ps):((r.at (i::p)).size=y.size/\(r.at (i::p)).isScalar=y.isScalar)/\r.okm (i::p)/\∀u r',Yd (yk T) T r (i::p) u=some r'->r'=r.upd (i::p) u:=by
 unfold zxg at h;dsimp only at h;split at h
 ·cases h
 ·cases h
 ·rename_i n1 n2;obtain⟨e1,e2,e3⟩:=zf9 _ _ _ _ h hp;refine⟨e1,?_,e3⟩
  cases r with
  |agg fs=>exact absurd rfl (n1 fs)
  |_=>exact e2
theorem uq{p:List Nat}{r y:V}{ps:List Prop}(h:atR (yk T) T r p=some (y,ps))(hp:qd ps):r.at p=y/\(p=[]\/(r.okm p/\(∀fs,r≠.tup fs)/\(∀fs,r≠.agg fs)/\kX (yk T) T r p=some (y,ps))):=by
 unfold atR at h;split at h
 ·simp only[za,zb]at h;exact⟨by simp only[V.at];exact h.1,.inl rfl⟩
 ·rename_i i q;split at h
  ·cases h
  ·cases h
  ·rename_i n1 n2;obtain⟨e1,e2⟩:=zga _ _ _ _ h hp;refine⟨e1,.inr ⟨?_,n2,n1,h⟩⟩
   cases r with
   |agg fs=>exact absurd rfl (n1 fs)
   |_=>exact e2
end
end Go.Ax
namespace Go.Ax
def Jq(B:jZ):FuncId->List V->Option (Prop×V×List V):=fun k args=>match zce B k with
 |some f=>match f args with
  |some (ps,r)=>some (qd ps,r,[])
  |none=>none
 |none=>none
section
variable {C:Ctx}{T:kj}{S:zU}{σ:Env}{B:jZ}
theorem Kp(hA:Agr S σ){a:A}{v:V}{ps:List Prop}(h:zc0 (yk T) T S a=some (v,ps))(hp:qd ps):(vz σ a).look σ=some v/\(vz σ a).okA σ/\(vz σ a).isAg=false:=by
 cases a with
 |val x=>
  simp only[zc0,za,zb]at h;obtain⟨rfl,_⟩:=h;exact⟨rfl,trivial,rfl⟩
 |rf s ver p=>
  simp only[zc0]at h;split at h
  ·rename_i r hr;have ho:=yv hA hr;split at h
   ·simp only[za,zb]at h;obtain⟨rfl,_⟩:=h;exact⟨by simp[vz,A.look,ho,V.at],by simp only[vz,A.okA,ho];cases r<;>trivial,rfl⟩
   ·rename_i i q;split at h
    ·rename_i fs;split at h
     ·split at h
      ·rename_i y hy;simp only[za,zb]at h;obtain⟨rfl,_⟩:=h;rw[za9]at hy;have hl:i<fs.length:=(zk.1 hy).1;exact⟨by simp[vz,A.look,ho,V.at,V.kid,hy],by simp only[vz,A.okA,ho];exact hl,rfl⟩
      ·cases h
     ·cases h
    ·rename_i hn;split at h
     ·rename_i y ps' hy;split at h
      ·rename_i hH;simp only[za,zb]at h;obtain⟨rfl,rfl⟩:=h;obtain⟨e1,e2⟩:=uq hy hp;rcases e2 with e2|⟨e2,e3,e4,_⟩
       ·cases e2
       ·refine⟨by simp[vz,A.look,ho,e1],?_,rfl⟩;simp only[vz,A.okA,ho];unfold V.okr;split
        ·trivial
        ·exact absurd rfl (e3 _)
        ·exact⟨e2,by rw[e1];exact hH⟩
      ·cases h
     ·cases h
  ·cases h
 |ad=>simp[zc0]at h
 |fz=>simp[zc0]at h
 |ag=>simp[zc0]at h
mutual
theorem zor:∀x:V,zhH (yk T) x=x.frz
 | .int _ _=>rfl
 | .bool _=>rfl
 | .str _=>rfl
 | .slc _ _ _ _=>rfl
 | .agg fs=>by simp only[zhH,V.frz];rw[zlE fs]
 | .tup fs=>by simp only[zhH,V.frz];rw[zlE fs]
 | .box _ c=>by simp only[zhH,V.frz];rw[zor c]
 | .fn _ _=>rfl
 | .hole _=>rfl
theorem zlE:∀xs:List V,zhH.frzsS (yk T) xs=V.frzs xs
 |[]=>rfl
 |x::l=>by simp only[zhH.frzsS,V.frzs];rw[zor x,zlE l]
end
mutual
theorem zaM:∀x:V,qd (zcY (yk T) x)->x.isFn=false->x.noFz=true
 | .int _ _,_,_=>rfl
 | .bool _,_,_=>rfl
 | .str _,_,_=>rfl
 | .slc true _ _ es,h,_=>by
   simp only[zcY,zm]at h;have h1:V.noFzs es=true:=h.1;simp[V.noFz,h1]
 | .slc false _ _ es,h,_=>by
   simp only[zcY,zm]at h;have h1:es=[]:=h.1;subst h1;simp[V.noFz,V.noFzs]
 | .agg fs,h,h'=>by simp only[V.noFz];exact zeL fs h h'
 | .tup fs,h,h'=>by simp only[V.noFz];exact zeL fs h h'
 | .box _ _,_,h=>by simp[V.isFn]at h
 | .fn _ _,_,h=>by simp[V.isFn]at h
 | .hole _,_,_=>rfl
theorem zeL:∀xs:List V,qd (zcY.nofzsS (yk T) xs)->V.areFn xs=false->V.noFzs xs=true
 |[],_,_=>rfl
 |x::l,h,h'=>by
  simp only[zcY.nofzsS,zu]at h;simp only[V.areFn,qh]at h';simp only[V.noFzs,zh];exact⟨zaM x h.1 h'.1,zeL l h.2 h'.2⟩
end
theorem zeQ{r:V}{p:List Nat}:∀(fs:List V) (i:Nat) (ys:List V) (ps:List Prop),zgS (yk T) T r p fs i=some (ys,ps)->qd ps->
 V.cpvs (fun q=>r.at q) fs p i=ys/\V.cpoks (fun q=>r.okm q/\(r.at q).isH=true) fs p i
 |[],i,ys,ps,h,_=>by
  simp only[zgS,za,zb]at h;obtain⟨rfl,_⟩:=h;exact⟨rfl,trivial⟩
 |f::fs,i,ys,ps,h,hp=>by
  simp only[zgS]at h;split at h
  ·rename_i hlf;split at h
   ·rename_i hfo;split at h
    ·rename_i y qs hy;split at h
     ·rename_i hH;split at h
      ·rename_i zs rs hz;simp only[za,zb]at h;obtain⟨rfl,rfl⟩:=h;rw[zu]at hp;obtain⟨e1,e2⟩:=zeQ fs (i+1) zs rs hz hp.2;obtain⟨a1,a2⟩:=uq hy hp.1
       have a3:r.okm (p++[i]):=by
        rcases a2 with a2|⟨a2,_⟩
        ·simp at a2
        ·exact a2
       have a4:(r.at (p++[i])).isH=true:=by rw[a1];exact hH
       have b1:V.cpv (fun q=>r.at q) f (p++[i])=y:=by
        rw[<-a1]
        cases f<;>first|(simp[V.leaf]at hlf;done)|(simp[V.owned]at hfo;done)|(simp only[V.owned]at hfo;simp[V.cpv,hfo])|rfl
       have b2:V.cpok (fun q=>r.okm q/\(r.at q).isH=true) f (p++[i]):=by
        cases f<;>first|(simp[V.leaf]at hlf;done)|(simp[V.owned]at hfo;done)|(simp only[V.owned]at hfo;simp only[V.cpok,hfo];exact⟨a3,a4⟩)|exact⟨a3,a4⟩
       exact⟨by simp only[V.cpvs,b1,e1],b2,e2⟩
      ·cases h
     ·cases h
    ·cases h
   ·rename_i hfo;split at h
    ·rename_i zs rs hz;simp only[za,zb]at h;obtain⟨rfl,rfl⟩:=h;obtain⟨e1,e2⟩:=zeQ fs (i+1) zs rs hz hp
     have b1:V.cpv (fun q=>r.at q) f (p++[i])=f:=by
      cases f<;>first|(simp[V.leaf]at hlf;done)|(simp[V.owned]at hfo;done)|(simp only[V.owned]at hfo;simp[V.cpv,hfo])|rfl
     have b2:V.cpok (fun q=>r.okm q/\(r.at q).isH=true) f (p++[i]):=by
      cases f<;>first|(simp[V.leaf]at hlf;done)|(simp[V.owned]at hfo;done)|(simp only[V.owned]at hfo;simp[V.cpok,hfo])|trivial
     exact⟨by simp only[V.cpvs,b1,e1],b2,e2⟩
    ·cases h
  ·cases h
theorem zbY{r:V}{p:List Nat}:∀(fs:List V) (i:Nat) (ys:List V) (ps:List Prop),zeP (yk T) T r p fs i=some (ys,ps)->qd ps->
 V.cpvs (fun q=>r.at q) fs p i=ys/\V.cpoks (fun q=>r.okm q/\(r.at q).isH=true) fs p i
 |[],i,ys,ps,h,_=>by
  simp only[zeP,za,zb]at h;obtain⟨rfl,_⟩:=h;exact⟨rfl,trivial⟩
 |f::fs,i,ys,ps,h,hp=>by
  simp only[zeP]at h;split at h
  ·rename_i hlf;split at h
   ·rename_i hfo;split at h
    ·rename_i y qs hy;split at h
     ·rename_i hH;split at h
      ·rename_i zs rs hz;simp only[za,zb]at h;obtain⟨rfl,rfl⟩:=h;rw[zu]at hp;obtain⟨e1,e2⟩:=zbY fs (i+1) zs rs hz hp.2;obtain⟨a1,a2⟩:=uq hy hp.1
       have a3:r.okm (p++[i]):=by
        rcases a2 with a2|⟨a2,_⟩
        ·simp at a2
        ·exact a2
       have a4:(r.at (p++[i])).isH=true:=by rw[a1];exact hH
       have b1:V.cpv (fun q=>r.at q) f (p++[i])=y:=by
        rw[<-a1]
        cases f<;>first|(simp[V.leaf]at hlf;done)|(simp[V.owned]at hfo;done)|(simp only[V.owned]at hfo;simp[V.cpv,hfo])|rfl
       have b2:V.cpok (fun q=>r.okm q/\(r.at q).isH=true) f (p++[i]):=by
        cases f<;>first|(simp[V.leaf]at hlf;done)|(simp[V.owned]at hfo;done)|(simp only[V.owned]at hfo;simp only[V.cpok,hfo];exact⟨a3,a4⟩)|exact⟨a3,a4⟩
       exact⟨by simp only[V.cpvs,b1,e1],b2,e2⟩
      ·cases h
     ·cases h
    ·cases h
   ·rename_i hfo;split at h
    ·rename_i zs rs hz;simp only[za,zb]at h;obtain⟨rfl,rfl⟩:=h;obtain⟨e1,e2⟩:=zbY fs (i+1) zs rs hz hp
     have b1:V.cpv (fun q=>r.at q) f (p++[i])=f:=by
      cases f<;>first|(simp[V.leaf]at hlf;done)|(simp[V.owned]at hfo;done)|(simp only[V.owned]at hfo;simp[V.cpv,hfo])|rfl
     have b2:V.cpok (fun q=>r.okm q/\(r.at q).isH=true) f (p++[i]):=by
      cases f<;>first|(simp[V.leaf]at hlf;done)|(simp[V.owned]at hfo;done)|(simp only[V.owned]at hfo;simp[V.cpok,hfo])|trivial
     exact⟨by simp only[V.cpvs,b1,e1],b2,e2⟩
    ·cases h
  ·split at h
   ·rename_i gs _;split at h
    ·rename_i zs qs hz0;split at h
     ·rename_i ys' rs hz;simp only[za,zb]at h;obtain⟨rfl,rfl⟩:=h;rw[zu]at hp;obtain⟨d1,d2⟩:=zeQ gs 0 zs qs hz0 hp.1;obtain⟨e1,e2⟩:=zbY fs (i+1) ys' rs hz hp.2;exact⟨by simp only[V.cpvs,V.cpv,d1,e1],d2,e2⟩
     ·cases h
    ·cases h
   ·cases h
theorem zr7(hA:Agr S σ){a:A}{v:V}{ps:List Prop}(h:zm2 (yk T) T S a=some (v,ps))(hp:qd ps):(vz σ a).look σ=some v/\(vz σ a).okA σ/\(vz σ a).isAg=a.isAg:=by
 cases a with
 |ag s ver p fs=>
  simp only[zm2]at h;split at h
  ·rename_i r hr;have ho:=yv hA hr;split at h
   ·rename_i ys qs hl;simp only[za,zb]at h;obtain⟨rfl,rfl⟩:=h;obtain⟨e1,e2⟩:=zbY fs 0 ys qs hl hp;exact⟨by simp only[vz,A.look,ho,Option.map_some,V.cpv,e1],by simp only[vz,A.okA,ho,V.cpok];exact e2,rfl⟩
   ·cases h
  ·cases h
 |_=>
  simp only[zm2]at h;obtain⟨l1,l2,l3⟩:=Kp hA h hp;exact⟨l1,l2,l3⟩
theorem zaV(hT:TabOk C.P T)(hA:Agr S σ){g:Option Bool}(hg:gb g=true):∀{xs:List Operand} {ts:List TypeId} {ps:List Prop} {vs:List V} {br:Bool},zed (yk T) T S g xs ts=some (ps,vs,br)->qd ps->
 ∃p,Ym C.P σ true xs ts=some (p,vs,br)/\p
 |[],_,ps,vs,br,h,_=>by
  simp only[zed,za,zb]at h;obtain⟨_,rfl,rfl⟩:=h;exact⟨True,rfl,trivial⟩
 |x::xs,ts,ps,vs,br,h,hp=>by
  simp only[zed]at h;split at h
  ·rename_i gx a h1;split at h
   ·rename_i v qs h2;split at h
    ·rename_i rs vs' br' h3;simp only[za,zb]at h;obtain⟨rfl,rfl,rfl⟩:=h;rw[zu,zu]at hp;have o1:=zH hT hA h1 (zL hp.1.1 hg);obtain⟨l1,l2,l3⟩:=zr7 hA h2 (qV hp.1.2 hg);obtain⟨p,e1,e2⟩:=zaV hT hA hg h3 hp.2;refine⟨((true=true->true=true)/\(vz σ a).okA σ)/\p,?_,⟨fun h=>h,l2⟩,e2⟩;simp only[Ym,o1,e1,l1,l3,zor]
    ·cases h
   ·cases h
  ·cases h
theorem zaL(hT:TabOk C.P T)(hA:Agr S σ){g:Option Bool}(hg:gb g=true){ty:Nat->TypeId}:∀{xs:List (Nat×Operand)} {ps:List Prop} {vs:List (Nat×V)},zfE (yk T) T S g ty xs=some (ps,vs)->qd ps->
 ∃p,yc C.P σ true ty xs=some (p,vs)/\p
 |[],ps,vs,h,_=>by
  simp only[zfE,za,zb]at h;obtain⟨_,rfl⟩:=h;exact⟨True,rfl,trivial⟩
 |(i,x)::xs,ps,vs,h,hp=>by
  simp only[zfE]at h;split at h
  ·rename_i gx v h1;split at h
   ·rename_i ho;split at h
    ·rename_i e d;split at h
     ·rename_i qs vs' h2;simp only[za,zb]at h;obtain⟨rfl,rfl⟩:=h;rw[zu]at hp;have o1:=zH hT hA h1 (zL hp.1 hg);obtain⟨p,e1,e2⟩:=zaL hT hA hg h2 hp.2;refine⟨(true=true->true=true)/\p,?_,fun h=>h,e2⟩;simp only[yc,o1,e1,vz,V.owned,V.isHole];simp[Yc,zgT]
     ·cases h
    ·cases h
   ·rename_i ho;split at h
    ·cases h
    ·rename_i hh;split at h
     ·rename_i qs vs' h2;simp only[za,zb]at h;obtain⟨rfl,rfl⟩:=h;rw[zu]at hp;have o1:=zH hT hA h1 (zL hp.1 hg);obtain⟨p,e1,e2⟩:=zaL hT hA hg h2 hp.2;refine⟨(true=true->true=true)/\p,?_,fun h=>h,e2⟩;simp only[yc,o1,e1,vz,ho,hh];simp
     ·cases h
  ·cases h
theorem QJ(hT:TabOk C.P T)(hA:Agr S σ){x:Operand}{g gi:Option Bool}{n:Int}(h:zhE T S x=some (gi,n))(hg:gb g=true)(hp:qd (yS (yk T) g gi)):QL C.P σ true x=some ((true=true->true=true),n):=by
 unfold zhE at h;split at h
 ·rename_i g' n' h1;simp only[za,zb]at h;obtain⟨rfl,rfl⟩:=h;have o1:=zH hT hA h1 (zL hp hg);simp only[QL,o1,vz]
 ·cases h
theorem YS(hT:TabOk C.P T)(hA:Agr S σ){x:Option Operand}{g gi:Option Bool}{d n:Int}(h:zcc T S d x=some (gi,n))(hg:gb g=true)(hp:qd (yS (yk T) g gi)):∃p,kq C.P σ true d x=some (p,n)/\p:=by
 cases x with
 |none=>
  simp only[zcc,za,zb]at h;obtain⟨_,rfl⟩:=h;exact⟨True,rfl,trivial⟩
 |some x=>exact⟨_,QJ hT hA h hg hp,fun h=>h⟩
theorem zsg{k k':IntKind}(h:ikE k k'=true):k=k':=by
 cases k<;>cases k'<;>first|rfl|(simp[ikE,ikN]at h)
theorem QO(hT:TabOk C.P T){t:TypeId}{y:V}(h:zhL T t y=true):uG C.P t y=true:=by
 unfold zhL at h;split at h
 ·rename_i ht;have hc:=hT.c ht;simp only[ZV,decide_eq_true_eq]at hc;simp only[uG,hT.agg ht,hT.cells ht,zcC,V.size,hc];rfl
 ·rename_i ht;have hc:=hT.c ht;simp only[ZV,decide_eq_true_eq]at hc;simp only[uG,hT.agg ht,hT.cells ht,zcC,V.size,hc];rfl
 ·rename_i ht;have hc:=hT.c ht;simp only[ZV,decide_eq_true_eq]at hc;simp only[uG,hT.agg ht,hT.cells ht,zcC,V.size,hc];rfl
 ·rename_i ht;have hc:=hT.c ht;simp only[ZV,zh,decide_eq_true_eq]at hc;simp only[uG,hT.agg ht,hT.cells ht,zcC,V.size,hc.1];rfl
 ·rename_i ht;simp only[uG,hT.agg ht,hT.cells ht,zcC,V.size,qg h];simp
 ·rename_i ht;simp only[uG,hT.agg ht,hT.cells ht,zcC,V.size,qg h];rfl
 ·rename_i ht;simp only[uG,hT.agg ht,hT.cells ht,zcC,V.size,qg h];rfl
 ·cases h
theorem zxf{op:BinOp}{k:IntKind}{a b:Int}{ps:List Prop}{v:V}(h:zAi (yk T) op k a b=some (ps,v))(hp:qd ps):∃p,zcG op (.int k a) (.int k b)=some (p,v)/\p:=by
 cases op<;>simp only[zAi,za,zb,reduceCtorEq]at h
 all_goals
  obtain⟨rfl,rfl⟩:=h;simp only[zcG,if_pos,if_true,reduceCtorEq,if_false];refine⟨_,rfl,?_⟩
  first
   |trivial
   |exact(zm.1 hp).1
theorem zv8{op:BinOp}{a b:ByteArray}{ps:List Prop}{v:V}(h:zy0 (yk T) op a b=some (ps,v))(hp:qd ps):∃p,zcG op (.str a) (.str b)=some (p,v)/\p:=by
 cases op<;>simp only[zy0,za,zb,reduceCtorEq]at h
 all_goals
  obtain⟨rfl,rfl⟩:=h;simp only[zcG];refine⟨_,rfl,?_⟩
  first
   |trivial
   |(have h1:(a.size:Int)+(b.size:Int)<1099511627776:=(zm.1 hp).1
     omega)
end
end Go.Ax
namespace Go.Ax
section
variable {C:Ctx}{T:kj}{S:zU}{σ:Env}{B:jZ}
theorem zDk(hT:TabOk C.P T){t:TypeId}{y z:V}(h:vw (yk T).v T false 20 t y=some z)(hok:(yk T).ok false t y):z=y/\uG C.P t y=true:=by
 have h1:vw uT T false 20 t y=some y:=hok;have h2:vw uT T false 20 t y=some z:=h;rw[h1]at h2;simp only[za]at h2;exact⟨h2.symm,(zjE hT false 20 t y y h1).2.2.1⟩
theorem zrM(hT:TabOk C.P T):∀(fts:List (Nat×TypeId)) (ys:List V) (n k m:Nat),za0 T fts k=some m->(∀(i:Nat) (x:Nat×TypeId) (y:V),fts[i]? =some x->ys[i]? =some y->y.size=kK T x.2)->fts.length=ys.length->
 ∀(x:Nat×TypeId),fts[n]? =some x->x.1=k+V.offs ys n/\kK T x.2≠0
 |[],_,_,_,_,_,_,_,_,hx=>by simp at hx
 |(o,t)::fts,[],_,_,_,_,_,hl,_,_=>by simp at hl
 |(o,t)::fts,y::ys,n,k,m,h,hs,hl,x,hx=>by
  simp only[za0]at h;split at h
  ·rename_i ti ht;split at h
   ·rename_i hc;have h0:=hs 0 (o,t) y rfl rfl;simp only[kK,ht]at h0
    cases n with
    |zero=>
     simp at hx;subst hx;exact⟨by simp[V.offs,V.sizes,hc.1],by simp[kK,ht,hc.2]⟩
    |succ n=>
     have:=zrM hT fts ys n (k+ti.cells) m h (fun i x y h1 h2=>hs (i+1) x y (by simpa using h1) (by simpa using h2)) (by simpa using hl) x (by simpa using hx);refine⟨?_,this.2⟩;rw[this.1];simp only[V.offs,List.take_succ_cons,V.sizes,h0];omega
   ·cases h
  ·cases h
theorem zuH(hT:TabOk C.P T)(o:Bool):∀(n:Nat) (fs:List (Nat×TypeId)) (i:Nat) (y:V) (ys:List V),vws uT T o n fs i y=some ys->∀(j:Nat) (x:Nat×TypeId) (z:V),fs[j]? =some x->ys[j]? =some z->z.size=kK T x.2
 |_,[],_,_,_,_,j,x,z,hx,_=>by simp at hx
 |0,_::_,_,_,_,hv,_,_,_,_,_=>by simp[vws]at hv
 |n+1,(o',t)::fs,i,y,ys,hv,j,x,z,hx,hz=>by
  simp only[vws]at hv;split at hv
  ·rename_i v hv1;split at hv
   ·rename_i vs hv2;simp only[za]at hv;subst hv
    cases j with
    |zero=>
     simp at hx hz;subst hx;subst hz;exact(zjE hT o n t _ v hv1).1
    |succ j=>exact zuH hT o n fs (i+1) y vs hv2 j x z (by simpa using hx) (by simpa using hz)
   ·cases hv
  ·cases hv
theorem zzW(hT:TabOk C.P T){t f:Nat}{fts:List (Nat×TypeId)}{x:Nat×TypeId}(hf:Qu T t=some fts)(hx:zeK fts f=some x){fs:List V}(hz:∃o y n,vw uT T o n t y=some (.agg fs)):
 JK C.P t f=some x/\C.P.cellsOf x.2≠0/\f<fs.length/\V.offs fs f=x.1:=by
 obtain⟨o,y,n,hz⟩:=hz;have h1:JK C.P t f=some x:=by rw[zf0 (hT.fields hf)];exact hx
 rw[zrO]at hx
 cases n with
 |zero=>simp[vw]at hz
 |succ n=>
  unfold Qu at hf;split at hf
  ·rename_i fs' c zz ht;simp only[za]at hf;subst hf;simp only[vw,ht]at hz;split at hz
   ·rename_i ys hys;simp only[za,V.agg.injEq]at hz;subst hz;have hc:=hT.c ht;simp only[ZV,decide_eq_true_eq]at hc;have hl:=(zk2 hT o n fs' 0 y ys hys).2.2;obtain⟨e1,e2⟩:=zrM hT fs' ys f 0 c hc (zuH hT o n fs' 0 y ys hys) hl.symm x hx;have hlt:f<fs'.length:=(zk.1 hx).1;refine⟨h1,?_,by omega,by omega⟩;unfold kK at e2;split at e2
    ·rename_i ti hti;rw[hT.cells hti];exact e2
    ·exact absurd rfl e2
   ·cases hz
  ·cases hf
end
end Go.Ax
namespace Go.Ax
section
variable {C:Ctx}{T:kj}{S:zU}{σ:Env}{B:jZ}
theorem zpF(hT:TabOk C.P T){t:TypeId}(h:Jf 0 (kK T t)=true):C.P.cellsOf t≠0:=by
 have h':0<kK T t:=by
  have:=jn h;omega
 unfold kK at h';split at h'
 ·rename_i ti ht;rw[hT.cells ht];omega
 ·omega
theorem zeH(hT:TabOk C.P T){off f:Nat}{ft:TypeId}{fs:List V}(h:ziO T off ft f fs=true):C.P.cellsOf ft≠0/\f<fs.length/\V.offs fs f=off:=by
 simp only[ziO,zh]at h;refine⟨zpF hT h.2,?_,qg h.1.1⟩;have:=jn h.1.2;omega
theorem okr_of{r:V}{p:List Nat}{x:V×List Prop}(h:p=[]\/(r.okm p/\(∀fs,r≠.tup fs)/\(∀fs,r≠.agg fs)/\kX (yk T) T r p=some x))(hH:(r.at p).isH=true):r.okr p:=by
 rcases h with rfl|⟨h1,h2,h3,_⟩
 ·cases r<;>trivial
 ·unfold V.okr;split
  ·trivial
  ·exact absurd rfl (h2 _)
  ·exact⟨h1,hH⟩
theorem zuZ{s:Nat}{p:List Nat}{y:V}(ho:y.owned=true)(hH:y.isH=true):rdA s (σ s).ver p y=some (vz σ (.rf s 0 p)):=by
 simp[rdA,ho,hH,vz]
theorem zuY{s ver:Nat}{p:List Nat}{y:V}(ho:y.owned=false):rdA s ver p y=some (.val y):=by
 simp[rdA,ho]
theorem zu0{s:Nat}{p:List Nat}{fs:List V}(ho:(V.agg fs).owned=true)(hf:V.flats fs=true):rdA s (σ s).ver p (.agg fs)=some (vz σ (.ag s 0 p fs)):=by
 simp[rdA,ho,hf,vz,V.isH]
theorem zu4{r c:V}{e:TypeId}{p:List Nat}{x:V×List Prop}(e1:r.at p=.box e c)(h:p=[]\/(r.okm p/\(∀fs,r≠.tup fs)/\(∀fs,r≠.agg fs)/\kX (yk T) T r p=some x)):r.okm (p++[0]):=by
 have key:∀(p:List Nat) (r:V),r.at p=.box e c->r.okp p->r.okp (p++[0]):=by
  intro p
  induction p with
  |nil=>
   intro r h1 _;simp only[V.at]at h1;subst h1;exact⟨trivial,trivial⟩
  |cons i p ih=>
   intro r h1 h2;exact⟨h2.1,ih _ h1 h2.2⟩
 rcases h with rfl|⟨h1,h2,h3,_⟩
 ·simp only[V.at]at e1;subst e1;exact⟨trivial,trivial⟩
 ·cases p with
  |nil=>exact h1.elim
  |cons i p=>
   have:=key (i::p) r e1 (by cases r<;>first|exact h1|exact h1.elim)
   cases r with
   |agg fs=>exact absurd rfl (h3 fs)
   |_=>exact this
theorem zbA(hT:TabOk C.P T){t e:TypeId}(h:ZU T t=some e):ku C.P t=some e/\C.P.cellsOf e≠0:=by
 refine⟨hT.elem h,?_⟩;unfold ZU at h;split at h
 ·rename_i e' _ _ ht;simp only[za]at h;subst h;have hc:=hT.c ht;simp only[ZV,zh,decide_eq_true_eq]at hc;have h2:=hc.2.2
  cases hh:qE T e' with
  |none=>rw[hh]at h2;cases h2
  |some te=>rw[hT.cells hh];rw[hh]at h2;simpa using h2
 ·cases h
mutual
theorem Yx(T:kj):∀v:V,zaF (yk T) v=v.frz
 | .slc _ _ _ _=>rfl
 | .agg fs=>by simp only[zaF,V.frz,zi0 T fs]
 | .tup fs=>by simp only[zaF,V.frz,zi0 T fs]
 | .box _ c=>by simp only[zaF,V.frz,Yx T c]
 | .int _ _=>rfl
 | .bool _=>rfl
 | .str _=>rfl
 | .fn _ _=>rfl
 | .hole _=>rfl
theorem zi0(T:kj):∀l:List V,zm9 (yk T) l=V.frzs l
 |[]=>rfl
 |v::l=>by simp only[zm9,V.frzs,Yx T v,zi0 T l]
end
theorem zsr{T:kj}{C:Ctx}{B:jZ}(hΦ:C.Φ=Jq B)(k:FuncId)(r:V):zw1 (yk T) B k r=zw2 C k r:=by
 unfold zw1 zw2;rw[hΦ];simp only[Jq]
 cases hb:zce B (2000000000+k)with
 |none=>rfl
 |some f=>
  dsimp only
  cases hf:f []with
  |none=>rfl
  |some r'=>exact Yx T r
theorem zkX(hT:TabOk C.P T)(hA:Agr S σ){g:Option Bool}(hg:gb g=true):∀{xs:List Operand} {ts:List TypeId} {ps:List Prop} {vs:List V} {br:Bool},zed (yk T) T S g xs ts=some (ps,vs,br)->qd ps->zaP C.P σ xs ts=znz T S xs ts
 |[],_,ps,vs,br,_,_=>rfl
 |x::xs,ts,ps,vs,br,h,hp=>by
  simp only[zed]at h;split at h
  ·rename_i gx a h1;split at h
   ·rename_i v qs h2;split at h
    ·rename_i rs vs' br' h3;simp only[za,zb]at h;obtain⟨rfl,rfl,rfl⟩:=h;rw[zu,zu]at hp;have o1:=zH hT hA h1 (zL hp.1.1 hg);have e:=zkX hT hA hg h3 hp.2;simp only[zaP,znz,o1,h1,e];cases a<;>rfl
    ·cases h
   ·cases h
  ·cases h
theorem zAe{T:kj}{S:zU}{B:jZ}(hΦ:C.Φ=Jq B)(k:FuncId){xs:List Operand}{ts:List TypeId}(br:Bool)(h:zaP C.P σ xs ts=znz T S xs ts):brK C σ k xs ts br=zAf T B S k xs ts br:=by
 unfold brK zAf;rw[hΦ,h];simp only[Jq]
 cases br with
 |false=>rfl
 |true=>
  cases hb:zce B (3000000000+k)with
  |none=>rfl
  |some f=>
   dsimp only
   cases hf:f []with
   |none=>rfl
   |some r'=>simp
theorem zat(hT:TabOk C.P T)(hA:Agr S σ)(hΦ:C.Φ=Jq B){g:Option Bool}(hg:gb g=true){o:Oper}{ps:List Prop}{a:A}(h:uk (yk T) T B S g o=some (ps,a))(hp:qd ps):
 ∃p,ym C σ true o=some (p,vz σ a)/\p:=by
 cases hop:o.op with
 |move x=>
  simp only[uk,hop]at h;split at h
  ·rename_i gx a' h1;simp only[za,zb]at h;obtain⟨rfl,rfl⟩:=h;have o1:=zH hT hA h1 (zL hp hg);refine⟨_,by simp only[ym,hop,o1];rfl,?_⟩;simp
  ·cases h
 |assign x=>
  simp only[uk,hop]at h;split at h
  ·rename_i gx v h1;split at h
   ·cases h
   ·rename_i ho;simp only[za,zb]at h;obtain⟨rfl,rfl⟩:=h;have o1:=zH hT hA h1 (zL hp hg);exact⟨true=true->true=true,by simp only[ym,hop,o1,vz,ho,yB,if_false],fun h=>h⟩
  ·rename_i gx s ver i p h1;split at h
   ·cases h
   ·rename_i r hn hr;simp only[za,zb]at h;obtain⟨rfl,rfl⟩:=h;have o1:=zH hT hA h1 (zL hp hg);refine⟨true=true->true=true,?_,fun h=>h⟩;simp only[ym,hop,o1,vz,yv hA hr]
   ·cases h
  ·rename_i gx s ver h1;split at h
   ·rename_i d hd;split at h
    ·rename_i f hf;split at h
     ·rename_i r hr;simp only[za,zb]at h;obtain⟨rfl,rfl⟩:=h;have o1:=zH hT hA h1 (zL hp hg);refine⟨true=true->true=true,?_,fun h=>h⟩;simp only[ym,hop,o1,vz,hd];rw[if_pos];rw[hΦ];simp only[Jq,hf,hr];rfl
     ·cases h
    ·cases h
   ·cases h
  ·cases h
 |pick c x y=>
  simp only[uk,hop]at h;split at h
  ·rename_i gc c' ga a' gb' b' h1 h2 h3;simp only[za,zb]at h;obtain⟨rfl,rfl⟩:=h;rw[zu,zu]at hp;have o1:=zH hT hA h1 (zL hp.1.1 hg)
   have a1:c'=true->gb ga=true:=by
    intro hc;have:=qV hp.1.2 hg
    cases ga with
    |none=>rfl
    |some b=>simp only[yS,yX,zm]at this;exact this.1 hc
   have a2:c'=false->gb gb'=true:=by
    intro hc;have:=qV hp.2 hg
    cases gb' with
    |none=>rfl
    |some b=>simp only[yS,yX,zm]at this;exact this.1 (by simp[yk,hc])
   refine⟨(true=true->true=true)/\(true=true->true=true),?_,fun h=>h,fun h=>h⟩;simp only[ym,hop,o1,vz]
   cases c' with
   |true=>simp only[if_true,zH hT hA h2 (a1 rfl),vz];rfl
   |false=>simp only[yB,if_false,zH hT hA h3 (a2 rfl),vz];rfl
  ·cases h
 |binOp op xt x y yt=>
  simp only[uk,hop]at h;split at h
  ·rename_i gx a' gy b' h1 h2;split at h
   ·rename_i hbt;have hb:=hT.bool hbt
    have hu:C.P.underlying xt=some .bool:=by
     unfold zf6 at hb;split at hb
     ·rename_i hh;exact hh
     ·cases hb
    split at h
    ·simp only[za,zb]at h;obtain⟨rfl,rfl⟩:=h;rw[zu]at hp;have o1:=zH hT hA h1 (zL hp.1 hg);have o2:=zH hT hA h2 (zL hp.2 hg);refine⟨_,by simp only[ym,hop,o1,o2,vz,hu,if_true];rfl,?_⟩;simp
    ·simp only[za,zb]at h;obtain⟨rfl,rfl⟩:=h;rw[zu]at hp;have o1:=zH hT hA h1 (zL hp.1 hg);have o2:=zH hT hA h2 (zL hp.2 hg);refine⟨_,by simp only[ym,hop,o1,o2,vz,hu,if_true];rfl,?_⟩;simp
    ·cases h
   ·cases h
  ·rename_i gx k a' gy k' b' h1 h2;split at h
   ·rename_i hk;have:=zsg hk;subst this;split at h
    ·rename_i qs v h3;simp only[za,zb]at h;obtain⟨rfl,rfl⟩:=h;rw[zu,zu]at hp;have o1:=zH hT hA h1 (zL hp.1.1 hg);have o2:=zH hT hA h2 (zL hp.1.2 hg);obtain⟨p,e1,e2⟩:=zxf h3 (qV hp.2 hg);refine⟨((true=true->true=true)/\(true=true->true=true))/\(true=true->p),?_,⟨fun h=>h,fun h=>h⟩,fun _=>e2⟩;simp only[ym,hop,o1,o2,vz,e1];rfl
    ·cases h
   ·split at h
    ·simp only[za,zb]at h;obtain⟨rfl,rfl⟩:=h;rw[zu,zu]at hp;have o1:=zH hT hA h1 (zL hp.1.1 hg);have o2:=zH hT hA h2 (zL hp.1.2 hg);have hb:(0:Int)<=b':=(zm.1 (qV hp.2 hg)).1;refine⟨((true=true->true=true)/\(true=true->true=true))/\(true=true->(0:Int)<=b'),?_,⟨fun h=>h,fun h=>h⟩,fun _=>hb⟩;simp only[ym,hop,o1,o2,vz,zcG,if_true];rfl
    ·cases h
  ·rename_i gx a' gy b' h1 h2;split at h
   ·rename_i qs v h3;simp only[za,zb]at h;obtain⟨rfl,rfl⟩:=h;rw[zu,zu]at hp;have o1:=zH hT hA h1 (zL hp.1.1 hg);have o2:=zH hT hA h2 (zL hp.1.2 hg);obtain⟨p,e1,e2⟩:=zv8 h3 (qV hp.2 hg);refine⟨((true=true->true=true)/\(true=true->true=true))/\(true=true->p),?_,⟨fun h=>h,fun h=>h⟩,fun _=>e2⟩;simp only[ym,hop,o1,o2,vz,e1];rfl
   ·cases h
  ·cases h
 |unOp op t x=>
  simp only[uk,hop]at h;split at h
  ·rename_i gx b h1;simp only[za,zb]at h;obtain⟨rfl,rfl⟩:=h;have o1:=zH hT hA h1 (zL hp hg);exact⟨true=true->true=true,by simp only[ym,hop,o1,vz];rfl,fun h=>h⟩
  ·rename_i gx k n h1;simp only[za,zb]at h;obtain⟨rfl,rfl⟩:=h;have o1:=zH hT hA h1 (zL hp hg);exact⟨true=true->true=true,by simp only[ym,hop,o1,vz];rfl,fun h=>h⟩
  ·cases h
 |load t x=>
  simp only[uk,hop]at h;split at h
  ·rename_i gx y h1;split at h
   ·rename_i z hz;simp only[za,zb]at h;obtain⟨rfl,rfl⟩:=h;rw[zu]at hp;have o1:=zH hT hA h1 (zL hp.1 hg);obtain⟨rfl,e2⟩:=zDk hT hz (zm.1 (qV hp.2 hg)).1;refine⟨_,by simp only[ym,hop,o1,vz,e2,if_true];rfl,?_⟩;simp
   ·cases h
  ·rename_i gx v h1;split at h
   ·rename_i y hy;split at h
    ·rename_i hf;simp only[za,zb]at h;obtain⟨rfl,rfl⟩:=h;have o1:=zH hT hA h1 (zL hp hg);refine⟨_,by simp only[ym,hop,o1,vz,hy,QO hT hf,if_true];rfl,?_⟩;simp
    ·cases h
   ·cases h
  ·rename_i gx s ver p h1;split at h
   ·rename_i r hr;split at h
    ·rename_i i p' y qs hy;split at h
     ·rename_i hf
      have main:∀a',((yS (yk T) g gx++Yo (yk T) g qs),a')=(ps,a)->rdA s (σ s).ver (i::p') y=some (vz σ a')->∃p,ym C σ true o=some (p,vz σ a)/\p:=by
       rintro a' he hrd;simp only[zb]at he;obtain⟨rfl,rfl⟩:=he;rw[zu]at hp;have o1:=zH hT hA h1 (zL hp.1 hg);obtain⟨e1,e2⟩:=uq hy (qV hp.2 hg)
       have e3:r.okm (i::p'):=by
        rcases e2 with e2|e2
        ·cases e2
        ·exact e2.1
       refine⟨_,by simp only[ym,hop,o1,vz,yv hA hr,e1,QO hT hf,if_true,hrd];rfl,?_⟩;simp[e3]
      split at h
      ·rename_i ho;simp only[za]at h;exact main _ h (zuY ho)
      ·rename_i ho;split at h
       ·rename_i hH;simp only[za]at h;exact main _ h (zuZ ho hH)
       ·split at h
        ·split at h
         ·rename_i hfl;simp only[za]at h;exact main _ h (zu0 ho hfl)
         ·cases h
        ·cases h
     ·cases h
    ·cases h
   ·cases h
  ·rename_i gx s ver p h1;split at h
   ·rename_i r hr;split at h
    ·rename_i e c qs hy;split at h
     ·rename_i hf
      have main:∀a',((yS (yk T) g gx++Yo (yk T) g qs),a')=(ps,a)->rdA s (σ s).ver (p++[0]) c=some (vz σ a')->∃p,ym C σ true o=some (p,vz σ a)/\p:=by
       rintro a' he hrd;simp only[zb]at he;obtain⟨rfl,rfl⟩:=he;rw[zu]at hp;have o1:=zH hT hA h1 (zL hp.1 hg);obtain⟨e1,e2⟩:=uq hy (qV hp.2 hg);have e3:r.okr p:=okr_of e2 (by rw[e1];rfl);have e4:r.okm (p++[0]):=zu4 e1 e2;refine⟨_,by simp only[ym,hop,o1,vz,yv hA hr,e1,QO hT hf,if_true,hrd];rfl,?_⟩;simp[e3,e4]
      split at h
      ·rename_i ho;simp only[za]at h;exact main _ h (zuY ho)
      ·rename_i ho;split at h
       ·rename_i hH;simp only[za]at h;exact main _ h (zuZ ho hH)
       ·split at h
        ·split at h
         ·rename_i hfl;simp only[za]at h;exact main _ h (zu0 ho hfl)
         ·cases h
        ·cases h
     ·cases h
    ·cases h
   ·cases h
  ·cases h
 |nilCheck x=>
  simp only[uk,hop]at h;split at h
  ·rename_i gx s ver p h1;split at h
   ·rename_i r hr;split at h
    ·rename_i e c qs hy;simp only[za,zb]at h;obtain⟨rfl,rfl⟩:=h;rw[zu]at hp;have o1:=zH hT hA h1 (zL hp.1 hg);obtain⟨e1,e2⟩:=uq hy (qV hp.2 hg);have e3:r.okr p:=okr_of e2 (by rw[e1];rfl);refine⟨_,by simp only[ym,hop,o1,vz,yv hA hr,e1];rfl,?_⟩;simp[e3]
    ·cases h
   ·cases h
  ·cases h
 |fieldAddr st x f=>
  simp only[uk,hop]at h;split at h
  ·rename_i fts hfts;split at h
   ·rename_i off ft hn;have hft:JK C.P st f=some (off,ft):=(by rw[zf0 (hT.fields hfts)];exact hn);split at h
    ·rename_i gx y h1;simp only[za,zb]at h;obtain⟨rfl,rfl⟩:=h;rw[zu]at hp;have o1:=zH hT hA h1 (zL hp.1 hg);have hok:vw uT T false 20 st y=some y:=(zm.1 (qV hp.2 hg)).1;obtain⟨zs,rfl⟩:=(zjE hT false 20 st y y hok).2.2.2.1 fts hfts;obtain⟨_,e2,e3,e4⟩:=zzW hT hfts hn ⟨false,_,20,hok⟩;have hc:C.P.cellsOf ft≠0/\f<zs.length/\V.offs zs f=off:=⟨e2,e3,e4⟩;refine⟨_,by simp only[ym,hop,hft,o1,vz];rw[if_pos hc];rfl,?_⟩;simp
    ·rename_i gx v h1;split at h
     ·rename_i fs hy;split at h
      ·rename_i hpl;simp only[za,zb]at h;obtain⟨rfl,rfl⟩:=h;have o1:=zH hT hA h1 (zL hp hg);refine⟨_,by simp only[ym,hop,hft,o1,vz,hy];rw[if_pos (zeH hT hpl)],?_⟩;simp
      ·cases h
     ·cases h
    ·rename_i gx s ver p h1;split at h
     ·rename_i r hr;split at h
      ·rename_i i p' fs qs hy;split at h
       ·rename_i hpl;simp only[za,zb]at h;obtain⟨rfl,rfl⟩:=h;rw[zu]at hp;have o1:=zH hT hA h1 (zL hp.1 hg);obtain⟨e1,e2⟩:=uq hy (qV hp.2 hg)
        have e3:r.okm (i::p'):=by
         rcases e2 with e2|e2
         ·cases e2
         ·exact e2.1
        refine⟨_,by simp only[ym,hop,hft,o1,vz,yv hA hr,e1];rw[if_pos (zeH hT hpl)],?_⟩;simp[e3]
       ·cases h
      ·cases h
     ·cases h
    ·rename_i gx s ver p h1;split at h
     ·rename_i r hr;split at h
      ·rename_i e fs qs hy;split at h
       ·rename_i hpl;simp only[za,zb]at h;obtain⟨rfl,rfl⟩:=h;rw[zu]at hp;have o1:=zH hT hA h1 (zL hp.1 hg);obtain⟨e1,e2⟩:=uq hy (qV hp.2 hg);have e3:r.okr p:=okr_of e2 (by rw[e1];rfl);refine⟨_,by simp only[ym,hop,hft,o1,vz,yv hA hr,e1];rw[if_pos (zeH hT hpl)],?_⟩;simp[e3]
       ·cases h
      ·cases h
     ·cases h
    ·cases h
   ·cases h
  ·cases h
 |indexAddr st x i=>
  simp only[uk,hop]at h;split at h
  ·rename_i e gi n he hi;split at h
   ·rename_i gx e' d es h1;split at h
    ·rename_i hb;have:=qg hb;subst this;simp only[za,zb]at h;obtain⟨rfl,rfl⟩:=h;rw[zu,zu]at hp;have o1:=zH hT hA h1 (zL hp.1.1 hg);have o2:=QJ hT hA hi hg hp.1.2;have hq:=qV hp.2 hg;simp only[zm]at hq;have q1:0<=n:=hq.1;have q2:n<(es.length:Int):=hq.2.1;obtain⟨c1,c2⟩:=zbA hT he;refine⟨_,by simp only[ym,hop,c1,o1,o2,vz];rw[if_pos ⟨trivial,c2⟩];rfl,?_⟩;simp[q1,q2]
    ·cases h
   ·rename_i gx s ver p h1;split at h
    ·rename_i r hr;split at h
     ·rename_i e' d es qs hy;split at h
      ·rename_i hb;have:=qg hb;subst this;simp only[za,zb]at h;obtain⟨rfl,rfl⟩:=h;rw[zu,zu]at hp;have o1:=zH hT hA h1 (zL hp.1.1 hg);have o2:=QJ hT hA hi hg hp.1.2;have hq:=qV hp.2 hg;rw[zu]at hq;obtain⟨e1,e2⟩:=uq hy hq.1;have e3:r.okr p:=okr_of e2 (by rw[e1];rfl);have hq2:=hq.2;simp only[zm]at hq2;have q1:0<=n:=hq2.1;have q2:n<(es.length:Int):=hq2.2.1;obtain⟨c1,c2⟩:=zbA hT he;refine⟨_,by simp only[ym,hop,c1,o1,o2,vz,yv hA hr,e1];rw[if_pos ⟨trivial,c2⟩];rfl,?_⟩;simp[q1,q2,e3]
      ·cases h
     ·cases h
    ·cases h
   ·cases h
  ·cases h
 |index st x i=>
  simp only[uk,hop]at h;split at h
  ·rename_i hst;split at h
   ·rename_i gx s gi n h1 hi;simp only[za,zb]at h;obtain⟨rfl,rfl⟩:=h;rw[zu,zu]at hp;have o1:=zH hT hA h1 (zL hp.1.1 hg);have o2:=QJ hT hA hi hg hp.1.2;have hq:=qV hp.2 hg;simp only[zm]at hq;have q1:0<=n:=hq.1;have q2:n<(s.size:Int):=hq.2.1;refine⟨_,by simp only[ym,hop,hT.str hst,o1,o2,vz];rfl,?_⟩;simp[q1,q2]
   ·cases h
  ·cases h
 |extract x i=>
  simp only[uk,hop]at h;split at h
  ·rename_i gx fs h1;split at h
   ·rename_i y hy;rw[za9]at hy;have hl:i<fs.length:=(zk.1 hy).1;simp only[za,zb]at h;obtain⟨rfl,rfl⟩:=h;have o1:=zH hT hA h1 (zL hp hg);refine⟨_,by simp only[ym,hop,o1,vz,if_pos hl,je hy];rfl,?_⟩;simp
   ·cases h
  ·rename_i gx s ver h1;split at h
   ·rename_i fs hr;split at h
    ·rename_i y hy;rw[za9]at hy;have hl:i<fs.length:=(zk.1 hy).1;split at h
     ·rename_i ho;simp only[za,zb]at h;obtain⟨rfl,rfl⟩:=h;have o1:=zH hT hA h1 (zL hp hg);refine⟨_,by simp only[ym,hop,o1,vz,yv hA hr,if_pos hl,je hy,ho,if_true];rfl,?_⟩;simp
     ·rename_i ho;simp only[za,zb]at h;obtain⟨rfl,rfl⟩:=h;have o1:=zH hT hA h1 (zL hp hg);refine⟨_,by simp only[ym,hop,o1,vz,yv hA hr,if_pos hl,je hy,ho,yB,if_false];rfl,?_⟩;simp
    ·cases h
   ·cases h
  ·cases h
 |slice st x lo hi mx=>
  cases mx with
  |some m=>simp[uk,hop]at h
  |none=>
   simp only[uk,hop]at h;split at h
   ·rename_i gx e d es h1;split at h
    ·rename_i e' he;split at h
     ·rename_i hb;have:=qg hb;subst this;split at h
      ·rename_i gl l gh k h2 h3;simp only[za,zb]at h;obtain⟨rfl,rfl⟩:=h;rw[zu,zu,zu]at hp;have o1:=zH hT hA h1 (zL hp.1.1.1 hg);obtain⟨p2,o2,r2⟩:=YS hT hA h2 hg hp.1.1.2;obtain⟨p3,o3,r3⟩:=YS hT hA h3 hg hp.1.2;have hq:=qV hp.2 hg;simp only[zm]at hq;have q1:0<=l:=hq.1;have q2:l<=k:=hq.2.1;have q3:k<=(es.length:Int):=hq.2.2.1;obtain⟨c1,c2⟩:=zbA hT he;have o3':kq C.P σ true (es.length:Int) hi=some (p3,k):=o3;refine⟨_,by simp only[ym,hop,o1,vz,c1,o2,o3'];rw[if_pos ⟨trivial,c2⟩];rfl,?_⟩;simp[q1,q2,q3,r2,r3]
      ·cases h
     ·cases h
    ·cases h
   ·rename_i gx s h1;split at h
    ·rename_i hst;split at h
     ·rename_i gl l gh k h2 h3;simp only[za,zb]at h;obtain⟨rfl,rfl⟩:=h;rw[zu,zu,zu]at hp;have o1:=zH hT hA h1 (zL hp.1.1.1 hg);obtain⟨p2,o2,r2⟩:=YS hT hA h2 hg hp.1.1.2;obtain⟨p3,o3,r3⟩:=YS hT hA h3 hg hp.1.2;have hq:=qV hp.2 hg;simp only[zm]at hq;have q1:0<=l:=hq.1;have q2:l<=k:=hq.2.1;have q3:k<=(s.size:Int):=hq.2.2.1;have o3':kq C.P σ true (s.size:Int) hi=some (p3,k):=o3;refine⟨_,by simp only[ym,hop,o1,vz,hT.str hst,o2,o3'];rfl,?_⟩;simp[q1,q2,q3,r2,r3]
     ·cases h
    ·cases h
   ·cases h
 |convert s d x=>
  simp only[uk,hop]at h;split at h
  ·rename_i k' k gx k2 n h1 h2 h3;simp only[za,zb]at h;obtain⟨rfl,rfl⟩:=h;have o1:=zH hT hA h3 (zL hp hg);refine⟨_,by simp only[ym,hop,o1,vz,hT.kind h1,hT.kind h2];rfl,?_⟩;simp
  ·rename_i gx sl ver h1 h2 h3;split at h
   ·rename_i e e' dd es h4 h5 h6;split at h
    ·rename_i ti h7 h8 h9;split at h
     ·rename_i h10;simp only[za,zb]at h;obtain⟨rfl,rfl⟩:=h;rw[zu]at hp;have o1:=zH hT hA h3 (zL hp.1 hg);have hq:zkb es:=(zm.1 (qV hp.2 hg)).1;have k1:=hT.elem h5;have k2:C.P.cellsOf e=1:=(by rw[hT.cells h9];exact qg h10);have k3:=hT.str h4;have k4:Ku C.P s=none:=zsd k1;have k5:Ku C.P d=none:=zuz k3;refine⟨_,by simp only[ym,hop,o1,vz,k4,k5,k3,k1,yv hA h6];rw[if_pos ⟨hT.kind h8,qg h7,k2⟩];rfl,?_⟩;simp[hq]
     ·cases h
    ·cases h
   ·cases h
  ·cases h
 |alloc t=>
  simp only[uk,hop]at h;split at h
  ·rename_i ti ht;simp only[za,zb]at h;obtain⟨_,rfl⟩:=h;exact⟨True,by simp only[ym,hop,hT.zero ht];rfl,trivial⟩
  ·cases h
 |box t x=>
  simp only[uk,hop]at h;split at h
  ·rename_i gx v h1;split at h
   ·rename_i ho;split at h
    ·rename_i hf;simp only[za,zb]at h;obtain⟨rfl,rfl⟩:=h;have o1:=zH hT hA h1 (zL hp hg);refine⟨_,by simp only[ym,hop,o1,vz,ho,Bool.false_and,yB,if_false,QO hT hf,if_true];rfl,?_⟩;simp
    ·cases h
   ·cases h
  ·cases h
 |makeSlice t l c=>
  simp only[uk,hop]at h;split at h
  ·rename_i e he;split at h
   ·rename_i gl n gc m ti h1 h2 ht;simp only[za,zb]at h;obtain⟨rfl,rfl⟩:=h;rw[zu,zu]at hp;have o1:=QJ hT hA h1 hg hp.1.1;have o2:=QJ hT hA h2 hg hp.1.2;have hq:=qV hp.2 hg;simp only[zm]at hq;have q1:0<=n:=hq.1;have q2:n<=m:=hq.2.1;have q3:m<=2147483647:=hq.2.2.1;refine⟨_,by simp only[ym,hop,hT.elem he,o1,o2,hT.zero ht];rw[if_pos (hT.small ht)];rfl,?_⟩;simp[q1,q2,q3]
   ·cases h
  ·cases h
 |buildSlice t n parts=>
  simp only[uk,hop]at h;split at h
  ·rename_i e he;split at h
   ·rename_i ti qs vs ht hv;split at h
    ·rename_i hle;split at h
     ·rename_i es hes;simp only[za,zb]at h;obtain⟨rfl,rfl⟩:=h;obtain⟨p,o1,r1⟩:=zaL hT hA hg hv hp
      have hc:n*C.P.cellsOf e<=2^20/\0<C.P.cellsOf e:=by
       have:=(zbA hT he).2;rw[hT.cells ht]at this ⊢;exact⟨jn hle,by omega⟩
      exact⟨p,by simp only[ym,hop,hT.elem he,hT.zero ht,o1];rw[if_pos hc,hes];rfl,r1⟩
     ·cases h
    ·cases h
   ·cases h
  ·cases h
 |build t parts=>
  simp only[uk,hop]at h;split at h
  ·rename_i fts c zs ht;split at h
   ·rename_i qs vs hv;split at h
    ·rename_i fs hfs;simp only[za,zb]at h;obtain⟨rfl,rfl⟩:=h;have hst:za6 C.P t=some zs:=congrArg Got.struct (hT.got ht)
     have hty:(fun i=>((JK C.P t i).map (·.2)).getD 0)=zoq fts:=by
      funext i
      rw[zf0 (hT.fields (t:=t) (fs:=fts) (by simp[Qu,ht]))];unfold zoq;cases zeK fts i<;>rfl
     obtain⟨p,o1,r1⟩:=zaL hT hA hg hv hp;refine⟨p,?_,r1⟩;simp only[ym,hop,hst,hty,o1,hfs];rfl
    ·cases h
   ·cases h
  ·cases h
 |makeFunc fn first caps=>
  cases fn with
  |func f=>
   simp only[uk,hop]at h;split at h
   ·rename_i qs vs hf hv;split at h
    ·cases h
    rename_i hfb;simp only[za,zb]at h;obtain⟨rfl,rfl⟩:=h;obtain⟨p,o1,r1⟩:=zaL hT hA hg hv hp;exact⟨p,by simp only[ym,hop,hf,o1,hfb,yB,if_false];rfl,r1⟩
   ·cases h
  |_=>simp[uk,hop]at h
 |call c=>
  obtain⟨cal,args,ats⟩:=c
  cases cal with
  |builtin b=>
   cases b with
   |len=>
    simp only[uk,hop]at h;split at h
    ·rename_i x t h1 h2;split at h
     ·rename_i gx a' h3;split at h
      ·rename_i o' e' d' es qs h4;split at h
       ·rename_i e he;simp only[za,zb]at h;obtain⟨rfl,rfl⟩:=h;rw[zu]at hp;have o1:=zH hT hA h3 (zL hp.1 hg);obtain⟨l1,l2,l3⟩:=Kp hA h4 (qV hp.2 hg);refine⟨_,by simp only[ym,hop,h1,h2,o1,l3,yB,if_false,l1,hT.elem he,Option.isSome_some,if_true];rfl,?_⟩;simp[l2]
       ·cases h
      ·rename_i s qs h4;split at h
       ·rename_i hst;simp only[za,zb]at h;obtain⟨rfl,rfl⟩:=h;rw[zu]at hp;have o1:=zH hT hA h3 (zL hp.1 hg);obtain⟨l1,l2,l3⟩:=Kp hA h4 (qV hp.2 hg);refine⟨_,by simp only[ym,hop,h1,h2,o1,l3,yB,if_false,l1,hT.str hst,if_true];rfl,?_⟩;simp[l2]
       ·cases h
      ·cases h
     ·cases h
    ·cases h
   |min=>
    simp only[uk,hop]at h;split at h
    ·rename_i x y h0;split at h
     ·rename_i gx k a1 gy k' b1 h1 h2;split at h
      ·rename_i hk;have:=zsg hk;subst this;simp only[za,zb]at h;obtain⟨rfl,rfl⟩:=h;rw[zu]at hp;have o1:=zH hT hA h1 (zL hp.1 hg);have o2:=zH hT hA h2 (zL hp.2 hg);refine⟨_,by simp only[ym,hop,h0,o1,o2,vz,if_true];rfl,?_⟩;simp
      ·cases h
     ·cases h
    ·cases h
   |max=>
    simp only[uk,hop]at h;split at h
    ·rename_i x y h0;split at h
     ·rename_i gx k a1 gy k' b1 h1 h2;split at h
      ·rename_i hk;have:=zsg hk;subst this;simp only[za,zb]at h;obtain⟨rfl,rfl⟩:=h;rw[zu]at hp;have o1:=zH hT hA h1 (zL hp.1 hg);have o2:=zH hT hA h2 (zL hp.2 hg);refine⟨_,by simp only[ym,hop,h0,o1,o2,vz,if_true];rfl,?_⟩;simp
      ·cases h
     ·cases h
    ·cases h
   |_=>simp[uk,hop]at h
  |invoke r m=>simp[uk,hop]at h
  |value f=>
   simp only[uk,hop]at h;split at h
   ·rename_i gf k caps h1;split at h
    ·rename_i qs vs br h2;split at h
     ·cases h
     rename_i hfb;split at h
     ·rename_i ct hct;split at h
      ·rename_i rs r hr;have hphi:C.Φ k (vs++caps)=some (qd rs,r,[]):=(by rw[hΦ];simp only[Jq,hct,hr]);split at h
       ·split at h
        ·cases h
        ·rename_i hfn;simp only[za,zb]at h;obtain⟨rfl,rfl⟩:=h;rw[zu,zu]at hp;have o1:=zH hT hA h1 (zL hp.1.1 hg);obtain⟨p,o2,r2⟩:=zaV hT hA hg h2 hp.1.2;have hq:=qV hp.2 hg;rw[zu]at hq;have hnf:=zaM r hq.2 hfn;refine⟨_,by simp only[ym,hop,o1,o2,vz,hphi,hnf,hfb,zsr hΦ,Bool.not_true,Bool.and_false,Bool.or_false,yB,if_false];rfl,?_⟩;simp[r2,hq.1]
       ·rename_i hbk;simp only[za,zb]at h;obtain⟨rfl,rfl⟩:=h;rw[zu,zu]at hp;have o1:=zH hT hA h1 (zL hp.1.1 hg);obtain⟨p,o2,r2⟩:=zaV hT hA hg h2 hp.1.2;have hq:=qV hp.2 hg;have hb:brK C σ k _ _ br=false:=(zAe (T:=T) (S:=S) hΦ k br (zkX hT hA hg h2 hp.1.2)).trans hbk;refine⟨_,by simp only[ym,hop,o1,o2,vz,hphi,hb,hfb,zsr hΦ,Bool.false_and,Bool.or_false,yB,if_false];rfl,?_⟩;simp[r2,hq]
      ·cases h
     ·cases h
    ·cases h
   ·cases h
 |_=>simp[uk,hop]at h
end
end Go.Ax
