/-
  AX, AxP4: parts ZB to ZH of the abstract executor: values, environments, steps, regions, loops, functions. No conditions.
-/
import Derived.Test.YtdahdoichcnlgaaGreatAxP3p1
import Derived.LoopN
import Derived.ProofKit
set_option linter.all false
open Array renaming getD_eq_getD_getElem?->zw,getElem?_append_left->uI,getElem?_append_right->uC,getElem?_eq_getElem->yW,getElem?_eq_some_iff->yQ,getElem?_toList->qR,length_toList->qu,size_append->zaJ,size_replicate->Ki
open Bool renaming and_eq_true->zh,false_or->Km,not_eq_true'->yD,not_true->ut,or_eq_false_iff->qh,or_eq_true->qL,true_and->za3
open List renaming append_nil->yx,cons_append->zV,eq_nil_of_length_eq_zero->yF,getElem?_append_left->yj,getElem?_append_right->ye,getElem?_cons_zero->yL,getElem?_eq_getElem->zg,getElem?_eq_some_iff->zk,getElem?_map->zN,length_cons->zi,map_cons->yX,mem_cons->zC,mem_cons_of_mem->zx,mem_cons_self->zdu,mem_filter->jp,range_succ_eq_map->ZY
open Nat renaming blt_eq->zhZ,le_refl->zt,lt_succ_self->Kf,not_lt_zero->zgc,zero_add->jh
open Option.some renaming injEq->za
open Prod.mk renaming injEq->zb
namespace Go.Ax
section
variable {C:Ctx}{T:kj}{S:zU}{σ:Env}{B:jZ}
theorem zgQ{d:Nat}{e:Option Bool×A}:∀{S:zU} {x:Nat×Option Bool×A},x∈ins d e S↔x=(d,e)\/x∈S
 |[],x=>by simp[ins]
 |(k,e')::l,x=>by
  simp only[ins];split
  ·simp only[zC,zgQ (S:=l)];constructor
   ·rintro(h|h|h)
    ·exact .inr (.inl h)
    ·exact .inl h
    ·exact .inr (.inr h)
   ·rintro(h|h|h)
    ·exact .inr (.inl h)
    ·exact .inl h
    ·exact .inr (.inr h)
  ·simp
theorem zbv{d:Nat}:∀{S:zU} {x:Nat×Option Bool×A},x∈Jr d S↔x∈S/\x.1≠d/\x.2.2.at0 d=false
 |[],x=>by simp[Jr]
 |(k,g,a)::l,x=>by
  simp only[Jr];split
  ·rename_i hk;have:=qg hk;subst this;rw[zbv (S:=l)];constructor
   ·exact fun h=>⟨zx _ h.1,h.2⟩
   ·rintro⟨h1,h2⟩;rcases zC.1 h1 with rfl|h1
    ·exact absurd rfl h2.1
    ·exact⟨h1,h2⟩
  ·rename_i hk;have hne:k≠d:=fun e=>(by subst e;rw[uL]at hk;cases hk);split
   ·rename_i ha;rw[zbv (S:=l)];constructor
    ·exact fun h=>⟨zx _ h.1,h.2⟩
    ·rintro⟨h1,h2⟩;rcases zC.1 h1 with rfl|h1
     ·have h3:a.at0 d=false:=h2.2;rw[ha]at h3;cases h3
     ·exact⟨h1,h2⟩
   ·rename_i ha;rw[zC,zbv (S:=l),zC];constructor
    ·rintro(rfl|h)
     ·exact⟨.inl rfl,hne,ha⟩
     ·exact⟨.inr h.1,h.2⟩
    ·rintro⟨h1,h2⟩;rcases h1 with h1|h1
     ·exact .inl h1
     ·exact .inr ⟨h1,h2⟩
theorem zcy{d:Nat}:∀{S:zU} {x:Nat×Option Bool×A},x∈zja d S↔x∈S/\x.2.2.at0 d=false
 |[],x=>by simp[zja]
 |(k,g,a)::l,x=>by
  simp only[zja];split
  ·rename_i ha;rw[zcy (S:=l)];constructor
   ·exact fun h=>⟨zx _ h.1,h.2⟩
   ·rintro⟨h1,h2⟩;rcases zC.1 h1 with rfl|h1
    ·have h3:a.at0 d=false:=h2;rw[ha]at h3;cases h3
    ·exact⟨h1,h2⟩
  ·rename_i ha;rw[zC,zcy (S:=l),zC];constructor
   ·rintro(rfl|h)
    ·exact⟨.inl rfl,ha⟩
    ·exact⟨.inr h.1,h.2⟩
   ·rintro⟨h1,h2⟩;rcases h1 with h1|h1
    ·exact .inl h1
    ·exact .inr ⟨h1,h2⟩
theorem JI{d:Nat}{v:V}:∀{S:zU} {x:Nat×Option Bool×A},x∈Qg S d v↔(x∈S/\x.1≠d)\/(x.1=d/\x.2.2=.val v/\∃a,(d,x.2.1,a)∈S)
 |[],x=>by simp[Qg]
 |(k,g,a)::l,x=>by
  simp only[Qg];split
  ·rename_i hk;have:=qg hk;subst this;rw[zC,JI (S:=l)];constructor
   ·rintro(rfl|h|h)
    ·exact .inr ⟨rfl,rfl,a,by simp⟩
    ·exact .inl ⟨zx _ h.1,h.2⟩
    ·obtain⟨h1,h2,a',h3⟩:=h;exact .inr ⟨h1,h2,a',zx _ h3⟩
   ·rintro(h|h)
    ·rcases zC.1 h.1 with h1|h1
     ·exact absurd (by rw[h1]) h.2
     ·exact .inr (.inl ⟨h1,h.2⟩)
    ·obtain⟨h1,h2,a',h3⟩:=h;rcases zC.1 h3 with h4|h4
     ·left;obtain⟨x1,x2,x3⟩:=x;simp only[zb]at h4 h1 h2 ⊢;exact⟨h1,h4.2.1,h2⟩
     ·exact .inr (.inr ⟨h1,h2,a',h4⟩)
  ·rename_i hk;have hne:k≠d:=fun e=>(by subst e;rw[uL]at hk;cases hk);rw[zC,JI (S:=l)];constructor
   ·rintro(rfl|h|h)
    ·exact .inl ⟨by simp,hne⟩
    ·exact .inl ⟨zx _ h.1,h.2⟩
    ·obtain⟨h1,h2,a',h3⟩:=h;exact .inr ⟨h1,h2,a',zx _ h3⟩
   ·rintro(h|h)
    ·rcases zC.1 h.1 with h1|h1
     ·exact .inl h1
     ·exact .inr (.inl ⟨h1,h.2⟩)
    ·obtain⟨h1,h2,a',h3⟩:=h;rcases zC.1 h3 with h4|h4
     ·simp only[zb]at h4;exact absurd h4.1.symm hne
     ·exact .inr (.inr ⟨h1,h2,a',h4⟩)
theorem zeM{ks:List Nat}:∀{S:zU} {x:Nat×Option Bool×A},x∈ZS ks S↔x∈S/\ju ks x.1=true/\x.2.2.in0 ks=true
 |[],x=>by simp[ZS]
 |(k,g,a)::l,x=>by
  simp only[ZS];split
  ·rename_i hk;split
   ·rename_i ha;rw[zC,zeM (S:=l),zC];constructor
    ·rintro(rfl|h)
     ·exact⟨.inl rfl,hk,ha⟩
     ·exact⟨.inr h.1,h.2⟩
    ·rintro⟨h1,h2⟩;rcases h1 with h1|h1
     ·exact .inl h1
     ·exact .inr ⟨h1,h2⟩
   ·rename_i ha;rw[zeM (S:=l)];constructor
    ·exact fun h=>⟨zx _ h.1,h.2⟩
    ·rintro⟨h1,h2⟩;rcases zC.1 h1 with rfl|h1
     ·have h3:a.in0 ks=true:=h2.2;rw[ha]at h3;cases h3
     ·exact⟨h1,h2⟩
  ·rename_i hk;rw[zeM (S:=l)];constructor
   ·exact fun h=>⟨zx _ h.1,h.2⟩
   ·rintro⟨h1,h2⟩;rcases zC.1 h1 with rfl|h1
    ·have h3:ju ks k=true:=h2.1;rw[hk]at h3;cases h3
    ·exact⟨h1,h2⟩
theorem zco{σ σ':Env}{a:A}(h:∀s,a.at0 s=true->(σ' s).ver=(σ s).ver):vz σ' a=vz σ a:=by
 cases a with
 |rf s v p=>simp only[vz];rw[h s (by simp[A.at0])]
 |ad s v p=>simp only[vz];rw[h s (by simp[A.at0])]
 |ag s v p fs=>simp only[vz];rw[h s (by simp[A.at0])]
 |_=>rfl
theorem zny{a:A}{s d:Nat}(h:a.at0 s=true)(h':a.at0 d=false):s≠d:=by
 rintro rfl;rw[h]at h';cases h'
theorem Agr.ref_off(hA:Agr S σ){t d:Nat}{g:Option Bool}{a:A}(h:(t,g,a)∈S)(ha:a.at0 d=true):(σ t).owner=false:=by
 obtain⟨e1,_,e3⟩:=hA.on t g a h;unfold E.owner;rw[e1]
 cases hg:gb g with
 |false=>rfl
 |true=>
  rw[e3 hg]
  cases a<;>first|rfl|(simp[A.at0]at ha)
theorem Agr.put(hA:Agr S σ){d:Nat}{g:Option Bool}{a:A}(hd:a.at0 d=false){a':A}(ha:gb g=true->a'=vz σ a):Agr (jl S d g a) (σ.put d (gb g) a'):=by
 have hv:∀(b:A),b.at0 d=false->vz (σ.put d (gb g) a') b=vz σ b:=fun b hb=>zco (fun s hs=>by simp[Env.put,zny hs hb]);refine⟨fun t g' b h=>?_,fun t h=>?_⟩
 ·rcases zgQ.1 h with h|h
  ·simp only[zb]at h;obtain⟨rfl,rfl,rfl⟩:=h;rw[hv _ hd];simp only[Env.put,if_true];exact⟨trivial,trivial,ha⟩
  ·obtain⟨h1,h2,h3⟩:=zbv.1 h;have h2':t≠d:=h2;rw[hv _ h3];simp only[Env.put,if_neg h2'];exact hA.on t g' b h1
 ·have hne:t≠d:=fun e=>h (g,a) (zgQ.2 (.inl (by rw[e])));simp only[Env.put,if_neg hne];by_cases hx:∃e,(t,e)∈S
  ·obtain⟨⟨g',b⟩,hx⟩:=hx;by_cases hb:b.at0 d=true
   ·exact hA.ref_off hx hb
   ·exact absurd (zgQ.2 (.inr (zbv.2 ⟨hx,hne,by simpa using hb⟩))) (h (g',b))
  ·exact hA.off t (fun e he=>hx ⟨e,he⟩)
theorem Agr.drp(hA:Agr S σ){d:Nat}:Agr (Jr d S) (σ.drp d):=by
 refine⟨fun t g' b h=>?_,fun t h=>?_⟩
 ·obtain⟨h1,h2,h3⟩:=zbv.1 h;have h2':t≠d:=h2;rw[zco (σ:=σ) (fun s hs=>by simp[Env.drp,zny hs h3])];simp only[Env.drp,if_neg h2'];exact hA.on t g' b h1
 ·by_cases hne:t=d
  ·subst hne;simp[Env.drp,E.owner]
  ·simp only[Env.drp,if_neg hne];by_cases hx:∃e,(t,e)∈S
   ·obtain⟨⟨g',b⟩,hx⟩:=hx;by_cases hb:b.at0 d=true
    ·exact hA.ref_off hx hb
    ·exact absurd (zbv.2 ⟨hx,hne,by simpa using hb⟩) (h (g',b))
   ·exact hA.off t (fun e he=>hx ⟨e,he⟩)
theorem Agr.mod(hA:Agr S σ){d:Nat}{r x:V}(ho:jW S d=some r):Agr (Qg S d x) (σ.mod d x):=by
 have hv:∀b:A,vz (σ.mod d x) b=vz σ b:=fun b=>zco (fun s _=>by simp only[Env.mod];split<;>simp_all);refine⟨fun t g' b h=>?_,fun t h=>?_⟩
 ·rw[hv];rcases JI.1 h with⟨h1,h2⟩|⟨h1,h2,a',h3⟩
  ·have h2':t≠d:=h2;simp only[Env.mod,if_neg h2'];exact hA.on t g' b h1
  ·have h1':t=d:=h1;have h2':b=.val x:=h2;subst h1';subst h2';obtain⟨e1,e2,_⟩:=hA.on _ _ _ h3;simp only[Env.mod,if_true];exact⟨e1,e2,fun _=>rfl⟩
 ·have hne:t≠d:=by
   rintro rfl;unfold jW at ho;split at ho
   ·rename_i hl;exact h (none,.val x) (JI.2 (.inr ⟨rfl,rfl,_,jN hl⟩))
   ·cases ho
  simp only[Env.mod,if_neg hne];exact hA.off t (fun e he=>h e (JI.2 (.inl ⟨he,hne⟩)))
theorem zxP:∀{q p:List Nat},zwF q p=true->zgl q p=true
 |[],_::_,_=>rfl
 |i::q,j::p,h=>by
  simp only[zwF]at h;split at h
  ·rename_i e;simp only[zgl,zh,decide_eq_true_eq];exact⟨qg e,zxP h⟩
  ·cases h
 |[],[],h=>by cases h
 |_::_,[],h=>by cases h
theorem zlq{d:Nat}{p:List Nat}:∀{S:zU} {x:Nat×Option Bool×A},x∈zdH d p S->x∈S/\(x.2.2.at0 d=false\/∃v q,x.2.2=.rf d v q/\zgl q p=true)
 |[],x,h=>by simp[zdH]at h
 |(k,g,a)::l,x,h=>by
  simp only[zdH]at h
  have up:x∈zdH d p l->x∈(k,g,a)::l/\(x.2.2.at0 d=false\/∃v q,x.2.2=.rf d v q/\zgl q p=true):=fun h=>by
   obtain⟨h1,h2⟩:=zlq h;exact⟨zx _ h1,h2⟩
  split at h
  ·rename_i ha;split at h
   ·rename_i s v q;split at h
    ·rename_i hq;rcases zC.1 h with rfl|h
     ·refine⟨zdu ..,.inr ⟨v,q,?_,zxP hq⟩⟩;simp only[A.at0]at ha;rw[qg ha]
     ·exact up h
    ·exact up h
   ·exact up h
  ·rename_i ha;rcases zC.1 h with rfl|h
   ·exact⟨zdu ..,.inl ha⟩
   ·exact up h
theorem zgo{d:Nat}{p:List Nat}:∀{S:zU} {x:Nat×Option Bool×A},x∈S->x.2.2.at0 d=false->x∈zdH d p S
 |[],x,h,_=>by cases h
 |(k,g,a)::l,x,h,hx=>by
  simp only[zdH];rcases zC.1 h with rfl|h
  ·have ha:a.at0 d=false:=hx;rw[ha];exact zdu ..
  ·have ih:=zgo (p:=p) h hx;split
   ·split
    ·split
     ·exact zx _ ih
     ·exact ih
    ·exact ih
   ·exact zx _ ih
theorem zA5{a:A}{d v:Nat}{p:List Nat}(h:a.at0 d=false):(vz σ a).keep d v p=vz σ a:=by
 cases a with
 |rf s v' q=>
  simp only[vz,A.keep];rw[if_neg];rintro⟨rfl,_⟩;simp[A.at0]at h
 |_=>rfl
theorem Agr.bmk(hA:Agr S σ){d:Nat}{p:List Nat}{r x:V}(ho:jW S d=some r):Agr (Qg (zdH d p S) d x) (σ.bmk d x p):=by
 obtain⟨gd,hl⟩:∃r',look S d=some (none,.val r'):=by
  unfold jW at ho;split at ho
  ·rename_i hl;exact⟨_,hl⟩
  ·cases ho
 refine⟨fun t g' b h=>?_,fun t h=>?_⟩
 ·rcases JI.1 h with⟨h1,h2⟩|⟨h1,h2,a',h3⟩
  ·have h2':t≠d:=h2;obtain⟨h3,h4⟩:=zlq h1;obtain⟨k1,k2,k3⟩:=hA.on t g' b h3;simp only[Env.bmk,if_neg h2'];refine⟨k1,k2,fun hg=>?_⟩;rw[k3 hg];rcases h4 with h4|⟨v,q,h4,hq⟩
   ·have h4':b.at0 d=false:=h4;rw[zA5 h4'];exact(zco (fun s hs=>by simp[Env.bmk,zny hs h4'])).symm
   ·have h4':b=.rf d v q:=h4;subst h4';simp only[vz,A.keep];rw[if_pos ⟨trivial,trivial,hq⟩];simp[Env.bmk,Env.bmp]
  ·have h1':t=d:=h1;have h2':b=.val x:=h2;subst h1';subst h2';obtain⟨e1,e2,_⟩:=hA.on _ _ _ (zlq h3).1;simp only[Env.bmk,Env.bmp,if_true];exact⟨e1,e2,fun _=>rfl⟩
 ·have hne:t≠d:=by
   rintro rfl;exact h (none,.val x) (JI.2 (.inr ⟨rfl,rfl,_,zgo (jN hl) rfl⟩))
  have hoff:(σ t).owner=false:=by
   by_cases hx:∃e,(t,e)∈S
   ·obtain⟨⟨g',b⟩,hx⟩:=hx;by_cases hb:b.at0 d=true
    ·exact hA.ref_off hx hb
    ·exact absurd (JI.2 (.inl ⟨zgo hx (by simpa using hb),hne⟩)) (h (g',b))
   ·exact hA.off t (fun e he=>hx ⟨e,he⟩)
  simp only[Env.bmk,if_neg hne];unfold E.owner at hoff ⊢;simp only at hoff ⊢
  cases hA':(σ t).a with
  |rf s v q=>
   by_cases hc:s=d/\v=(σ d).ver/\zgl q p=true
   ·rw[A.keep,if_pos hc];simp
   ·rw[A.keep,if_neg hc];simp
  |_=>simp_all [A.keep]
theorem Agr.bmp(hA:Agr S σ){d:Nat}{r x:V}(ho:jW S d=some r):Agr (Qg (zja d S) d x) (σ.bmp d x):=by
 obtain⟨gd,hl⟩:∃r',look S d=some (none,.val r'):=by
  unfold jW at ho;split at ho
  ·rename_i hl;exact⟨_,hl⟩
  ·cases ho
 refine⟨fun t g' b h=>?_,fun t h=>?_⟩
 ·rcases JI.1 h with⟨h1,h2⟩|⟨h1,h2,a',h3⟩
  ·have h2':t≠d:=h2;obtain⟨h3,h4⟩:=zcy.1 h1;rw[zco (σ:=σ) (fun s hs=>by simp[Env.bmp,zny hs h4])];simp only[Env.bmp,if_neg h2'];exact hA.on t g' b h3
  ·have h1':t=d:=h1;have h2':b=.val x:=h2;subst h1';subst h2';obtain⟨e1,e2,_⟩:=hA.on _ _ _ (zcy.1 h3).1;simp only[Env.bmp,if_true];exact⟨e1,e2,fun _=>rfl⟩
 ·have hne:t≠d:=by
   rintro rfl;exact h (none,.val x) (JI.2 (.inr ⟨rfl,rfl,_,zcy.2 ⟨jN hl,rfl⟩⟩))
  simp only[Env.bmp,if_neg hne];by_cases hx:∃e,(t,e)∈S
  ·obtain⟨⟨g',b⟩,hx⟩:=hx;by_cases hb:b.at0 d=true
   ·exact hA.ref_off hx hb
   ·exact absurd (JI.2 (.inl ⟨zcy.2 ⟨hx,by simpa using hb⟩,hne⟩)) (h (g',b))
  ·exact hA.off t (fun e he=>hx ⟨e,he⟩)
theorem zet{s ver:Nat}{p:List Nat}:∀(fs:List V) (i:Nat) (S:zU) (σ:Env) (ps:List Prop) (ys:List V) (S1:zU),Agr S σ->(σ s).ver=ver->zgA (yk T) T s p fs i S=some (ps,ys,S1)->qd ps->
 ∃q σ1,ZB s ver fs p i σ=some (q,ys,σ1)/\q/\Agr S1 σ1/\(σ1 s).ver=ver
 |[],i,S,σ,ps,ys,S1,hA,hv,h,_=>by
  simp only[zgA,za,zb]at h;obtain⟨_,rfl,rfl⟩:=h;exact⟨True,σ,rfl,trivial,hA,hv⟩
 |f::fs,i,S,σ,ps,ys,S1,hA,hv,h,hp=>by
  simp only[zgA]at h;split at h
  ·rename_i hlf;split at h
   ·rename_i hfo;split at h
    ·rename_i r hr;split at h
     ·rename_i y qs hy;split at h
      ·rename_i hH;split at h
       ·rename_i r' hu;split at h
        ·rename_i rs zs S' hz;simp only[za,zb]at h;obtain⟨rfl,rfl,rfl⟩:=h;rw[zu]at hp;obtain⟨a1,a2⟩:=uq hy hp.1;rcases a2 with a2|⟨a2,a3,a4,a5⟩
         ·simp at a2
         have hu':=uY _ _ _ _ _ _ a5 hp.1 hu;subst hu';have ho:=yv hA hr;rw[hv]at ho;have a6:(r.at (p++[i])).isH=true:=(by rw[a1];exact hH);obtain⟨q,σ1,t1,t2,t3,t4⟩:=zet (ver:=ver) fs (i+1) _ (σ.mod s (r.upd (p++[i]) (.hole 1))) rs zs S' (hA.mod hr) (by simp[Env.mod,hv]) hz hp.2
         have hP:qw s ver f (p++[i]) σ=some (r.okm (p++[i])/\(r.at (p++[i])).isH=true,y,σ.mod s (r.upd (p++[i]) (.hole 1))):=by
          cases f<;>first|(simp[V.leaf]at hlf;done)|(simp[V.owned]at hfo;done)|(simp only[V.owned]at hfo;subst hfo;simp only[qw,ho,a1])|simp only[qw,ho,a1]
         exact⟨(r.okm (p++[i])/\(r.at (p++[i])).isH=true)/\q,σ1,by simp only[ZB,hP,t1],⟨⟨a2,a6⟩,t2⟩,t3,t4⟩
        ·cases h
       ·cases h
      ·cases h
     ·cases h
    ·cases h
   ·rename_i hfo;split at h
    ·rename_i rs zs S' hz;simp only[za,zb]at h;obtain⟨rfl,rfl,rfl⟩:=h;obtain⟨q,σ1,t1,t2,t3,t4⟩:=zet (ver:=ver) fs (i+1) S σ rs zs S' hA hv hz hp
     have hP:qw s ver f (p++[i]) σ=some (True,f,σ):=by
      cases f<;>first|(simp[V.leaf]at hlf;done)|(simp[V.owned]at hfo;done)|(simp only[V.owned]at hfo;subst hfo;simp[qw,V.owned])|simp[qw,V.owned]
     exact⟨True/\q,σ1,by simp only[ZB,hP,t1],⟨trivial,t2⟩,t3,t4⟩
    ·cases h
  ·cases h
theorem zbG{s ver:Nat}{p:List Nat}:∀(fs:List V) (i:Nat) (S:zU) (σ:Env) (ps:List Prop) (ys:List V) (S1:zU),Agr S σ->(σ s).ver=ver->zes (yk T) T s p fs i S=some (ps,ys,S1)->qd ps->
 ∃q σ1,ZB s ver fs p i σ=some (q,ys,σ1)/\q/\Agr S1 σ1
 |[],i,S,σ,ps,ys,S1,hA,_,h,_=>by
  simp only[zes,za,zb]at h;obtain⟨_,rfl,rfl⟩:=h;exact⟨True,σ,rfl,trivial,hA⟩
 |f::fs,i,S,σ,ps,ys,S1,hA,hv,h,hp=>by
  simp only[zes]at h;split at h
  ·rename_i hlf;split at h
   ·rename_i hfo;split at h
    ·rename_i r hr;split at h
     ·rename_i y qs hy;split at h
      ·rename_i hH;split at h
       ·rename_i r' hu;split at h
        ·rename_i rs zs S' hz;simp only[za,zb]at h;obtain⟨rfl,rfl,rfl⟩:=h;rw[zu]at hp;obtain⟨a1,a2⟩:=uq hy hp.1;rcases a2 with a2|⟨a2,a3,a4,a5⟩
         ·simp at a2
         have hu':=uY _ _ _ _ _ _ a5 hp.1 hu;subst hu';have ho:=yv hA hr;rw[hv]at ho;have a6:(r.at (p++[i])).isH=true:=(by rw[a1];exact hH);obtain⟨q,σ1,t1,t2,t3⟩:=zbG (ver:=ver) fs (i+1) _ (σ.mod s (r.upd (p++[i]) (.hole 1))) rs zs S' (hA.mod hr) (by simp[Env.mod,hv]) hz hp.2
         have hP:qw s ver f (p++[i]) σ=some (r.okm (p++[i])/\(r.at (p++[i])).isH=true,y,σ.mod s (r.upd (p++[i]) (.hole 1))):=by
          cases f<;>first|(simp[V.leaf]at hlf;done)|(simp[V.owned]at hfo;done)|(simp only[V.owned]at hfo;subst hfo;simp only[qw,ho,a1])|simp only[qw,ho,a1]
         exact⟨(r.okm (p++[i])/\(r.at (p++[i])).isH=true)/\q,σ1,by simp only[ZB,hP,t1],⟨⟨a2,a6⟩,t2⟩,t3⟩
        ·cases h
       ·cases h
      ·cases h
     ·cases h
    ·cases h
   ·rename_i hfo;split at h
    ·rename_i rs zs S' hz;simp only[za,zb]at h;obtain⟨rfl,rfl,rfl⟩:=h;obtain⟨q,σ1,t1,t2,t3⟩:=zbG (ver:=ver) fs (i+1) S σ rs zs S' hA hv hz hp
     have hP:qw s ver f (p++[i]) σ=some (True,f,σ):=by
      cases f<;>first|(simp[V.leaf]at hlf;done)|(simp[V.owned]at hfo;done)|(simp only[V.owned]at hfo;subst hfo;simp[qw,V.owned])|simp[qw,V.owned]
     exact⟨True/\q,σ1,by simp only[ZB,hP,t1],⟨trivial,t2⟩,t3⟩
    ·cases h
  ·split at h
   ·rename_i gs _;split at h
    ·rename_i ps0 zs S0 hz0;split at h
     ·rename_i rs ys' S' hz;simp only[za,zb]at h;obtain⟨rfl,rfl,rfl⟩:=h;rw[zu]at hp;obtain⟨q0,σ0,u1,u2,u3,u4⟩:=zet (ver:=ver) gs 0 S σ ps0 zs S0 hA hv hz0 hp.1;obtain⟨q,σ1,t1,t2,t3⟩:=zbG (ver:=ver) fs (i+1) S0 σ0 rs ys' S' u3 u4 hz hp.2;have hP:qw s ver (.agg gs) (p++[i]) σ=some (q0,.agg zs,σ0):=(by simp only[qw,u1]);exact⟨q0/\q,σ1,by simp only[ZB,hP,t1],⟨u2,t2⟩,t3⟩
     ·cases h
    ·cases h
   ·cases h
theorem uE(hA:Agr S σ){a:A}{ps:List Prop}{y:V}{S1:zU}(h:JW (yk T) T S a=some (ps,y,S1))(hp:qd ps):∃q σ1,qY σ (vz σ a)=some (q,y,σ1)/\q/\Agr S1 σ1:=by
 cases a with
 |val x=>
  simp only[JW,za,zb]at h;obtain⟨_,rfl,rfl⟩:=h;exact⟨True,σ,rfl,trivial,hA⟩
 |rf s ver p=>
  simp only[JW]at h;split at h
  ·rename_i r hr;have ho:=yv hA hr;split at h
   ·simp only[za,zb]at h;obtain⟨_,rfl,rfl⟩:=h;exact⟨True,σ.drp s,by simp only[vz,qY,ho],trivial,hA.drp⟩
   ·rename_i i q;split at h
    ·rename_i fs;split at h
     ·split at h
      ·rename_i z hz;rw[za9]at hz;have hl:i<fs.length:=(zk.1 hz).1;simp only[za,zb]at h;obtain⟨_,rfl,rfl⟩:=h;exact⟨i<fs.length,σ.mod s (.tup (fs.set i (.hole z.size))),by simp only[vz,qY,ho,je hz],hl,hA.mod hr⟩
      ·cases h
     ·cases h
    ·rename_i hn;split at h
     ·rename_i z qs hz;split at h
      ·rename_i hH;split at h
       ·rename_i r' hu;simp only[za,zb]at h;obtain⟨rfl,rfl,rfl⟩:=h;obtain⟨e1,e2⟩:=uq hz hp;rcases e2 with e2|⟨e2,e3,e4,e5⟩
        ·cases e2
        ·have hu':=uY _ _ _ _ _ _ e5 hp hu;subst hu';have e6:(r.at (i::q)).isH=true:=(by rw[e1];exact hH);refine⟨r.okm (i::q)/\(r.at (i::q)).isH=true,σ.mod s (r.upd (i::q) (.hole 1)),?_,⟨e2,e6⟩,hA.mod hr⟩;simp only[vz,qY,ho,e1]
       ·cases h
      ·cases h
     ·cases h
  ·cases h
 |ad=>simp[JW]at h
 |fz=>simp[JW]at h
 |ag s ver p fs=>
  simp only[JW]at h;split at h
  ·rename_i qs ys S' hz;simp only[za,zb]at h;obtain⟨rfl,rfl,rfl⟩:=h;obtain⟨q,σ1,t1,t2,t3⟩:=zbG (ver:=(σ s).ver) fs 0 S σ qs ys S' hA rfl hz hp;exact⟨q,σ1,by simp only[vz,qY,qw,t1],t2,t3⟩
  ·cases h
end
end Go.Ax
namespace Go.Ax
section
variable {C:Ctx}{T:kj}{S:zU}{σ:Env}{B:jZ}
theorem zke:∀(p:List Nat) (r c:V) (e:TypeId) (qs:List Prop),kX (yk T) T r p=some (.box e c,qs)->kX (yk T) T r (p++[0])=some (c,qs)
 |[],r,c,e,qs,h=>by
  simp only[kX,za,zb]at h;obtain⟨rfl,rfl⟩:=h;simp[kX]
 |i::p,.slc o e' d es,c,e,qs,h=>by
  cases o with
  |false=>simp[kX]at h
  |true=>
   simp only[kX]at h;simp only[zV,kX];split at h
   ·rename_i y' hv;split at h
    ·rename_i z q hz;simp only[za,zb]at h;obtain⟨rfl,rfl⟩:=h;rw[zke p _ _ _ _ hz]
    ·cases h
   ·cases h
 |i::p,.agg fs,c,e,qs,h=>by
  simp only[kX]at h;simp only[zV,kX];split at h
  ·exact zke p _ _ _ _ h
  ·cases h
 |i::p,.box e' c',c,e,qs,h=>by
  cases i with
  |zero=>
   simp only[kX]at h;simp only[zV,kX];exact zke p _ _ _ _ h
  |succ i=>simp[kX]at h
 |_::_,.int _ _,_,_,_,h=>by simp[kX]at h
 |_::_,.bool _,_,_,_,h=>by simp[kX]at h
 |_::_,.str _,_,_,_,h=>by simp[kX]at h
 |_::_,.tup _,_,_,_,h=>by simp[kX]at h
 |_::_,.fn _ _,_,_,_,h=>by simp[kX]at h
 |_::_,.hole _,_,_,_,h=>by simp[kX]at h
theorem zB0{p:List Nat}{r c:V}{e:TypeId}{qs:List Prop}(h:atR (yk T) T r p=some (.box e c,qs)):kX (yk T) T r (p++[0])=some (c,qs):=by
 unfold atR at h;split at h
 ·simp only[za,zb]at h;obtain⟨rfl,rfl⟩:=h;simp[kX]
 ·split at h
  ·cases h
  ·cases h
  ·exact zke _ _ _ _ _ h
theorem zdm{ops:Array Oper}(hA:Agr S σ){o:Oper}{g:Option Bool}(h:gdS (yk T) ops.toList S o=some g):gd ops σ o=some (gb g):=by
 unfold gdS at h;unfold gd
 cases hg:o.guard with
 |none=>
  simp only[hg,za]at h;subst h;rfl
 |some jw=>
  obtain⟨j,want⟩:=jw;simp only[hg]at h;split at h
  ·rename_i o' ho;rw[zzz,qR]at ho;split at h
   ·rename_i t ht;split at h
    ·rename_i g0 b hl;obtain⟨e1,e2,e3⟩:=hA.on _ _ _ (jN hl);simp only[ho,Option.bind_some,ht,e2,if_true]
     cases hgb:gb g0 with
     |true=>
      rw[hgb]at e1;have e3':(σ t).a=.val (.bool b):=e3 hgb;rw[e1,if_pos rfl,e3'];split at h
      ·simp only[za]at h;subst h
       cases g0 with
       |none=>simp[zlQ,gb]
       |some a=>simp only[gb]at hgb;subst hgb;simp[zlQ,gb,yk]
      ·simp only[za]at h;subst h
       cases g0 with
       |none=>simp[zlQ,gb,yk]
       |some a=>simp only[gb]at hgb;subst hgb;simp[zlQ,gb,yk]
     |false=>
      rw[hgb]at e1;rw[e1,if_neg (by simp)]
      cases g0 with
      |none=>cases hgb
      |some a=>
       simp only[gb]at hgb;subst hgb
       split at h<;>
       ·simp only[za]at h;subst h;simp[zlQ,gb,yk]
    ·cases h
   ·cases h
  ·cases h
theorem zm0{o:Oper}{x:Operand}{s ver:Nat}{p:List Nat}(hop:o.op=.assign x)(h:opd C.P σ o.type x=some (true,.rf s ver p))(hr:∃fs,σ.own s ver=some (.tup fs))(hp:p≠[]):ym C σ true o=none:=by
 simp only[ym,hop,h];obtain⟨fs,hr⟩:=hr
 cases p with
 |nil=>exact absurd rfl hp
 |cons i p=>simp only[hr]
theorem zls{o:Oper}{x:Operand}{s ver d:Nat}(hop:o.op=.assign x)(h:opd C.P σ o.type x=some (true,.rf s ver []))(hd:o.dst=some d)(hal:(C.Φ (1000000000+d) []).isSome=false):ym C σ true o=none:=by
 simp only[ym,hop,h,hd];rw[hal];rfl
def WOk(T:kj)(C:Ctx)(S:zU)(σ:Env)(o:Oper)(S':zU):Prop:=∃p σ',qv C σ o=some (p,σ')/\p/\Agr S' σ'/\
 (∀d,o.dst=some d->ym C σ true o=none\/∃x gx s v ver,o.op=.assign x/\jr T S o.type x=some (gx,.rf s v [])/\opd C.P σ o.type x=some (true,.rf s ver []))/\o.guard=none/\(o.dst=none->kO T o=true)
theorem WOk.mk{o:Oper}{S':zU}{p:Prop}{σ':Env}(h1:qv C σ o=some (p,σ'))(h2:p)(h3:Agr S' σ')(h4:∀d,o.dst=some d->ym C σ true o=none)(h5:o.guard=none)(h6:(o.dst=none->kO T o=true)):WOk T C S σ o S':=
 ⟨p,σ',h1,h2,h3,fun d hd=>.inl (h4 d hd),h5,h6⟩
theorem za4(hT:TabOk C.P T)(hA:Agr S σ){o:Oper}{ps:List Prop}{S':zU}(hn:∀d,o.dst=some d->C.dst d)(hst:Yv T C.lo C.st o=true)(h:wS (yk T) T S o=some (ps,S'))(hp:qd ps):WOk T C S σ o S':=by
 unfold wS at h;split at h
 ·cases h
 rename_i hgd;split at h
 ·
   rename_i x d hop hd;split at h
   ·rename_i gx s ver p h1;split at h
    ·rename_i qs y S1 h2;split at h
     ·cases h
     rename_i hh
     have hpp:qd (yS (yk T) none gx)/\qd qs:=by
      split at h
      ·split at h
       ·cases h
       ·simp only[za,zb]at h;obtain⟨rfl,_⟩:=h;exact zu.1 hp
      ·split at h
       ·simp only[za,zb]at h;obtain⟨rfl,_⟩:=h;exact zu.1 hp
       ·cases h
     have o1:=zH hT hA h1 (zL hpp.1 rfl);obtain⟨q,σ1,t1,t2,t3⟩:=uE hA h2 hpp.2;have hdn:=hn d hd;have hc:(decide (C.dst d)&& !y.isHole)=true:=(by simp[hdn,hh]);simp only[vz]at o1 t1;split at h
     ·rename_i hb;split at h
      ·cases h
      rename_i hsd;have hne:s≠d:=fun e=>(by subst e;rw[uL]at hsd;cases hsd);simp only[za,zb]at h;obtain⟨_,rfl⟩:=h;have hA1:Agr (jl S1 d none (.val y)) (σ1.put d true (.val y)):=t3.put (g:=none) rfl (fun _=>rfl)
      have hA2:Agr (jl (jl S1 d none (.val y)) s none (.rf d 0 [])) ((σ1.put d true (.val y)).put s true (.rf d ((σ1 d).ver+1) [])):=
       hA1.put (g:=none) (by cases hh:jH d s with
        |false=>exact hh
        |true=>exact absurd (qg hh).symm hne) (fun _=>by simp[vz,Env.put])
      have hw:qv C σ o=some (true=true/\q,(σ1.put d true (.val y)).put s true (.rf d ((σ1 d).ver+1) [])):=by
       simp only[qv,hgd,hop,hd,o1,t1];rw[if_pos hc,if_neg hne]
      exact⟨_,_,hw,⟨rfl,t2⟩,hA2,fun _ _=>.inr ⟨_,_,_,_,_,hop,h1,o1⟩,hgd,fun h=>by rw[hd]at h;cases h⟩
     ·rename_i hpn;split at h
      ·rename_i fs hr;simp only[za,zb]at h;obtain⟨_,rfl⟩:=h;have hA1:Agr (jl S1 d none (.val y)) (σ1.put d true (.val y)):=t3.put (g:=none) rfl (fun _=>rfl)
       have hw:qv C σ o=some (true=true/\q,σ1.put d true (.val y)):=by
        simp only[qv,hgd,hop,hd,o1,t1];rw[if_pos hc];split
        ·rename_i heq;simp only[A.rf.injEq]at heq;exact absurd heq.2.2 hpn
        ·rfl
       exact .mk hw ⟨rfl,t2⟩ hA1 (fun _ _=>zm0 hop o1 ⟨fs,yv hA hr⟩ hpn) hgd (fun h=>by rw[hd]at h;cases h)
      ·cases h
    ·cases h
   ·rename_i gx v h1;split at h
    ·rename_i hv;simp only[zh]at hv;simp only[za,zb]at h;obtain⟨rfl,rfl⟩:=h;have o1:=zH hT hA h1 (zL hp rfl);have hdn:=hn d hd;have hc:(decide (C.dst d)&& !v.isHole)=true:=(by simp only[hdn,decide_true,za3];exact hv.2);simp only[vz]at o1;have hA1:Agr (jl S d none (.val v)) (σ.put d true (.val v)):=hA.put (g:=none) rfl (fun _=>rfl)
     have hw:qv C σ o=some (true=true/\True,σ.put d true (.val v)):=by
      simp only[qv,hgd,hop,hd,o1,qY];rw[if_pos hc]
     exact .mk hw ⟨rfl,trivial⟩ hA1 (fun _ _=>by simp only[ym,hop,o1];rw[if_pos hv.1]) hgd (fun h=>by rw[hd]at h;cases h)
    ·cases h
   ·cases h
 ·
   rename_i t x v hop hd;split at h
   ·rename_i gv av h1;split at h
    ·rename_i qs y S1 h2;split at h
     ·rename_i hfit;simp only[zh]at hfit;split at h
      ·rename_i gx s ver p h3;split at h
       ·rename_i r hr;split at h
        ·rename_i i p' z rs r' h4 h5;split at h
         ·rename_i hsz;simp only[zh,qL]at hsz
          have hst':C.st=true->(z.isScalar&&y.isScalar)=true:=fun hh=>by
           rcases hsz.2 with h'|h'
           ·simpa using h'
           ·simp only[Yv,hh,hop,ut,Km,zh]at hst;rw[hst.2]at h';cases h'
          simp only[za,zb]at h;obtain⟨rfl,rfl⟩:=h;rw[zu,zu,zu]at hp;obtain⟨⟨⟨p1,p2⟩,p3⟩,p4⟩:=hp;have o1:=zH hT hA h1 (zL p1 rfl);obtain⟨q,σ1,t1,t2,t3⟩:=uE hA h2 p2;have o2:=zH hT t3 h3 (zL p3 rfl);obtain⟨⟨e1,e1'⟩,e2,e5⟩:=znx h4 p4;have hu:=e5 _ _ h5;subst hu;have hb:0<y.size:=by have:=jn hfit.2;omega
          have hc:(uG C.P t y&&(z.size==y.size)&&y.solid&&decide (0<y.size))=true:=by
           simp[QO hT hfit.1.1,qg hsz.1,hfit.1.2,hb]
          have hos:=yv t3 hr
          have hw:qv C σ o=some (true=true/\q/\true=true/\r.okm (i::p')/\(C.st=true->(z.isScalar&&y.isScalar)=true),if z.isScalar&&y.isScalar then σ1.mod s (r.upd (i::p') y)else σ1.bmp s (r.upd (i::p') y)):=by
           simp only[vz]at o2;simp only[qv,hgd,hop,hd,o1,t1,o2,hos,e1,e1'];rw[if_pos hc]
          refine .mk hw ⟨rfl,t2,rfl,e2,hst'⟩ ?_ (fun d' hd'=>by rw[hd]at hd';cases hd') hgd (fun _=>by simp[kO,kT,zzN,zwV,hop])
          cases hsc:z.isScalar&&y.isScalar with
          |true=>simpa using t3.mod hr
          |false=>simpa using t3.bmp hr
         ·cases h
        ·cases h
       ·cases h
      ·rename_i gx s ver p h3;split at h
       ·rename_i r hr;split at h
        ·rename_i e z rs r' h4 h5;split at h
         ·rename_i hsz;simp only[zh,qL]at hsz
          have hst':C.st=true->(z.isScalar&&y.isScalar)=true:=fun hh=>by
           rcases hsz.2 with h'|h'
           ·simpa using h'
           ·simp only[Yv,hh,hop,ut,Km,zh]at hst;rw[hst.2]at h';cases h'
          simp only[za,zb]at h;obtain⟨rfl,rfl⟩:=h;rw[zu,zu,zu]at hp;obtain⟨⟨⟨p1,p2⟩,p3⟩,p4⟩:=hp;have o1:=zH hT hA h1 (zL p1 rfl);obtain⟨q,σ1,t1,t2,t3⟩:=uE hA h2 p2;have o2:=zH hT t3 h3 (zL p3 rfl);obtain⟨e1,e2⟩:=uq h4 p4;have e3:r.okr p:=okr_of e2 (by rw[e1];rfl);have e4:r.okm (p++[0]):=zu4 e1 e2;have hu:=uY _ _ _ _ _ _ (zB0 h4) p4 h5;subst hu;have hb:0<y.size:=by have:=jn hfit.2;omega
          have hc:(uG C.P t y&&(z.size==y.size)&&y.solid&&decide (0<y.size))=true:=by
           simp[QO hT hfit.1.1,qg hsz.1,hfit.1.2,hb]
          have hos:=yv t3 hr
          have hw:qv C σ o=some (true=true/\q/\true=true/\r.okr p/\r.okm (p++[0])/\(C.st=true->(z.isScalar&&y.isScalar)=true),if z.isScalar&&y.isScalar then σ1.mod s (r.upd (p++[0]) y)else σ1.bmp s (r.upd (p++[0]) y)):=by
           simp only[vz]at o2;simp only[qv,hgd,hop,hd,o1,t1,o2,hos,e1];rw[if_pos hc]
          refine .mk hw ⟨rfl,t2,rfl,e3,e4,hst'⟩ ?_ (fun d' hd'=>by rw[hd]at hd';cases hd') hgd (fun _=>by simp[kO,kT,zzN,zwV,hop])
          cases hsc:z.isScalar&&y.isScalar with
          |true=>simpa using t3.mod hr
          |false=>simpa using t3.bmp hr
         ·cases h
        ·cases h
       ·cases h
      ·cases h
     ·cases h
    ·cases h
   ·cases h
 ·
   rename_i args ats d hop hd;have hln:∀d,o.dst=some d->ym C σ true o=none:=fun _ _=>(by simp only[ym,hop]);have hdn:=hn d hd;split at h
   ·rename_i x y t t' hargs hats;split at h
    ·rename_i htt;have:=qg htt;subst this;split at h
     ·rename_i e he;split at h
      ·rename_i gx ax h1;split at h
       ·rename_i qs e' dd es S1 h2;split at h
        ·rename_i gy ay h3;split at h
         ·rename_i oy ey d2 es2 rs h4;split at h
          ·rename_i hcc;simp only[zh]at hcc;obtain⟨⟨hc1,hc2⟩,hc3⟩:=hcc;have:=qg hc1;subst this;have:=qg hc2;subst this
           obtain⟨te,hte⟩:∃te,qE T e=some te:=by
            cases hh:qE T e with
            |none=>simp[kK,hh]at hc3
            |some te=>exact⟨te,rfl⟩
           have hcz:0<C.P.cellsOf e:=by have:=zpF hT hc3;omega
           have hsc:zaY C.P e=Kx T e:=by
            have hg:=hT.got hte;have i1:Ku C.P e=(zdV te).int:=congrArg Got.int hg;have i2:Jt C.P e=(zdV te).str:=congrArg Got.str hg;have i3:zf6 C.P e=(zdV te).bool:=congrArg Got.bool hg;unfold zaY Kx;rw[i1,i2,i3,hte];obtain⟨k,c,z⟩:=te;cases k<;>rfl
           split at h
           ·rename_i hoy;simp only[za,zb]at h;obtain⟨rfl,rfl⟩:=h;simp only[zu,zm]at hp;obtain⟨⟨⟨⟨p1,p2⟩,p3⟩,p4⟩,p5,p6,p7,_⟩:=hp;have o1:=zH hT hA h1 (zL p1 rfl);obtain⟨q,σ1,t1,t2,t3⟩:=uE hA h2 p2;have o2:=zH hT t3 h3 (zL p3 rfl);obtain⟨l1,l2,l3⟩:=Kp t3 h4 p4;have p5':V.owneds es2=false:=p5;have p6':(es.length:Int)+(es2.length:Int)<=2147483647:=p6;have p7':∀x∈es2,x.solid=true:=p7
            have hc:(decide (C.dst d)&&e==e&&e==e&& !(vz σ1 ay).isAg&&decide (C.P.bytesOf e<=65536)&&decide (0<C.P.cellsOf e))=true:=by
             simp[hdn,l3,hT.small hte,hcz]
            have hw:qv C σ o=some (true=true/\q/\true=true/\(vz σ1 ay).okA σ1/\es.length+es2.length<=2147483647/\(∀x∈es2,x.solid=true)/\V.owneds es2=false/\C.st=false,σ1.put d true (.val (.slc true e dd (es++es2)))):=by
             simp only[qv,hgd,hop,hd,hargs,hats,if_true,hT.elem he,o1,t1,o2,hT.zero hte,l1];rw[if_pos hc];rw[hsc,hoy];simp
            have hap:C.st=false:=by
             cases hh:C.st with
             |false=>rfl
             |true=>simp[Yv,hh,hop]at hst
            exact .mk hw ⟨rfl,t2,rfl,l2,by omega,p7',p5',hap⟩ (t3.put (g:=none) rfl (fun _=>rfl)) hln hgd (fun h=>by rw[hd]at h;cases h)
           ·rename_i hoy;split at h
            ·rename_i rs' e3 d3 es3 S2 h5;simp only[za,zb]at h;obtain⟨rfl,rfl⟩:=h;simp only[zu,zm]at hp;obtain⟨⟨⟨⟨⟨p1,p2⟩,p3⟩,p4⟩,p5⟩,p6,p7,_⟩:=hp;have o1:=zH hT hA h1 (zL p1 rfl);obtain⟨q,σ1,t1,t2,t3⟩:=uE hA h2 p2;have o2:=zH hT t3 h3 (zL p3 rfl);obtain⟨l1,l2,l3⟩:=Kp t3 h4 p4;obtain⟨q2,σ2,u1,u2,u3⟩:=uE t3 h5 p5;have p6':(es.length:Int)+(es3.length:Int)<=2147483647:=p6;have p7':∀x∈es3,x.solid=true:=p7
             have hc:(decide (C.dst d)&&e==e&&e==e&& !(vz σ1 ay).isAg&&decide (C.P.bytesOf e<=65536)&&decide (0<C.P.cellsOf e))=true:=by
              simp[hdn,l3,hT.small hte,hcz]
             have hw:qv C σ o=some (true=true/\q/\true=true/\q2/\es.length+es3.length<=2147483647/\(∀x∈es3,x.solid=true)/\C.st=false,σ2.put d true (.val (.slc true e dd (es++es3)))):=by
              simp only[qv,hgd,hop,hd,hargs,hats,if_true,hT.elem he,o1,t1,o2,hT.zero hte,l1];rw[if_pos hc];rw[hsc,hoy,if_pos rfl,u1]
             have hap:C.st=false:=by
              cases hh:C.st with
              |false=>rfl
              |true=>simp[Yv,hh,hop]at hst
             exact .mk hw ⟨rfl,t2,rfl,u2,by omega,p7',hap⟩ (u3.put (g:=none) rfl (fun _=>rfl)) hln hgd (fun h=>by rw[hd]at h;cases h)
            ·cases h
          ·cases h
         ·cases h
        ·cases h
       ·cases h
      ·cases h
     ·cases h
    ·cases h
   ·cases h
 ·cases h
end
end Go.Ax
namespace Go.Ax
section
variable {C:Ctx}{T:kj}{S:zU}{σ:Env}{B:jZ}
theorem zd5(hA:Agr S σ){d:Nat}(h:zln (look S d)=false):(σ d).owner=false:=by
 cases hl:look S d with
 |none=>exact hA.off d (zp4 hl)
 |some e=>
  obtain⟨g,a⟩:=e;obtain⟨e1,_,e3⟩:=hA.on _ _ _ (jN hl);unfold E.owner;rw[e1]
  cases hg:gb g with
  |false=>rfl
  |true=>
   rw[e3 hg];rw[hl]at h
   cases a<;>first|rfl|exact h
theorem zwa(hT:TabOk C.P T)(hA:Agr S σ)(hΦ:C.Φ=Jq B){ops:Array Oper}{o:Oper}(hst:Yv T C.lo C.st o=true){ps:List Prop}{S':zU}(h:zy2 (yk T) T B C.nt ops.toList S o=some (ps,S'))(hp:qd ps):
 ∃p σ',step C ops (kO T o) σ o=some (p,σ')/\p/\Agr S' σ':=by
 unfold zy2 at h
 have viaW:(∀d,o.dst=some d->C.dst d)->(∀d,o.dst=some d->∃g,uk (yk T) T B S g o=none)->(o.dst.isSome=true->kO T o=true)->wS (yk T) T S o=some (ps,S')->∃p σ',step C ops (kO T o) σ o=some (p,σ')/\p/\Agr S' σ':=by
  intro hn hln hk hw;obtain⟨p,σ',e1,e2,e3,e4,e5,e6⟩:=za4 hT hA hn hst hw hp;refine⟨p,σ',?_,e2,e3⟩
  have hl:qm C ops σ o=none:=by
   unfold qm
   cases hd:o.dst with
   |none=>
    have:gd ops σ o=some true:=(by unfold gd;rw[e5]);rw[this]
   |some d=>
    have:gd ops σ o=some true:=(by unfold gd;rw[e5]);rw[this];dsimp only
    have e8:ym C σ true o=none:=by
     rcases e4 d hd with h8|⟨x,gx,s,v,ver,h8,h9,h10⟩
     ·exact h8
     ·obtain⟨g,hg⟩:=hln d hd;refine zls h8 h10 hd ?_;rw[hΦ];simp only[Jq];simp only[uk,h8,h9,hd]at hg
      cases hb:zce B (1000000000+d)with
      |none=>rfl
      |some f=>
       rw[hb]at hg;dsimp only at hg ⊢
       cases hf:f []with
       |none=>rfl
       |some r=>rw[hf]at hg;cases hg
    rw[e8]
  have e7:kO T o=true:=by
   cases hd:o.dst with
   |none=>exact e6 hd
   |some d=>exact hk (by rw[hd];rfl)
  unfold step;rw[e7,if_pos rfl,hl];exact e1
 split at h
 ·rename_i g hgd;have hg1:=zdm hA hgd;split at h
  ·rename_i d hd;split at h
   ·rename_i hn
    have hdn:C.dst d:=⟨by
     simp only[Yv,hd,zh]at hst
     exact jn hst.1,jn hn⟩
    split at h
    ·rename_i qs a hlop;split at h
     ·cases h
     ·rename_i hat
      simp only[qh]at hat
      obtain⟨ha1,ha2⟩:=hat
      simp only[za,zb]at h;obtain⟨rfl,rfl⟩:=h
      have main:∃p a',qm C ops σ o=some (p,σ.put d (gb g) a')/\p/\(gb g=true->a'=vz σ a):=by
       cases hgb:gb g with
       |true=>
        obtain⟨p,e1,e2⟩:=zat hT hA hΦ hgb hlop hp;refine⟨p,vz σ a,?_,e2,fun _=>rfl⟩;unfold qm;rw[hg1,hgb,hd];dsimp only;rw[e1];dsimp only;rw[if_pos hdn]
       |false=>
        refine⟨True,.val (.hole 0),?_,trivial,fun h=>by cases h⟩;unfold qm;rw[hg1,hgb,hd];dsimp only;rw[if_pos hdn]
      obtain⟨p,a',e1,e2,e3⟩:=main;refine⟨p,_,?_,e2,hA.put ha1 e3⟩;unfold step
      cases hk:kO T o with
      |true=>rw[if_pos rfl,e1]
      |false=>
       rw[hk]at ha2;have:zln (look S d)=false:=(by simpa using ha2);rw[if_neg (by simp),hd];dsimp only;rw[zd5 hA this,if_neg (by simp)];exact e1
    ·rename_i hlop;split at h
     ·rename_i hk;exact viaW (fun d' hd'=>by rw[hd]at hd';simp only[za]at hd';subst hd';exact hdn) (fun _ _=>⟨_,hlop⟩) (fun _=>hk) h
     ·cases h
   ·cases h
  ·rename_i hd;exact viaW (fun d' hd'=>by rw[hd]at hd';cases hd') (fun d' hd'=>by rw[hd]at hd';cases hd') (fun h=>by rw[hd]at h;cases h) h
 ·cases h
theorem Jk{ps:List Prop}{r:Prop}:ZA ps r↔qd ps/\r:=by
 induction ps with
 |nil=>simp[ZA,ztu]
 |cons p l ih=>simp only[ZA,zm,ih,and_assoc]
theorem zqf(hT:TabOk C.P T)(hΦ:C.Φ=Jq B){ops:Array Oper}{K:zU->Prop}{K':Env->Prop}(hK:∀S σ,K S->Agr S σ->K' σ):∀(l:List Oper) (S:zU) (σ:Env),zaZ T C.lo C.st l=true->evS (yk T) T B C.nt ops.toList l S K->Agr S σ->ev C ops l (l.map (kO T)) σ K'
 |[],S,σ,_,h,hA=>hK S σ h hA
 |o::l,S,σ,hst,h,hA=>by
  simp only[zaZ,zh]at hst;simp only[evS]at h;split at h
  ·rename_i ps S' hs;rw[Jk]at h;obtain⟨p,σ',e1,e2,e3⟩:=zwa hT hA hΦ hst.1 hs h.1;simp only[yX,ev,e1];exact⟨e2,zqf hT hΦ hK l S' σ' hst.2 h.2 e3⟩
  ·exact h.elim
def psi(Bi:qN):FuncId->Option (Nat×Bool×(List V->Option (Prop×V×V))):=fun k=>match zdG Bi k with
 |some (j,m,c)=>some (j,m,fun args=>match c args with
  |some (ps,r,y)=>some (qd ps,r,y)
  |none=>none)
 |none=>none
def zrQ:qN->Bool
 |[]=>true
 |(_,j,m,_)::l=>(!m&& !jw j)&&zrQ l
theorem zlo:∀{Bi:qN} {k j:Nat} {m:Bool} {c:kQ},zrQ Bi=true->zdG Bi k=some (j,m,c)->m=false/\jw j=false
 |[],_,_,_,_,_,h=>by simp[zdG]at h
 |(k',j',m',c')::l,k,j,m,c,hn,h=>by
  simp only[zrQ,zh,yD]at hn;simp only[zdG]at h;split at h
  ·simp only[za,zb]at h;obtain⟨rfl,rfl,_⟩:=h;exact hn.1
  ·exact zlo hn.2 h
def za2(C:Ctx)(Bi:qN):Prop:=C.Ψ=psi Bi/\(C.st=true->zrQ Bi=true)
theorem zx2(hA:Agr S σ){a:A}{ps:List Prop}{x:V}{S1:zU}{back:V->Option zU}(h:ioS (yk T) T S a=some (ps,x,S1,back))(hp:qd ps):
 ∃q σ1 back1,Ka σ (vz σ a)=some (q,x,σ1,back1)/\q/\Agr S1 σ1/\∀y S2,back y=some S2->Agr S2 (back1 y):=by
 cases a with
 |rf s ver p=>
  simp only[ioS]at h;split at h
  ·rename_i r hr;have ho:=yv hA hr;split at h
   ·split at h
    ·rename_i hH;simp only[za,zb]at h;obtain⟨_,rfl,rfl,rfl⟩:=h;refine⟨True,σ.drp s,fun y=>σ.mod s y,by simp only[vz,Ka,ho];rw[if_pos hH],trivial,hA.drp,fun y S2 h2=>?_⟩;simp only[za]at h2;subst h2;exact hA.mod hr
    ·cases h
   ·rename_i i q;split at h
    ·rename_i x' qs hx;split at h
     ·rename_i hH;split at h
      ·rename_i r1 hu;simp only[za,zb]at h;obtain⟨rfl,rfl,rfl,rfl⟩:=h;obtain⟨e1,e2⟩:=uq hx hp;rcases e2 with e2|⟨e2,e3,e4,e5⟩
       ·cases e2
       have hu':=uY _ _ _ _ _ _ e5 hp hu;subst hu'
       have hsz:(r.at (i::q)).size=1:=by
        rw[e1];revert hH;cases x'<;>simp[V.isH,V.size]
       refine⟨r.okm (i::q)/\(r.at (i::q)).isH=true,σ.mod s (r.upd (i::q) (.hole 1)),fun y=>σ.mod s (r.upd (i::q) y),by
        rw[e1]at hsz
        simp only[vz,Ka,ho,e1,hsz],⟨e2,by rw[e1];exact hH⟩,hA.mod hr,fun y S2 h2=>?_⟩
       dsimp only at h2;split at h2
       ·rename_i r2 hu2;simp only[za]at h2;subst h2;have hu2':=uY _ _ _ _ _ _ e5 hp hu2;subst hu2';exact hA.mod hr
       ·cases h2
      ·cases h
     ·cases h
    ·cases h
  ·cases h
 |ag s ver p fs=>
  simp only[ioS]at h;split at h
  ·rename_i r hr;have ho:=yv hA hr;split at h
   ·cases h
   ·rename_i i q;split at h
    ·rename_i gs qs hx;split at h
     ·rename_i hok;split at h
      ·rename_i r1 hu;simp only[za,zb]at h;obtain⟨rfl,rfl,rfl,rfl⟩:=h;obtain⟨e1,e2⟩:=uq hx hp;rcases e2 with e2|⟨e2,e3,e4,e5⟩
       ·cases e2
       have hu':=uY _ _ _ _ _ _ e5 hp hu;subst hu';refine⟨r.okm (i::q),σ.mod s (r.upd (i::q) (.hole (V.sizes gs))),_,by simp only[vz,Ka,ho,e1];rw[if_pos hok];rfl,e2,hA.mod hr,fun y S2 h2=>?_⟩;dsimp only at h2;split at h2
       ·rename_i xs;split at h2
        ·rename_i r2 hu2;simp only[za]at h2;subst h2;have hu2':=uY _ _ _ _ _ _ e5 hp hu2;subst hu2';exact hA.mod hr
        ·cases h2
       ·cases h2
      ·cases h
     ·cases h
    ·cases h
  ·cases h
 |_=>simp[ioS]at h
theorem zlw{Bi:qN}(hT:TabOk C.P T)(hA:Agr S σ)(hΦ:C.Φ=Jq B)(hΨ:za2 C Bi){o:Oper}{ps:List Prop}{S':zU}(hn:∀d,o.dst=some d->C.dst d)(h:iS (yk T) T B Bi S o=some (ps,S'))(hp:qd ps):
 ∃p σ',Yn C σ o=some (p,σ')/\p/\Agr S' σ':=by
 unfold iS at h;split at h
 ·cases h
 rename_i hg;split at h
 ·rename_i k args ats hop;split at h
  ·cases h
  rename_i hBk;split at h
  ·rename_i j c hIk;split at h
   ·rename_i x hx;split at h
    ·rename_i gx a h1;split at h
     ·rename_i qs y S1 back h2;split at h
      ·rename_i rs vs br h3;split at h
       ·rename_i ts r y' h4;split at h
        ·rename_i S2 h5;split at h
         ·cases h
         rename_i hfn0;obtain⟨hfn,hwk⟩:=qh.1 hfn0;simp only[za,zb]at h;obtain⟨rfl,rfl⟩:=h;rw[zu,zu,zu,zu]at hp;obtain⟨⟨⟨⟨p1,p2⟩,p3⟩,p4⟩,p5⟩:=hp;have o1:=zH hT hA h1 (zL p1 rfl);obtain⟨q,σ1,back1,t1,t2,t3,t4⟩:=zx2 hA h2 p2;obtain⟨pl,l1,l2⟩:=zaV hT t3 (g:=none) rfl h3 p3
         have hpsi:C.Ψ k=some (j,false,fun args=>match c args with
          |some (ps,r,y)=>some (qd ps,r,y)
          |none=>none):=by rw[hΨ.1];simp only[psi,hIk]
         have hnf:(br&& !(r.noFz&&y'.noFz))=false:=by
          cases hb:br with
          |false=>rfl
          |true=>
           rw[hb]at p5 hfn;simp only[za3,qh]at hfn;rw[zu]at p5;rw[zaM r p5.1 hfn.1,zaM y' p5.2 hfn.2];rfl
         have hwk':(jw j&& !(zap (vz σ a)&&y.bare))=false:=by
          have:zap (vz σ a)=zap a:=by
           cases a with
           |rf s v p=>cases p<;>rfl
           |_=>rfl
          rw[this];exact hwk
         have hwj:jw j=true->C.st=false:=fun hj=>by
          cases hst:C.st with
          |false=>rfl
          |true=>rw[(zlo (hΨ.2 hst) hIk).2]at hj;cases hj
         have ho1:opd C.P σ 0 x=some (true,vz σ a):=o1
         cases hd:o.dst with
         |none=>
          refine⟨true=true/\q/\pl/\qd ts/\(jw j=true->C.st=false),back1 y',?_,⟨rfl,t2,l2,p4,hwj⟩,t4 y' S2 h5⟩;simp only[Yn,hg,hop,hpsi,hx,ho1,t1,l1,h4,hnf,hwk',hd];rw[if_neg (by simp)]
         |some d=>
          refine⟨true=true/\q/\pl/\qd ts/\(jw j=true->C.st=false),(back1 y').put d true (.val r),?_,⟨rfl,t2,l2,p4,hwj⟩,(t4 y' S2 h5).put (g:=none) rfl (fun _=>rfl)⟩;simp only[Yn,hg,hop,hpsi,hx,ho1,t1,l1,h4,hnf,hwk',hd];rw[if_neg (by simp),if_pos (hn d hd)]
        ·cases h
       ·cases h
      ·cases h
     ·cases h
    ·cases h
   ·cases h
  ·cases h
 ·cases h
theorem zzP{Bi:qN}(hT:TabOk C.P T)(hA:Agr S σ)(hΦ:C.Φ=Jq B)(hΨ:za2 C Bi){ops:Array Oper}{o:Oper}{ps:List Prop}{S':zU}(hn:∀d,o.dst=some d->C.dst d)(h:iS (yk T) T B Bi S o=some (ps,S'))(hp:qd ps):
 ∃p σ',zc6 C ops σ o (p,σ')/\p/\Agr S' σ':=by
 obtain⟨p,σ',e1,e2,e3⟩:=zlw hT hA hΦ hΨ hn h hp;exact⟨p,σ',.inr (.inr (.inl e1)),e2,e3⟩
theorem zq7{Bi:qN}(hT:TabOk C.P T)(hA:Agr S σ)(hΦ:C.Φ=Jq B)(hΨ:za2 C Bi){o:Oper}{ps:List Prop}{S':zU}(hn:∀d,o.dst=some d->C.dst d)(h:vS (yk T) T B Bi S o=some (ps,S'))(hp:qd ps):
 ∃p σ',zdW C σ o=some (p,σ')/\p/\Agr S' σ':=by
 unfold vS at h;split at h
 ·cases h
 rename_i hg;split at h
 ·rename_i k args ats hop;split at h
  ·cases h
  rename_i hBk;split at h
  ·rename_i j c hIk;split at h
   ·rename_i x hx;split at h
    ·rename_i gx a h1;split at h
     ·rename_i qs y S1 h2;split at h
      ·rename_i rs vs br h3;split at h
       ·rename_i ts r y' h4;split at h
        ·cases h
        rename_i hfn;simp only[za,zb]at h;obtain⟨rfl,rfl⟩:=h;rw[zu,zu,zu,zu]at hp;obtain⟨⟨⟨⟨p1,p2⟩,p3⟩,p4⟩,p5⟩:=hp;have o1:=zH hT hA h1 (zL p1 rfl);obtain⟨q,σ1,t1,t2,t3⟩:=uE hA h2 p2;obtain⟨pl,l1,l2⟩:=zaV hT t3 (g:=none) rfl h3 p3
        have hpsi:C.Ψ k=some (j,true,fun args=>match c args with
         |some (ps,r,y)=>some (qd ps,r,y)
         |none=>none):=by rw[hΨ.1];simp only[psi,hIk]
        have hnf:(br&& !r.noFz)=false:=by
         cases hb:br with
         |false=>rfl
         |true=>
          rw[hb]at p5 hfn;simp only[za3]at hfn;rw[zaM r p5 hfn];rfl
        have hst':C.st=false:=by
         cases hh:C.st with
         |false=>rfl
         |true=>exact absurd (zlo (hΨ.2 hh) hIk).1 (by simp)
        have ho1:opd C.P σ _ x=some (true,vz σ a):=o1
        cases hd:o.dst with
        |none=>
         refine⟨true=true/\q/\pl/\qd ts/\C.st=false,σ1,?_,⟨rfl,t2,l2,p4,hst'⟩,t3⟩;simp only[zdW,hg,hop,hpsi,hx,ho1,t1,l1,h4,hnf,hd];rw[if_neg (by simp)]
        |some d=>
         refine⟨true=true/\q/\pl/\qd ts/\C.st=false,σ1.put d true (.val r),?_,⟨rfl,t2,l2,p4,hst'⟩,t3.put (g:=none) rfl (fun _=>rfl)⟩;simp only[zdW,hg,hop,hpsi,hx,ho1,t1,l1,h4,hnf,hd];rw[if_neg (by simp),if_pos (hn d hd)]
       ·cases h
      ·cases h
     ·cases h
    ·cases h
   ·cases h
  ·cases h
 ·cases h
theorem zAj(hT:TabOk C.P T)(hA:Agr S σ){ops:Array Oper}{o:Oper}{ps:List Prop}{S':zU}(hn:∀d,o.dst=some d->C.dst d)(h:bS (yk T) T S o=some (ps,S'))(hp:qd ps):
 ∃p σ',zc6 C ops σ o (p,σ')/\p/\Agr S' σ':=by
 unfold bS at h;split at h
 ·cases h
 rename_i hg;split at h
 ·rename_i t x d hop hd;split at h
  ·rename_i gx s ver p h1;split at h
   ·split at h
    ·rename_i fs hr;split at h
     ·rename_i hc;simp only[zh,yD]at hc;simp only[za,zb]at h;obtain⟨rfl,rfl⟩:=h;have o1:=zH hT hA h1 (zL hp rfl);have hos:=yv hA hr;have hsd:s≠d:=fun e=>(by subst e;rw[uL]at hc;cases hc.1);have hA1:Agr (jl (Jr s S) d none (.val (.box t (.agg fs)))) ((σ.drp s).put d true (.val (.box t (.agg fs)))):=hA.drp.put (g:=none) rfl (fun _=>rfl)
      have hA2:Agr (jl (jl (Jr s S) d none (.val (.box t (.agg fs)))) s none (.ag d 0 [0] fs)) (((σ.drp s).put d true (.val (.box t (.agg fs)))).put s true (.ag d (((σ.drp s) d).ver+1) [0] fs)):=
       hA1.put (g:=none) (by cases hh:jH d s with
        |false=>exact hh
        |true=>exact absurd (qg hh).symm hsd) (fun _=>by simp[vz,Env.put])
      simp only[vz]at o1
      have hb:znt C σ o=some (true=true,((σ.drp s).put d true (.val (.box t (.agg fs)))).put s true (.ag d (((σ.drp s) d).ver+1) [0] fs)):=by
       simp only[znt,hg,hop,hd,o1,hos];rw[if_pos ⟨hn d hd,hsd,hc.2⟩]
      exact⟨true=true,_,.inr (.inr (.inr (.inl hb))),rfl,hA2⟩
     ·cases h
    ·cases h
   ·cases h
  ·cases h
 ·cases h
theorem zdz(hT:TabOk C.P T){ty:Nat->TypeId}:∀(parts:List (Nat×Operand)) (S S1:zU) (σ:Env) (ps:List Prop) (vs:List (Nat×V)),Agr S σ->zee (yk T) T ty S parts=some (ps,vs,S1)->qd ps->
 ∃p σ1,JD C ty σ parts=some (p,vs,σ1)/\p/\Agr S1 σ1
 |[],S,S1,σ,ps,vs,hA,h,_=>by
  simp only[zee,za,zb]at h;obtain⟨_,rfl,rfl⟩:=h;exact⟨True,σ,rfl,trivial,hA⟩
 |(i,x)::xs,S,S1,σ,ps,vs,hA,h,hp=>by
  simp only[zee]at h;split at h
  ·rename_i gx a h1;split at h
   ·rename_i qs y S2 h2;split at h
    ·cases h
    rename_i hnh;split at h
    ·rename_i rs vs' S3 h3;simp only[za,zb]at h;obtain⟨rfl,rfl,rfl⟩:=h;rw[zu,zu]at hp;obtain⟨⟨p1,p2⟩,p3⟩:=hp;have o1:=zH hT hA h1 (zL p1 rfl);obtain⟨q,σ1,t1,t2,t3⟩:=uE hA h2 p2;obtain⟨p,σ2,u1,u2,u3⟩:=zdz hT xs S2 _ σ1 rs vs' t3 h3 p3;refine⟨true=true/\q/\p,σ2,?_,⟨rfl,t2,u2⟩,u3⟩;have o2:opd C.P σ (ty i) x=some (true,vz σ a):=o1;simp only[JD,o2,t1,u1];rw[if_neg (by simp[hnh])]
    ·cases h
   ·cases h
  ·cases h
theorem zr3(hT:TabOk C.P T)(hA:Agr S σ){o:Oper}{ps:List Prop}{S':zU}(hn:∀d,o.dst=some d->C.dst d)(h:mS (yk T) T S o=some (ps,S'))(hp:qd ps):
 ∃p σ',zbX C σ o=some (p,σ')/\p/\Agr S' σ':=by
 unfold mS at h;split at h
 ·cases h
 rename_i hg;split at h
 ·rename_i t parts d hop hd;split at h
  ·rename_i fts c zs ht;split at h
   ·rename_i qs vs S1 hv;split at h
    ·rename_i fs hfs;simp only[za,zb]at h;obtain⟨rfl,rfl⟩:=h;have hst:za6 C.P t=some zs:=congrArg Got.struct (hT.got ht)
     have hty:(fun i=>((JK C.P t i).map (·.2)).getD 0)=zoq fts:=by
      funext i
      rw[zf0 (hT.fields (t:=t) (fs:=fts) (by simp[Qu,ht]))];unfold zoq;cases zeK fts i<;>rfl
     obtain⟨p,σ1,u1,u2,u3⟩:=zdz (C:=C) hT _ _ _ σ _ _ hA hv hp;refine⟨p,_,?_,u2,u3.put (g:=none) rfl (fun _=>rfl)⟩;simp only[zbX,hg,hop,hd,hst,hty,u1,hfs];rw[if_pos (hn d hd)];rfl
    ·cases h
   ·cases h
  ·cases h
 ·rename_i t n parts d hop hd;split at h
  ·rename_i e he;split at h
   ·rename_i ti qs vs S1 ht hv;split at h
    ·rename_i hle;simp only[zh]at hle;split at h
     ·rename_i es hes;simp only[za,zb]at h;obtain⟨rfl,rfl⟩:=h;obtain⟨p,σ1,u1,u2,u3⟩:=zdz (C:=C) hT _ _ _ σ _ _ hA hv hp
      have hc:n*C.P.cellsOf e<=2^20/\0<C.P.cellsOf e/\0<n:=by
       have:=(zbA hT he).2;rw[hT.cells ht]at this ⊢;exact⟨jn hle.1,by omega,jn hle.2⟩
      refine⟨p,_,?_,u2,u3.put (g:=none) rfl (fun _=>rfl)⟩;simp only[zbX,hg,hop,hd,hT.elem he,hT.zero ht,u1];rw[if_pos hc,hes];dsimp only;rw[if_pos (hn d hd)];rfl
     ·cases h
    ·cases h
   ·cases h
  ·cases h
 ·cases h
theorem zzG(hT:TabOk C.P T)(hA:Agr S σ){ops:Array Oper}{o:Oper}{ps:List Prop}{S':zU}(hn:∀d,o.dst=some d->C.dst d)(h:mS (yk T) T S o=some (ps,S'))(hp:qd ps):
 ∃p σ',zc6 C ops σ o (p,σ')/\p/\Agr S' σ':=by
 obtain⟨p,σ',h1,h2,h3⟩:=zr3 hT hA hn h hp;exact⟨p,σ',.inr (.inr (.inr (.inr (.inl h1)))),h2,h3⟩
theorem zzY(hT:TabOk C.P T)(hA:Agr S σ){ops:Array Oper}{o:Oper}{ps:List Prop}{S':zU}(hn:∀d,o.dst=some d->C.dst d)(hst:Yv T C.lo C.st o=true)(h:fS (yk T) T S o=some (ps,S'))(hp:qd ps):
 ∃p σ',zc6 C ops σ o (p,σ')/\p/\Agr S' σ':=by
 unfold fS at h;split at h
 ·cases h
 rename_i hg;split at h
 ·rename_i st x lo hi mx d hop hd;split at h
  ·rename_i gx s ver p h1;split at h
   ·split at h
    ·rename_i e dd es hr;split at h
     ·rename_i e' he;split at h
      ·rename_i hc;simp only[zh,yD,qL]at hc;obtain⟨⟨hc1,hc2⟩,hc3⟩:=hc;have:=qg hc1;subst this;split at h
       ·rename_i gl l gh hh gm m hl hhi hmx;simp only[za,zb]at h;obtain⟨rfl,rfl⟩:=h;simp only[zu,zm]at hp;obtain⟨⟨⟨⟨p1,p2⟩,p3⟩,p4⟩,q1,q2,q3,q4,_⟩:=hp;have o1:=zH hT hA h1 (zL p1 rfl);have hos:=yv hA hr;simp only[vz]at o1
        have hst':C.st=false:=by
         cases hh:C.st with
         |false=>rfl
         |true=>simp[Yv,hh,hop]at hst
        obtain⟨pl,b1,b2⟩:=YS (g:=none) hT hA hl rfl p2;obtain⟨ph,c1,c2⟩:=YS (g:=none) hT hA hhi rfl p3;obtain⟨pm,d1,d2⟩:=YS (g:=none) hT hA hmx rfl p4;have c1:kq C.P σ true (es.length:Int) hi=some (ph,hh):=c1;have d1:kq C.P σ true (es.length:Int) mx=some (pm,m):=d1;have hds:d≠s:=fun e=>(by subst e;rw[uL]at hc2;cases hc2);have hA1:=(hA.drp (d:=s)).put (d:=s) (g:=none) (a:=.val (.slc false e dd.frz (V.frzs es))) (a':=.val (.slc false e dd.frz (V.frzs es))) rfl (fun _=>rfl);have hA2:=hA1.put (d:=d) (g:=none) (a:=.val (.slc false e dd.frz (((V.frzs es).take hh.toNat).drop l.toNat))) (a':=.val (.slc false e dd.frz (((V.frzs es).take hh.toNat).drop l.toNat))) rfl (fun _=>rfl);refine⟨true=true/\pl/\ph/\pm/\0<=l/\l<=hh/\hh<=m/\m<=(es.length:Int)/\C.st=false,_,.inr (.inr (.inr (.inr (.inr (.inl ?_))))),⟨rfl,b2,c2,d2,q1,q2,q3,q4,hst'⟩,hA2⟩
        have hcc:e=e/\C.P.cellsOf e≠0/\C.dst d/\(mx.isSome=true->hi.isSome=true):=⟨rfl,(zbA hT he).2,hn d hd,fun h=>by
         rcases hc3 with h'|h'
         ·exact h'
         ·rw[h]at h';cases h'⟩
        simp only[zqO,hg,hop,hd,o1,hos,hT.elem he,b1,c1,d1];rw[if_pos ⟨trivial,hcc.2⟩];rfl
       ·cases h
      ·cases h
     ·cases h
    ·cases h
   ·cases h
  ·cases h
 ·cases h
theorem zmo{Bi:qN}(hT:TabOk C.P T)(hA:Agr S σ)(hΦ:C.Φ=Jq B)(hΨ:za2 C Bi){ops:Array Oper}{o:Oper}(hst:Yv T C.lo C.st o=true){ps:List Prop}{S':zU}(h:zwd (yk T) T B Bi C.nt ops.toList S o=some (ps,S'))(hp:qd ps):
 ∃p σ',zc6 C ops σ o (p,σ')/\p/\Agr S' σ':=by
 unfold zwd at h
 have viaW:(∀d,o.dst=some d->C.dst d)->(match wS (yk T) T S o with
  |some r=>some r
  |none=>match iS (yk T) T B Bi S o with
   |some r=>some r
   |none=>match bS (yk T) T S o with
    |some r=>some r
    |none=>match mS (yk T) T S o with
     |some r=>some r
     |none=>match fS (yk T) T S o with
      |some r=>some r
      |none=>vS (yk T) T B Bi S o)=some (ps,S')->∃p σ',zc6 C ops σ o (p,σ')/\p/\Agr S' σ':=by
  intro hn hw;split at hw
  ·rename_i r hr;simp only[za]at hw;subst hw;obtain⟨p,σ',e1,e2,e3,_⟩:=za4 hT hA hn hst hr hp;exact⟨p,σ',.inr (.inl e1),e2,e3⟩
  ·split at hw
   ·rename_i r hr;simp only[za]at hw;subst hw;exact zzP hT hA hΦ hΨ hn hr hp
   ·split at hw
    ·rename_i r hr;simp only[za]at hw;subst hw;exact zAj hT hA hn hr hp
    ·split at hw
     ·rename_i r hr;simp only[za]at hw;subst hw;exact zzG hT hA hn hr hp
     ·split at hw
      ·rename_i r hr;simp only[za]at hw;subst hw;exact zzY hT hA hn hst hr hp
      ·obtain⟨p,σ',e1,e2,e3⟩:=zq7 hT hA hΦ hΨ hn hw hp;exact⟨p,σ',.inr (.inr (.inr (.inr (.inr (.inr e1))))),e2,e3⟩
 split at h
 ·rename_i g hgd;have hg1:=zdm hA hgd;split at h
  ·rename_i d hd;split at h
   ·rename_i hn
    have hdn:C.dst d:=⟨by
     simp only[Yv,hd,zh]at hst
     exact jn hst.1,jn hn⟩
    split at h
    ·rename_i qs a hlop;split at h
     ·cases h
     ·rename_i ha1;simp only[za,zb]at h;obtain⟨rfl,rfl⟩:=h
      have main:∃p a',qm C ops σ o=some (p,σ.put d (gb g) a')/\p/\(gb g=true->a'=vz σ a):=by
       cases hgb:gb g with
       |true=>
        obtain⟨p,e1,e2⟩:=zat hT hA hΦ hgb hlop hp;refine⟨p,vz σ a,?_,e2,fun _=>rfl⟩;unfold qm;rw[hg1,hgb,hd];dsimp only;rw[e1];dsimp only;rw[if_pos hdn]
       |false=>
        refine⟨True,.val (.hole 0),?_,trivial,fun h=>by cases h⟩;unfold qm;rw[hg1,hgb,hd];dsimp only;rw[if_pos hdn]
      obtain⟨p,a',e1,e2,e3⟩:=main;exact⟨p,_,.inl e1,e2,hA.put ha1 e3⟩
    ·exact viaW (fun d' hd'=>by rw[hd]at hd';simp only[za]at hd';subst hd';exact hdn) h
   ·cases h
  ·rename_i hd;exact viaW (fun d' hd'=>by rw[hd]at hd';cases hd') h
 ·cases h
theorem zwK(hT:TabOk C.P T)(hA:Agr S σ){o:Oper}{d:Nat}{ps:List Prop}{es:List V}{xx ng:Bool}(hlo:C.lo<=d)(h:zwL (yk T) T S C.nt o=some (d,ps,es,xx,ng))(hp:qd ps):∃q,ziQ C σ o=some (d,q,es,xx,ng)/\q:=by
 unfold zwL at h;split at h
 ·cases h
 rename_i hg;split at h
 ·rename_i bo xt x yt d' hop hd;split at h
  case h_2=>cases h
  rename_i ng' hng;split at h
  ·rename_i hn;split at h
   ·rename_i e gx a he h1;split at h
    ·rename_i o' e' dd es' qs h2;simp only[za,zb]at h;obtain⟨rfl,rfl,rfl,rfl,rfl⟩:=h;rw[zu]at hp;have o1:=zH hT hA h1 (zL hp.1 rfl);obtain⟨l1,l2,l3⟩:=Kp hA h2 hp.2;have o2:opd C.P σ xt x=some (true,vz σ a):=o1;refine⟨true=true/\(vz σ a).okA σ,?_,rfl,l2⟩;simp only[ziQ,hg,hop,hd,hng,hT.elem he,o2,l1,l3];rw[if_neg (by simp),if_pos ⟨hlo,jn hn⟩]
    ·cases h
   ·cases h
  ·cases h
 ·cases h
theorem jF{l:List Nat}{t:Nat}:ju l t=true↔t∈l:=by
 induction l with
 |nil=>simp[ju]
 |cons x l ih=>
  simp only[ju];split
  ·rename_i h;simp[qg h]
  ·rename_i h;have:t≠x:=(by rintro rfl;rw[uL]at h;cases h);rw[ih,zC];simp[this]
theorem zAE{PS:List Nat}{o:Oper}(h:zM PS o=true):∃x∈PS,600<=x:=by
 unfold zM at h;split at h
 ·exact⟨_,jF.1 h,by omega⟩
 ·cases h
theorem Agr.congr{S S':zU}(hA:Agr S σ)(h:∀x,x∈S'↔x∈S):Agr S' σ:=
 ⟨fun t g a hx=>hA.on t g a ((h _).1 hx),fun t hx=>hA.off t (fun e he=>hx e ((h _).2 he))⟩
theorem zv9{PS:List Nat}(hz:C.st=true->∀x∈PS,x<600)(hT:TabOk C.P T)(hA:Agr S σ)(hΦ:C.Φ=Jq B){ops:Array Oper}{o:Oper}(hst:Yv T C.lo C.st o=true)(hzm:zM PS o=true){ps:List Prop}{S':zU}(h:zy1 (yk T) T B C.nt ops.toList S o=some (ps,S'))(hp:qd ps):
 ∃p σ',(zc6 C ops σ o (p,σ')\/zcW C ops σ o=some (p,σ')\/zfW C σ o=some (p,σ'))/\p/\Agr S' σ':=by
 unfold zy1 at h;split at h
 ·rename_i g hgd;have hg1:=zdm hA hgd;split at h
  ·rename_i d hd;split at h
   ·rename_i hn
    have hdn:C.dst d:=⟨by
     simp only[Yv,hd,zh]at hst
     exact jn hst.1,jn hn⟩
    split at h
    ·rename_i qs y hlop;split at h
     ·rename_i hown;simp only[za,zb]at h;obtain⟨rfl,rfl⟩:=h
      have hst0:C.st=false:=by
       cases hh:C.st with
       |false=>rfl
       |true=>
        obtain⟨x,hx,hx6⟩:=zAE hzm;have:=hz hh x hx;omega
      rw[Yx]
      cases hgb:gb g with
      |false=>
       refine⟨True,σ.put d false (.val (.hole 0)),.inl (.inl ?_),trivial,?_⟩
       ·unfold qm;rw[hg1,hgb,hd];dsimp only;rw[if_pos hdn]
       ·have h1:Agr (jl S d g (.val y.frz)) (σ.put d (gb g) (.val (.hole 0))):=hA.put (g:=g) (a:=.val y.frz) rfl (fun h=>by rw[hgb]at h;cases h);rw[hgb]at h1;refine h1.congr fun x=>?_;simp only[jl,zgQ,zbv];constructor
        ·rintro(h|⟨⟨h|h,h2⟩,_⟩)
         ·exact .inl h
         ·exact absurd (by rw[h]) h2.1
         ·exact .inr h
        ·rintro(h|h)
         ·exact .inl h
         ·exact .inr ⟨⟨.inr h,h.2⟩,h.2⟩
      |true=>
       obtain⟨p,e1,e2⟩:=zat hT hA hΦ hgb hlop hp
       have el:qm C ops σ o=some (p,σ.put d true (.val y)):=by
        unfold qm;rw[hg1,hgb,hd];dsimp only;rw[e1];dsimp only[vz];rw[if_pos hdn]
       have eo:(σ.put d true (.val y)).own d ((σ.put d true (.val y)) d).ver=some y:=Env.own_iff'.2 ⟨by simp[Env.put],rfl,by simp[Env.put],hown⟩;refine⟨p/\C.st=false,_,.inr (.inl (by unfold zcW;rw[hd];dsimp only;rw[el];dsimp only;rw[eo])),⟨e2,hst0⟩,?_⟩;have hA1:Agr (jl S d g (.val y)) (σ.put d (gb g) (.val y)):=hA.put (g:=g) (a:=.val y) rfl (fun _=>rfl);have hA2:=(hA1.drp (d:=d)).put (d:=d) (g:=g) (a:=.val y.frz) (a':=.val y.frz) rfl (fun _=>rfl);rw[hgb]at hA2;exact hA2
     ·cases h
    ·cases h
   ·cases h
  ·cases h
 ·cases h
theorem zDv{PS:List Nat}{o:Oper}(h:kZ PS o=true):∃x∈PS,600<=x:=by
 unfold kZ at h;split at h
 ·exact⟨_,jF.1 h,by omega⟩
 ·cases h
theorem zwe{PS:List Nat}(hz:C.st=true->∀x∈PS,x<600)(hT:TabOk C.P T)(hA:Agr S σ){o:Oper}(hzm:kZ PS o=true){ps:List Prop}{S':zU}(h:zy5 (yk T) T S o=some (ps,S'))(hp:qd ps):
 ∃p σ',zfW C σ o=some (p,σ')/\p/\Agr S' σ':=by
 have hst0:C.st=false:=by
  cases hh:C.st with
  |false=>rfl
  |true=>
   obtain⟨x,hx,hx6⟩:=zDv hzm;have:=hz hh x hx;omega
 unfold zy5 at h;split at h
 ·cases h
 rename_i hgd;split at h
 ·rename_i t x v hop hd;split at h
  ·rename_i gv av h1;split at h
   ·rename_i qs y S1 h2;split at h
    ·rename_i hfit;simp only[zh]at hfit;split at h
     ·rename_i gx s ver p h3;split at h
      ·rename_i r hr;split at h
       ·rename_i i p' z rs r' h4 h5;split at h
        ·rename_i hsz;simp only[zh]at hsz;simp only[za,zb]at h;obtain⟨rfl,rfl⟩:=h;rw[zu,zu,zu]at hp;obtain⟨⟨⟨p1,p2⟩,p3⟩,p4⟩:=hp;have o1:=zH hT hA h1 (zL p1 rfl);obtain⟨q,σ1,t1,t2,t3⟩:=uE hA h2 p2;have o2:=zH hT t3 h3 (zL p3 rfl);obtain⟨⟨e1,e1'⟩,e2,e5⟩:=znx h4 p4;have hu:=e5 _ _ h5;subst hu;have hb:0<y.size:=by have:=jn hfit.2;omega
         have hc:(uG C.P t y&&(z.size==y.size)&&y.solid&&decide (0<y.size)&& !(z.isScalar&&y.isScalar))=true:=by
          simp only[zh];exact⟨⟨⟨⟨QO hT hfit.1.1,by simpa using qg hsz.1⟩,hfit.1.2⟩,by simpa using hb⟩,hsz.2⟩
         have hos:=yv t3 hr;refine⟨true=true/\q/\true=true/\r.okm (i::p')/\C.st=false,_,?_,⟨rfl,t2,rfl,e2,hst0⟩,t3.bmk hr⟩;simp only[vz]at o2;simp only[zfW,hgd,hop,hd,o1,t1,o2,hos,e1,e1'];rw[if_pos hc]
        ·cases h
       ·cases h
      ·cases h
     ·cases h
    ·cases h
   ·cases h
  ·cases h
 ·cases h
theorem zwb{Bi:qN}(hT:TabOk C.P T)(hA:Agr S σ)(hΦ:C.Φ=Jq B)(hΨ:za2 C Bi){ops:Array Oper}{o:Oper}(hst:Yv T C.lo C.st o=true){ps:List Prop}{S':zU}(h:zy3 (yk T) T B Bi C.nt ops.toList S o=some (ps,S'))(hp:qd ps):
 ∃p σ1 σ',(zc6 C ops σ o (p,σ1)\/zcW C ops σ o=some (p,σ1)\/zfW C σ o=some (p,σ1)\/zjN C σ o=some (p,σ1))/\p/\Gh σ1 σ'/\Agr S' σ':=by
 unfold zy3 at h;split at h
 ·rename_i d hop hd;split at h
  ·cases h
  rename_i hg;split at h
  ·rename_i hn;split at h
   ·rename_i e he;simp only[za,zb]at h;obtain⟨rfl,rfl⟩:=h
    have hdn:C.dst d:=⟨by
     simp only[Yv,hd,zh]at hst
     exact jn hst.1,jn hn⟩
    refine⟨True,_,_,.inr (.inr (.inr ?_)),trivial,.inl rfl,hA.put (d:=d) (g:=none) (a:=.val (.slc true e V.nilG [])) (a':=.val (.slc true e V.nilG [])) rfl (fun _=>rfl)⟩;simp only[zjN,hg,hop,hd,hT.elem he];rw[if_pos hdn];rfl
   ·cases h
  ·cases h
 ·rename_i d _ hd;split at h
  ·rename_i qs S1 hs;split at h
   ·rename_i e d0 es ho;simp only[za,zb]at h;obtain⟨rfl,rfl⟩:=h;rw[zu]at hp;obtain⟨p,σ1,e1,e2,e3⟩:=zmo hT hA hΦ hΨ hst hs hp.1
    have hne:es≠[]:=fun h0=>by
     have:=hp.2 _ (List.mem_singleton.2 rfl);rw[h0]at this;exact absurd this (by simp[yk])
    exact⟨p,σ1,_,.inl e1,e2,.inr ⟨d,_,e,d0,V.nilG,es,yv e3 ho,fun _=>hne,rfl⟩,(e3.drp (d:=d)).put (d:=d) (g:=none) (a:=.val (.slc true e V.nilG es)) (a':=.val (.slc true e V.nilG es)) rfl (fun _=>rfl)⟩
   ·cases h
  ·cases h
 ·cases h
theorem zzj(hT:TabOk C.P T)(hA:Agr S σ){o:Oper}(hlo:∀d,o.dst=some d->C.lo<=d){ps:List Prop}{S':zU}(h:rS (yk T) T C.nt S o=some (ps,S'))(hp:qd ps):∃p σ',zmF C σ o=some (p,σ')/\p/\Agr S' σ':=by
 unfold rS at h;split at h
 ·rename_i st x hi d hg hop hd;split at h
  ·rename_i gx s ver gi m e h1 h2 he;split at h
   ·rename_i e' dd es ho;split at h
    ·rename_i hee hdd hdn;simp only[za,zb]at h;obtain⟨rfl,rfl⟩:=h;have hee:=qg hee;subst hee;rw[zu,zu]at hp;have o1:=zH hT hA h1 (zL hp.1.1 rfl);have o2:=QJ hT hA h2 (g:=none) rfl hp.1.2;have q:=hp.2;simp only[zm]at q;have q1:0<=m:=q.1;have q2:m<=(es.length:Int):=q.2.1;have hdst:C.dst d:=⟨hlo d hd,jn hdn⟩;obtain⟨k1,k2⟩:=zbA hT he;have hown:=yv hA ho;refine⟨(true=true/\(true=true->true=true)/\0<=m/\m<=(es.length:Int)),(σ.drp s).put d true (.val (.slc true e dd ((es.take m.toNat).drop (0:Int).toNat))),?_,⟨rfl,fun _=>rfl,q1,q2⟩,?_⟩
     ·simp[zmF,hg,hop,hd,o1,o2,k1,vz,hown,k2,hdd,hdst]
     exact(hA.drp (d:=s)).put (d:=d) (g:=none) (a:=.val _) (a':=.val _) rfl (fun _=>rfl)
    ·cases h
   ·cases h
  ·cases h
 ·cases h
theorem zyx{PS:List Nat}(hz:C.st=true->∀x∈PS,x<600)(hT:TabOk C.P T)(hA:Agr S σ){o o2:Oper}{l:List Oper}(hlo:∀d,o.dst=some d->C.lo<=d){ps:List Prop}{S':zU}(h:c2L (yk T) T PS C.nt S o (o2::l)=some (ps,S'))(hp:qd ps):
 ∃p σ',zji C σ o o2=some (p,σ')/\p/\Agr S' σ':=by
 simp only[c2L]at h;split at h
 ·rename_i d hd;split at h
  ·rename_i hm
   have hst:C.st=false:=by
    cases hh:C.st with
    |false=>rfl
    |true=>have:=hz hh _ (jF.1 hm);omega
   unfold c2S at h;split at h
   ·rename_i st x lo d' args ats hg hop hd' hg2 hop2 hd2;rw[hd]at hd';simp only[za]at hd';subst hd';split at h
    ·rename_i t ty gx s ver gi m e hargs hats h1 h2 he;split at h
     ·rename_i e' dd es ti ho ht;split at h
      ·rename_i hc;simp only[zh,yD,qh]at hc;obtain⟨c1,c2,c3,c4,c5,c6,c7,c8⟩:=hc;have c1:=qg c1;have c3:=qg c3;have c4:=qg c4;subst c1 c3 c4;simp only[za,zb]at h;obtain⟨rfl,rfl⟩:=h;rw[zu,zu]at hp;have o1:=zH hT hA h1 (zL hp.1.1 rfl);have o2':=QJ hT hA h2 (g:=none) rfl hp.1.2;have q:=hp.2;simp only[zm]at q;have q1:0<=m:=q.1;have q2:m<=(es.length:Int):=q.2.1;have hdst:C.dst t:=⟨hlo t hd,jn c5⟩;obtain⟨k1,_⟩:=zbA hT he;have hc1:C.P.cellsOf e=1:=(by rw[hT.cells ht];exact qg c2);have hne:s≠t:=fun e=>(by subst e;rw[uL]at c7;cases c7);have hown:=yv hA ho;refine⟨(true=true/\(true=true->true=true)/\0<=m/\m<=(es.length:Int)),((σ.drp s).put s true (.val (.slc true e dd (((es.take m.toNat).drop (0:Int).toNat)++List.replicate ((es.length:Int)-m).toNat (.hole 1))))).put t true (.val (.hole 1)),?_,⟨rfl,fun _=>rfl,q1,q2⟩,?_⟩
       ·simp[zji,hg,hop,hd,hg2,hop2,hargs,hats,o1,o2',k1,vz,hown,hT.zero ht,hc1,c8,hdst,hne,c6,hd2,hst]
       exact((hA.drp (d:=s)).put (d:=s) (g:=none) (a:=.val _) (a':=.val _) rfl (fun _=>rfl)).put (d:=t) (g:=none) (a:=.val _) (a':=.val _) rfl (fun _=>rfl)
      ·cases h
     ·cases h
    ·cases h
   ·cases h
  ·cases h
 ·cases h
theorem zxR{op:Op}{x:Operand}(h:x∈zhu op):x∈op.operands:=by
 unfold zhu at h;split at h
 ·rename_i args ats;have:x∈args:=by simpa using h
  simp[Op.operands,Call.operands,this]
 ·cases h
theorem zd9{PS:List Nat}(hz:C.st=true->∀x∈PS,x<600):∀(l:List Operand) (S:zU) (σ:Env),Agr S σ->
 ∃m:List Nat,(m=[]\/C.st=false)/\(∀t∈m,t+800∈PS/\Operand.tmp t∈l)/\Agr (zaG (yk T) PS S l) (Yy σ m)
 |[],S,σ,hA=>⟨[],.inl rfl,by simp,hA⟩
 |x::l,S,σ,hA=>by
  have skip:zaG (yk T) PS S (x::l)=zaG (yk T) PS S l->∃m:List Nat,(m=[]\/C.st=false)/\(∀t∈m,t+800∈PS/\Operand.tmp t∈x::l)/\Agr (zaG (yk T) PS S (x::l)) (Yy σ m):=by
   intro e;obtain⟨m,h1,h2,h3⟩:=zd9 hz l S σ hA;exact⟨m,h1,fun t ht=>⟨(h2 t ht).1,zx _ (h2 t ht).2⟩,by rw[e];exact h3⟩
  cases x with
  |tmp t=>
   cases hm:ju PS (t+800)with
   |false=>exact skip (by simp only[zaG,hm])
   |true=>
    cases ho:jW S t with
    |none=>exact skip (by simp only[zaG,hm,ho])
    |some y=>
     by_cases hy:∃e d es,y=.slc true e d es
     ·obtain⟨e,d,es,rfl⟩:=hy
      have hst:C.st=false:=by
       cases hh:C.st with
       |false=>rfl
       |true=>have:=hz hh _ (jF.1 hm);omega
      have hA1:Agr (jl (Jr t S) t none (.val (V.slc true e d es).frz)) ((σ.drp t).put t true (.val (V.slc true e d es).frz)):=(hA.drp (d:=t)).put (d:=t) (g:=none) (a:=.val (V.slc true e d es).frz) (a':=.val (V.slc true e d es).frz) rfl (fun _=>rfl);obtain⟨m,h1,h2,h3⟩:=zd9 hz l _ _ hA1;refine⟨t::m,.inr hst,fun s hs=>?_,?_⟩
      ·rcases zC.1 hs with rfl|hs
       ·exact⟨jF.1 hm,by simp⟩
       ·exact⟨(h2 s hs).1,zx _ (h2 s hs).2⟩
      ·simp only[zaG,hm,ho,Yy,yv hA ho,Yx];exact h3
     ·refine skip ?_;simp only[zaG,hm,ho];split
      ·rename_i h;simp only[za]at h;exact absurd ⟨_,_,_,h⟩ hy
      ·rfl
  |_=>exact skip (by simp only[zaG])
theorem Zw{Bi:qN}{PS:List Nat}(hz:C.st=true->∀x∈PS,x<600)(hT:TabOk C.P T)(hΦ:C.Φ=Jq B)(hΨ:za2 C Bi){ops:Array Oper}{K:zU->Prop}{K':Env->Prop}(hK:∀S σ,K S->Agr S σ->K' σ):∀(l:List Oper) (S:zU) (σ:Env),zaZ T C.lo C.st l=true->
 evL (yk T) T B Bi PS C.nt ops.toList l S K->Agr S σ->evO C ops l σ K'
 |[],S,σ,_,h,hA=>hK S σ h hA
 |o::l,S,σ,hst,h,hA=>by
  simp only[zaZ,zh]at hst
  have hlo0:∀d,o.dst=some d->C.lo<=d:=fun d hd=>by
   have:=hst.1;simp only[Yv,hd,zh]at this;exact jn this.1
  unfold evO;simp only[evL]at h;split at h
  ·rename_i d ps es xx ng hs;rw[Jk]at h;obtain⟨hp,h1,h2⟩:=h
   have hd:o.dst=some d:=by
    unfold zwL at hs;split at hs
    ·cases hs
    split at hs
    ·rename_i hd;split at hs
     case h_2=>cases hs
     split at hs
     ·split at hs
      ·split at hs
       ·simp only[za,zb]at hs;obtain⟨rfl,_⟩:=hs;exact hd
       ·cases hs
      ·cases hs
     ·cases hs
    ·cases hs
   have hlo:C.lo<=d:=by
    have:=hst.1;simp only[Yv,hd,zh]at this;exact jn this.1
   obtain⟨q,e1,e2⟩:=zwK hT hA hlo hs hp;refine .inr (.inr (.inl ⟨d,q,es,xx,ng,e1,e2,fun b hb hx=>?_⟩))
   cases b with
   |true=>
    have:es=[]:=by
     cases es with
     |nil=>rfl
     |cons x l=>exact absurd (hb (by simp)) (by simp)
    subst this;exact Zw hz hT hΦ hΨ hK l _ _ hst.2 (h1 rfl) (hA.put (g:=none) (a:=.val (.bool (!ng))) (a':=.val (.bool (true !=ng))) (by cases ng<;>rfl) (fun _=>by cases ng<;>rfl))
   |false=>
    cases xx with
    |false=>exact Zw hz hT hΦ hΨ hK l _ _ hst.2 h2 (hA.put (g:=none) (a:=.val (.bool ng)) (a':=.val (.bool (false !=ng))) (by cases ng<;>rfl) (fun _=>by cases ng<;>rfl))
    |true=>
     have hne:es≠[]:=fun e=>(by cases hx rfl e);refine Zw hz hT hΦ hΨ hK l _ _ hst.2 (h2 ?_) (hA.put (g:=none) (a:=.val (.bool ng)) (a':=.val (.bool (false !=ng))) (by cases ng<;>rfl) (fun _=>by cases ng<;>rfl));have:es.length≠0:=fun e=>hne (yF e);simp[yk];simpa using hne
  ·split at h
   ·rename_i b ps S1 S0 hs;unfold giS at hs;split at hs
    ·cases hs
    split at hs
    ·rename_i b' d hgd hd;split at hs
     ·rename_i hn;split at hs
      ·rename_i ps' S1' hi;split at hs
       ·rename_i r hl;simp only[za,zb]at hs;obtain⟨rfl,rfl,rfl,rfl⟩:=hs
        have hdn:C.dst d:=⟨by
         have:=hst.1;simp only[Yv,hd,zh]at this
         exact jn this.1,jn hn⟩
        have hg1:=zdm hA hgd
        cases b' with
        |true=>
         have h1:=h.1 rfl;rw[Jk]at h1
         obtain⟨p,σ',e1,e2,e3⟩:=zlw hT hA hΦ hΨ (fun d' hd'=>by
          have:o.dst=some d':=hd'
          rw[hd]at this;simp only[za]at this;subst this;exact hdn) hi h1.1
         refine .inr (.inl ⟨p,σ',?_,e2,Zw hz hT hΦ hΨ hK l _ _ hst.2 h1.2 e3⟩);unfold zm7;rw[hg1];exact e1
        |false=>
         have h2:=h.2 rfl;refine .inl ⟨σ,True,σ.put d false (.val (.hole 0)),_,FzR.refl,.inl (.inl ?_),trivial,.inl rfl,Zw hz hT hΦ hΨ hK l _ _ hst.2 h2 (hA.put (g:=some false) (a:=.val r) rfl (fun h=>by cases h))⟩;unfold qm;rw[hg1,hd];dsimp only[gb];rw[if_pos hdn]
       ·cases hs
      ·cases hs
     ·cases hs
    ·cases hs
   split at h
   ·rename_i ps S' hs;rw[Jk]at h
    cases l with
    |nil=>exact h.2.elim
    |cons o2 l2=>
     simp only[zaZ,zh]at hst;obtain⟨p,σ',e1,e2,e3⟩:=zyx hz hT hA hlo0 hs h.1;exact .inr (.inr (.inr (.inr ⟨p,σ',e1,e2,Zw hz hT hΦ hΨ hK l2 S' σ' hst.2.2 h.2 e3⟩)))
   split at h
   ·rename_i ps S' hs;rw[Jk]at h;split at hs
    ·obtain⟨p,σ',e1,e2,e3⟩:=zzj hT hA hlo0 hs h.1;exact .inr (.inr (.inr (.inl ⟨p,σ',e1,e2,Zw hz hT hΦ hΨ hK l S' σ' hst.2 h.2 e3⟩)))
    split at hs
    ·rename_i hkz;obtain⟨p,σ',e1,e2,e3⟩:=zwe hz hT hA hkz hs h.1;exact .inl ⟨σ,p,σ',σ',FzR.refl,.inr (.inr (.inl e1)),e2,.inl rfl,Zw hz hT hΦ hΨ hK l S' σ' hst.2 h.2 e3⟩
    split at hs
    ·rename_i hzm;obtain⟨p,σ',e1,e2,e3⟩:=zv9 hz hT hA hΦ hst.1 hzm hs h.1;exact .inl ⟨σ,p,σ',σ',FzR.refl,e1.imp id (Or.imp id .inl),e2,.inl rfl,Zw hz hT hΦ hΨ hK l S' σ' hst.2 h.2 e3⟩
    split at hs
    ·obtain⟨p,σ1,σ',e1,e2,e3,e4⟩:=zwb hT hA hΦ hΨ hst.1 hs h.1;exact .inl ⟨σ,p,σ1,σ',FzR.refl,e1,e2,e3,Zw hz hT hΦ hΨ hK l S' σ' hst.2 h.2 e4⟩
    obtain⟨m,m1,_,m3⟩:=zd9 hz (zhu o.op) S σ hA;obtain⟨p,σ',e1,e2,e3⟩:=zmo hT m3 hΦ hΨ hst.1 hs h.1;exact .inl ⟨_,p,σ',σ',⟨m,m1,rfl⟩,.inl e1,e2,.inl rfl,Zw hz hT hΦ hΨ hK l S' σ' hst.2 h.2 e3⟩
   ·exact h.elim
def zlL:List Nat->Env->Env
 |[],σ=>σ
 |t::l,σ=>zlL l (σ.drp t)
theorem zyk{a:Act}{w:World}:∀(l:List Nat) (σ:Env),G C σ a w->G C (zlL l σ) a w
 |[],_,h=>h
 |t::l,σ,⟨F,O,hI⟩=>zyk l _ ⟨F,_,(hI.drop t).lessZ (fun _ h=>h.elim)⟩
theorem zg0:∀(l:List Nat) (σ:Env) (t:Nat),t∉l->zlL l σ t=σ t
 |[],_,_,_=>rfl
 |s::l,σ,t,h=>by
  simp only[zC,not_or]at h;rw[zlL,zg0 l _ t h.2];simp[Env.drp,h.1]
theorem zvq:∀(l:List Nat) (σ:Env) (t:Nat),t∈l->(zlL l σ t).owner=false
 |s::l,σ,t,h=>by
  by_cases ht:t∈l
  ·exact zvq l _ t ht
  ·rw[zlL,zg0 l _ t ht];rcases zC.1 h with rfl|h
   ·simp[Env.drp,E.owner]
   ·exact absurd h ht
theorem zCK{a:A}{ks:List Nat}(h:a.in0 ks=true){s:Nat}(hs:a.at0 s=true):s∈ks:=by
 cases a with
 |rf t v p=>have:=qg hs;subst this;exact jF.1 h
 |ad t v p=>have:=qg hs;subst this;exact jF.1 h
 |ag t v p fs=>have:=qg hs;subst this;exact jF.1 h
 |_=>simp[A.at0]at hs
theorem Agr.keep(hA:Agr S σ)(ks:List Nat):Agr (ZS ks S) (zlL ((S.map (·.1)).filter (fun t=> !ju ks t)) σ):=by
 have hin:∀t,t∈ks->t∉(S.map (·.1)).filter (fun t=> !ju ks t):=by
  intro t ht h;have:=(jp.1 h).2;rw[jF.2 ht]at this;cases this
 refine⟨fun t g a h=>?_,fun t h=>?_⟩
 ·obtain⟨h1,h2,h3⟩:=zeM.1 h;have h2':t∈ks:=jF.1 h2;rw[zco (σ:=σ) (fun s hs=>by rw[zg0 _ _ _ (hin s (zCK h3 hs))])];rw[zg0 _ _ _ (hin t h2')];exact hA.on t g a h1
 ·by_cases hm:t∈(S.map (·.1)).filter (fun t=> !ju ks t)
  ·exact zvq _ _ _ hm
  ·rw[zg0 _ _ _ hm];by_cases hx:∃e,(t,e)∈S
   ·obtain⟨⟨g,b⟩,hx⟩:=hx
    have hk:ju ks t=true:=by
     cases hh:ju ks t with
     |true=>rfl
     |false=>exact absurd (jp.2 ⟨List.mem_map.2 ⟨_,hx,rfl⟩,by simp[hh]⟩) hm
    cases hb:b.in0 ks with
    |true=>exact absurd (zeM.2 ⟨hx,hk,hb⟩) (h (g,b))
    |false=>
     have:∃d,b.at0 d=true:=by
      cases b with
      |rf s v p=>exact⟨s,uL s⟩
      |ad s v p=>exact⟨s,uL s⟩
      |ag s v p fs=>exact⟨s,uL s⟩
      |_=>simp[A.in0]at hb
     obtain⟨d,hd⟩:=this;exact hA.ref_off hx hd
   ·exact hA.off t (fun e he=>hx ⟨e,he⟩)
theorem zq6{PS:List Nat}(hA:Agr S σ){x:Operand}(h:zmi PS S x=true):JV PS σ x=true:=by
 cases x with
 |tmp t=>
  simp only[zmi]at h;split at h
  ·rename_i v hl;have h3:(σ t).a=.val v:=(hA.on _ _ _ (jN hl)).2.2 rfl;simp only[JV,h3];simp only[qL]at h ⊢;refine h.imp id (fun h=>?_);simpa using jF.1 h
  ·cases h
 |const v=>rfl
 |func f=>rfl
 |global g=>simp[zmi]at h
theorem zib{PS:List Nat}(hA:Agr S σ):∀{l:List Operand},zjD PS S l=true->zgy PS σ l=true
 |[],_=>rfl
 |x::l,h=>by
  simp only[zjD,zh]at h;have h2:=zib hA h.2;unfold zgy at h2 ⊢;simp only[List.all_cons,zh];exact⟨zq6 hA h.1,h2⟩
theorem znT:∀l:List (Nat×Operand),zrf l=l.map (·.2)
 |[]=>rfl
 |(_,x)::l=>by simp[zrf,znT l]
theorem zBp{o:Op}{l:List Operand}(h:zzy o=some l):l=o.operands.toList:=by
 unfold zzy at h;split at h
 ·simp only[za]at h;subst h;rfl
 ·simp only[za]at h;subst h;simp[znT,Op.operands]
 ·simp only[za]at h;subst h;simp[znT,Op.operands]
 ·simp only[za]at h;subst h;simp[Op.operands,Call.operands]
 ·cases h
theorem zmO(hA:Agr S σ){l:List Operand}(h:ziN S l=true):zct σ l=true:=by
 unfold ziN at h;split at h
 ·rename_i x y;unfold zct
  cases y with
  |tmp t=>
   simp only[zxO]at h;split at h
   ·rename_i z hl;have h3:(σ t).a=.val z:=(hA.on _ _ _ (jN hl)).2.2 rfl;simp only[zd3,h3];exact h
   ·cases h
  |_=>rfl
 ·cases h
theorem zuh{P:Program}(hT:TabOk P T){e:TypeId}(h:Kx T e=true):zaY P e=true:=by
 unfold Kx at h;unfold zaY;split at h
 ·rename_i k c z ht;rw[hT.kind (by unfold zfX;rw[ht])];rfl
 ·rename_i c z ht;rw[hT.bool (by unfold zeg;rw[ht])];simp
 ·rename_i c z ht;rw[hT.str (by unfold zb0;rw[ht])];simp
 ·cases h
theorem zqA(hT:TabOk C.P T)(hA:Agr S σ){l:List Operand}{ts:List TypeId}(h:zoh T S l ts=true):zdi C σ l ts=true:=by
 unfold zoh at h;split at h
 ·rename_i v u t t';simp only[zh]at h;obtain⟨⟨h1,h2⟩,h3⟩:=h;simp only[zdi,zh];refine⟨⟨?_,?_⟩,?_⟩
  ·split at h1
   ·rename_i z hl;have h4:(σ u).a=.val z:=(hA.on _ _ _ (jN hl)).2.2 rfl;rw[h4];exact h1
   ·cases h1
  ·simp only[yD]at h2
   have:v≠u:=fun e=>by
    rw[e]at h2;simp[jH]at h2
   simpa using this
  ·split at h3
   ·rename_i e he;rw[hT.elem he];exact zuh hT h3
   ·cases h3
 ·cases h
theorem zzx{PS:List Nat}(hT:TabOk C.P T)(hA:Agr S σ){o:Oper}(hst:Yv T C.lo C.st o=true){ps:List Prop}{S':zU}(hn:∀d,o.dst=some d->C.dst d)(h:pS (yk T) T PS S o=some (ps,S'))(hp:qd ps):
 ∃p σ',ZP C PS σ o=some (p,σ')/\p/\Agr S' σ':=by
 unfold pS at h;split at h
 ·rename_i l hl;split at h
  ·rename_i hw;have hw':=zib hA hw;rw[zBp hl]at hw';split at h
   ·cases h
   rename_i hg;split at h
   ·rename_i x d hop hd;split at h
    ·rename_i gx a h1;split at h
     ·rename_i qs y S1 h2;split at h
      ·cases h
      rename_i hnh;simp only[za,zb]at h;obtain⟨rfl,rfl⟩:=h;rw[zu]at hp;have o1:=zH hT hA h1 (zL hp.1 rfl);obtain⟨q,σ1,t1,t2,t3⟩:=uE hA h2 hp.2;refine⟨true=true/\q,_,?_,⟨rfl,t2⟩,t3.put (d:=d) (g:=none) (a:=.val y) (a':=.val y) rfl (fun _=>rfl)⟩;unfold ZP;rw[hw',if_pos rfl];simp only[hg,hop,hd,o1,t1];rw[if_pos (by simp[hn d hd,hnh])];rfl
     ·cases h
    ·cases h
   ·rename_i args ats d hop hd;split at h
    ·rename_i hpl;obtain⟨p,σ',h1,h2,h3,_⟩:=za4 hT hA hn hst h hp;refine⟨p,σ',?_,h2,h3⟩;unfold ZP;rw[hw',if_pos rfl];simp only[hg,hop,hd];rw[if_pos (by rw[qL];rw[qL]at hpl;exact hpl.imp (zmO hA) (zqA hT hA))];exact h1
    ·cases h
   ·rename_i hna hnb;obtain⟨p,σ',h1,h2,h3⟩:=zr3 hT hA hn h hp;refine⟨p,σ',?_,h2,h3⟩;unfold ZP;rw[hw',if_pos rfl];split
    ·rename_i x d _ hop hd;exact absurd hd (hna x d hop)
    ·rename_i args ats d _ hop hd;exact absurd hd (hnb args ats d hop)
    ·exact h1
  ·cases h
 ·cases h
theorem zkC{PS:List Nat}{a:A}(h:zqG PS a=false){s ver:Nat}(hr:(vz σ a).refs=some (s,ver)):s∉PS:=by
 intro hs;have:=jF.2 hs;cases a<;>simp_all [zqG,vz,A.refs]
theorem zDK{T:kj}{PS:List Nat}{o:Oper}(h:zM PS o=true):kM T PS o=true:=by
 have h':=h;unfold zM at h;split at h
 ·rename_i f ats args d hop hd;unfold kM;rw[hop];simp[h']
 ·cases h
theorem zkx{Bi:qN}{PS:List Nat}(hT:TabOk C.P T)(hA:Agr S σ)(hΦ:C.Φ=Jq B)(hΨ:za2 C Bi){ops:Array Oper}{o:Oper}(hst:Yv T C.lo C.st o=true)(has:∀x,o.op=.assign x->∀d,o.dst=some d->d∉PS)(hz:C.st=true->∀x∈PS,x<600)(hlb:ZR PS o=false){ps:List Prop}{S':zU}(h:zqD (yk T) T B Bi PS C.nt ops.toList S o=some (ps,S'))(hp:qd ps):
 ∃p σ',zci C ops PS (kM T PS o) σ o p σ'/\p/\Agr S' σ':=by
 have nlb:∀{p:Prop},ZR PS o=true->p:=fun h=>by rw[hlb]at h;cases h
 unfold zqD at h;split at h
 ·rename_i g hgd;have hg1:=zdm hA hgd;split at h
  ·rename_i d hd;split at h
   ·rename_i hn
    have hdn:C.dst d:=⟨by
     simp only[Yv,hd,zh]at hst
     exact jn hst.1,jn hn⟩
    split at h
    ·rename_i qs a hlop;split at h
     ·rename_i hzm;split at h
      ·rename_i y;split at h
       ·rename_i hown;simp only[za,zb]at h;obtain⟨rfl,rfl⟩:=h
        have hst0:C.st=false:=by
         cases hh:C.st with
         |false=>rfl
         |true=>
          obtain⟨x,hx,hx6⟩:=zAE hzm;have:=hz hh x hx;omega
        obtain⟨p,e1,e2⟩:=zat hT hA hΦ (g:=none) rfl hlop hp
        have el:qm C ops σ o=some (p,σ.put d true (.val y)):=by
         unfold qm;rw[hg1,hd];dsimp only[gb];rw[e1];dsimp only[vz];rw[if_pos hdn]
        have eo:(σ.put d true (.val y)).own d ((σ.put d true (.val y)) d).ver=some y:=Env.own_iff'.2 ⟨by simp[Env.put],rfl,by simp[Env.put],hown⟩;refine⟨p/\C.st=false,_,.inl ⟨zDK hzm,.inr (.inr (.inr (.inl (by unfold zcW;rw[hd];dsimp only;rw[el];dsimp only;rw[eo])))),nlb⟩,⟨e2,hst0⟩,?_⟩;have hA1:Agr (jl S d none (.val y)) (σ.put d true (.val y)):=hA.put (g:=none) (a:=.val y) rfl (fun _=>rfl);rw[Yx];exact(hA1.drp (d:=d)).put (d:=d) (g:=none) (a:=.val y.frz) (a':=.val y.frz) rfl (fun _=>rfl)
       ·cases h
      ·cases h
     split at h
     ·cases h
     ·rename_i hat
      simp only[qh]at hat
      obtain⟨⟨ha1,ha3⟩,ha2⟩:=hat
      simp only[za,zb]at h;obtain⟨rfl,rfl⟩:=h
      have main:∃p a',qm C ops σ o=some (p,σ.put d (gb g) a')/\p/\(gb g=true->a'=vz σ a)/\(∀s ver,a'.refs=some (s,ver)->s∉PS):=by
       cases hgb:gb g with
       |true=>
        obtain⟨p,e1,e2⟩:=zat hT hA hΦ hgb hlop hp;refine⟨p,vz σ a,?_,e2,fun _=>rfl,fun s ver hr=>zkC ha3 hr⟩;unfold qm;rw[hg1,hgb,hd];dsimp only;rw[e1];dsimp only;rw[if_pos hdn]
       |false=>
        refine⟨True,.val (.hole 0),?_,trivial,fun h=>(by cases h),fun s ver hr=>by simp[A.refs]at hr⟩;unfold qm;rw[hg1,hgb,hd];dsimp only;rw[if_pos hdn]
      obtain⟨p,a',e1,e2,e3,e4⟩:=main
      have hro:Jy PS (σ.put d (gb g) a') o:=by
       intro d' hd' s ver hr;rw[hd]at hd';simp only[za]at hd';subst hd';simp only[Env.put,if_true]at hr;exact e4 s ver hr
      refine⟨p,_,?_,e2,hA.put ha1 e3⟩
      cases hk:kM T PS o with
      |true=>exact .inl ⟨rfl,.inl ⟨e1,hro⟩,nlb⟩
      |false=>
       rw[hk]at ha2;have:zln (look S d)=false:=(by simpa using ha2);exact .inr ⟨rfl,d,hd,zd5 hA this,.inl ⟨e1,hro⟩,nlb⟩
    ·split at h
     ·rename_i hk;have hdd:∀d',o.dst=some d'->C.dst d':=fun d' hd'=>(by rw[hd]at hd';simp only[za]at hd';subst hd';exact hdn);split at h
      ·rename_i r hr;simp only[za]at h;subst h;obtain⟨p,σ',e1,e2,e3,_⟩:=za4 hT hA hdd hst hr hp;exact⟨p,σ',.inl ⟨hk,.inr (.inl ⟨e1,has⟩),nlb⟩,e2,e3⟩
      ·obtain⟨p,σ',e1,e2,e3⟩:=zq7 hT hA hΦ hΨ hdd h hp;exact⟨p,σ',.inl ⟨hk,.inr (.inr (.inl e1)),nlb⟩,e2,e3⟩
     ·rename_i hk;split at h
      ·cases h
      ·rename_i how;obtain⟨p,σ',e1,e2,e3⟩:=zzx hT hA hst (fun d' hd'=>by rw[hd]at hd';simp only[za]at hd';subst hd';exact hdn) h hp;exact⟨p,σ',.inr ⟨by simpa using hk,d,hd,zd5 hA how,.inr e1,nlb⟩,e2,e3⟩
   ·cases h
  ·rename_i hd;obtain⟨p,σ',e1,e2,e3,_,_,e6⟩:=za4 hT hA (fun d' hd'=>by rw[hd]at hd';cases hd') hst h hp
   have hk:kM T PS o=true:=by
    unfold kM;split
    ·rename_i t hop;split
     ·exfalso;unfold qv at e1;rw[hop,hd]at e1;cases hg:o.guard<;>simp[hg]at e1
     ·exact e6 hd
    ·rename_i args ats hop;have:=e6 hd;split
     ·rename_i hd2;rw[hd]at hd2;cases hd2
     ·exact this
    ·rename_i k args ats hop;have:=e6 hd;simp[kO,kT,hop]at this
    ·exact e6 hd
   exact⟨p,σ',.inl ⟨hk,.inr (.inl ⟨e1,has⟩),nlb⟩,e2,e3⟩
 ·cases h
theorem zrP{PS:List Nat}(hA:Agr S σ){t:Nat}(h:zmW PS S (.tmp t)=true):(∀s v,(σ t).a.refs=some (s,v)->s+800∉PS)/\∀x,(σ t).a=.val x->x.owned=true->t+800∉PS:=by
 have nm:∀{k:Nat},(!ju PS k)=true->k∉PS:=fun h hm=>by rw[jF.2 hm]at h;cases h
 simp only[zmW]at h;split at h
 ·rename_i x hl;obtain⟨_,_,e3⟩:=hA.on _ _ _ (jN hl);have e:=e3 rfl;simp only[vz]at e;rw[e];refine⟨fun s v hr=>by simp[A.refs]at hr,fun y hy ho=>?_⟩;simp only[A.val.injEq]at hy;subst hy;rw[ho]at h;exact nm (by simpa using h)
 ·rename_i x hl;obtain⟨_,_,e3⟩:=hA.on _ _ _ (jN hl);have e:=e3 rfl;simp only[vz]at e;rw[e];exact⟨fun s v hr=>by simp[A.refs]at hr,fun y hy=>by cases hy⟩
 ·rename_i s0 v0 p0 hl;obtain⟨_,_,e3⟩:=hA.on _ _ _ (jN hl);have e:=e3 rfl;simp only[vz]at e;rw[e];refine⟨fun s v hr=>?_,fun y hy=>by cases hy⟩;simp only[A.refs,za,zb]at hr;rw[<-hr.1];exact nm h
 ·rename_i s0 v0 p0 hl;obtain⟨_,_,e3⟩:=hA.on _ _ _ (jN hl);have e:=e3 rfl;simp only[vz]at e;rw[e];refine⟨fun s v hr=>?_,fun y hy=>by cases hy⟩;simp only[A.refs,za,zb]at hr;rw[<-hr.1];exact nm h
 ·cases h
theorem zmU{PS:List Nat}:∀{l:List Operand},zmV PS S l=true->∀x∈l,zmW PS S x=true
 |[],_,x,hx=>by cases hx
 |y::l,h,x,hx=>by
  simp only[zmV,zh]at h;rcases zC.1 hx with rfl|hx
  ·exact h.1
  ·exact zmU h.2 x hx
theorem zqB{PS:List Nat}(hA:Agr S σ){o:Oper}(hg:o.guard=none)(hd:o.dst=none)(h:zom PS S o=true):zjr PS σ o:=by
 unfold zom at h;split at h
 ·rename_i t tx tv hop;split at h
  ·rename_i y hly;simp only[zh,yD]at h;obtain⟨hy,h⟩:=h;obtain⟨_,_,y3⟩:=hA.on _ _ _ (jN hly);have ey:=y3 rfl;simp only[vz]at ey;split at h
   ·rename_i s v p hlx;simp only[zh]at h;obtain⟨h1,h2⟩:=h;obtain⟨_,_,x3⟩:=hA.on _ _ _ (jN hlx);have ex:=x3 rfl;simp only[vz]at ex;split at h2
    ·rename_i r hr;exact⟨t,tx,tv,s,(σ s).ver,p,r,y,hg,hd,hop,.inl ex,yv hA hr,jF.1 h1,ey,hy⟩
    ·cases h2
   ·rename_i s v p hlx;simp only[zh]at h;obtain⟨h1,h2⟩:=h;obtain⟨_,_,x3⟩:=hA.on _ _ _ (jN hlx);have ex:=x3 rfl;simp only[vz]at ex;split at h2
    ·rename_i r hr;exact⟨t,tx,tv,s,(σ s).ver,p,r,y,hg,hd,hop,.inr (.inl ex),yv hA hr,jF.1 h1,ey,hy⟩
    ·cases h2
   ·rename_i x hlx;simp only[zh]at h;obtain⟨h1,h2⟩:=h;split at h2
    ·rename_i r hr;exact⟨t,tx,tv,tx,(σ tx).ver,[],r,y,hg,hd,hop,.inr (.inr ⟨rfl,rfl⟩),yv hA hr,jF.1 h1,ey,hy⟩
    ·cases h2
   ·cases h
  ·cases h
 ·cases h
theorem zuw{PS:List Nat}(hT:TabOk C.P T)(hA:Agr S σ){o:Oper}(hg:o.guard=none)(h:zwU T PS S o=true):znG C PS σ o:=by
 unfold zwU at h;split at h
 ·rename_i args ats hop;split at h
  ·rename_i tx ty t t' hargs hats;split at h
   ·rename_i s v i q z hlx hly;simp only[zh,yD]at h;obtain⟨⟨⟨h1,h2⟩,h4⟩,h3⟩:=h;obtain⟨_,_,x3⟩:=hA.on _ _ _ (jN hlx);obtain⟨_,_,y3⟩:=hA.on _ _ _ (jN hly);have ex:=x3 rfl;have ey:=y3 rfl;simp only[vz]at ex ey
    have hr:∃r,jW S s=some r/\∀fs,r≠.tup fs:=by
     split at h1
     ·rename_i hh;exact⟨_,hh,fun fs e=>by cases e⟩
     ·rename_i hh;exact⟨_,hh,fun fs e=>by cases e⟩
     ·rename_i hh;exact⟨_,hh,fun fs e=>by cases e⟩
     ·cases h1
    obtain⟨r,hr1,hr2⟩:=hr;refine⟨args,ats,tx,ty,t,t',s,(σ s).ver,i,q,r,z,hg,hop,hargs,hats,fun e he=>?_,ex,yv hA hr1,hr2,fun e=>(by subst e;rw[uL]at h2;cases h2),ey,jF.1 h4⟩;split at h3
    ·rename_i e' he';have hee:=hT.elem he';rw[he]at hee;simp only[za]at hee;subst hee
     obtain⟨te,hte⟩:∃te,qE T e=some te:=by
      unfold Kx at h3
      cases hh:qE T e with
      |none=>rw[hh]at h3;cases h3
      |some te=>exact⟨te,rfl⟩
     have hsc:zaY C.P e=Kx T e:=by
      have hg:=hT.got hte;have i1:Ku C.P e=(zdV te).int:=congrArg Got.int hg;have i2:Jt C.P e=(zdV te).str:=congrArg Got.str hg;have i3:zf6 C.P e=(zdV te).bool:=congrArg Got.bool hg;unfold zaY Kx;rw[i1,i2,i3,hte];obtain⟨k,c,z⟩:=te;cases k<;>rfl
     rw[hsc,h3]
    ·cases h3
   ·cases h
  ·cases h
 ·cases h
theorem zen(hA:Agr S σ):∀{l:List Operand},zda S l=true->∀t,Operand.tmp t∈l->∃z,(σ t).a=.val z
 |[],_,t,ht=>by cases ht
 |x::l,h,t,ht=>by
  have hl:zda S l=true:=by
   cases x with
   |tmp u=>simp only[zda,zh]at h;exact h.2
   |_=>simpa only[zda]using h
  rcases zC.1 ht with e|ht
  ·subst e;simp only[zda,zh]at h;have h1:=h.1;split at h1
   ·rename_i z hz;obtain⟨_,_,x3⟩:=hA.on _ _ _ (jN hz);have ex:=x3 rfl;simp only[vz]at ex;exact⟨z,ex⟩
   ·cases h1
  ·exact zen hA hl t ht
theorem zqC{Bi:qN}{PS:List Nat}(hA:Agr S σ)(hΨ:za2 C Bi){o:Oper}{d:Nat}(hg:o.guard=none)(hd:o.dst=some d)(h:zon Bi PS S o=true):zaW C PS σ o:=by
 unfold zon at h;split at h
 ·rename_i k args ats hop;split at h
  ·rename_i j c hIk;split at h
   ·rename_i x hx;simp only[zh]at h;obtain⟨h1,h3⟩:=h
    obtain⟨c',hc'⟩:∃c',C.Ψ k=some (j,false,c'):=⟨fun args=>match c args with
     |some (ps,r,y)=>some (qd ps,r,y)
     |none=>none,by rw[hΨ.1];simp only[psi,hIk]⟩
    split at h1
    ·rename_i z hz;simp only[zh]at h1;obtain⟨_,_,x3⟩:=hA.on _ _ _ (jN hz);have ex:=x3 rfl;simp only[vz]at ex;exact⟨k,args,ats,j,_,x,(σ x).g,x,(σ x).ver,d,hg,hop,hd,hc',hx,by simp only[opd,ex];rw[if_pos h1.1],jF.1 h1.2,zen hA h3⟩
    ·rename_i s v hz;obtain⟨_,_,x3⟩:=hA.on _ _ _ (jN hz);have ex:=x3 rfl;simp only[vz]at ex;exact⟨k,args,ats,j,_,x,(σ x).g,s,(σ s).ver,d,hg,hop,hd,hc',hx,by simp only[opd,ex],jF.1 h1,zen hA h3⟩
    ·cases h1
   ·cases h
  ·cases h
 ·cases h
theorem zwc{Bi:qN}{PS:List Nat}(hT:TabOk C.P T)(hA:Agr S σ)(hΦ:C.Φ=Jq B)(hΨ:za2 C Bi){ops:Array Oper}{o:Oper}(hst:Yv T C.lo C.st o=true)(has:∀x,o.op=.assign x->∀d,o.dst=some d->d∉PS)(hz:C.st=true->∀x∈PS,x<600){ps:List Prop}{S':zU}(h:zy4 (yk T) T B Bi PS C.nt ops.toList S o=some (ps,S'))(hp:qd ps):
 ∃p σ',zci C ops PS (kM T PS o) σ o p σ'/\p/\Agr S' σ':=by
 unfold zy4 at h;split at h
 ·rename_i d hd;split at h
  ·rename_i hm;unfold zCp at h;split at h
   ·rename_i hg hn
    have hdn:C.dst d:=⟨by
     simp only[Yv,hd,zh]at hst
     exact jn hst.1,jn hn⟩
    split at h
    ·rename_i hk;split at h
     ·rename_i hls;obtain⟨p,σ',e1,e2,e3,_⟩:=za4 hT hA (fun d' hd'=>by rw[hd]at hd';simp only[za]at hd';subst hd';exact hdn) hst h hp;exact⟨p,σ',.inl ⟨hk,.inr (.inl ⟨e1,has⟩),fun _=>.inl ⟨e1,.inl (zuw hT hA hg hls)⟩⟩,e2,e3⟩
     ·split at h
      ·rename_i hls;obtain⟨m,m1,m2,m3⟩:=zd9 hz (zhu o.op) S σ hA;obtain⟨p,σ',e1,e2,e3⟩:=zlw hT m3 hΦ hΨ (fun d' hd'=>by rw[hd]at hd';simp only[za]at hd';subst hd';exact hdn) h hp;have hl:=zqC m3 hΨ hg hd hls;have hio:zds C PS σ o p σ':=⟨m,m1,fun t ht=>⟨(m2 t ht).1,zxR (m2 t ht).2⟩,e1,hl⟩;exact⟨p,σ',.inl ⟨hk,.inr (.inr (.inr (.inr hio))),fun _=>.inr hio⟩,e2,e3⟩
      ·cases h
    ·rename_i hk;split at h
     ·rename_i hnr;split at h
      ·rename_i qs a hlop;split at h
       ·cases h
       ·rename_i hat
        simp only[qh]at hat
        obtain⟨⟨ha1,ha3⟩,ha2⟩:=hat
        simp only[za,zb]at h;obtain⟨rfl,rfl⟩:=h;obtain⟨p,e1,e2⟩:=zat hT hA hΦ (g:=none) rfl hlop hp
        have el:qm C ops σ o=some (p,σ.put d true (vz σ a)):=by
         unfold qm;have:gd ops σ o=some true:=(by unfold gd;rw[hg]);rw[this,hd];dsimp only;rw[e1];dsimp only;rw[if_pos hdn]
        have hro:Jy PS (σ.put d true (vz σ a)) o:=by
         intro d' hd' s ver hr;rw[hd]at hd';simp only[za]at hd';subst hd';simp only[Env.put,if_true]at hr;exact zkC ha3 hr
        refine⟨p,_,.inr ⟨by simpa using hk,d,hd,zd5 hA ha2,.inl ⟨el,hro⟩,fun _=>⟨⟨hg,fun t ht=>zrP hA (zmU hnr _ (by simpa using ht))⟩,el,hro⟩⟩,e2,hA.put (g:=none) ha1 (fun _=>rfl)⟩
      ·cases h
     ·cases h
   ·cases h
  ·rename_i hm;refine zkx hT hA hΦ hΨ hst has hz ?_ h hp;unfold ZR;rw[hd];dsimp only
   cases hc:PS.contains (d+800)with
   |false=>rfl
   |true=>
    have:=jF.2 (show d+800∈PS by simpa using hc);rw[this]at hm;cases hm
 ·rename_i hd;split at h
  ·rename_i hm;split at h
   ·rename_i hg hk;simp only[zh]at hk;obtain⟨p,σ',e1,e2,e3,_⟩:=za4 hT hA (fun d' hd'=>by rw[hd]at hd';cases hd') hst h hp;exact⟨p,σ',.inl ⟨hk.1,.inr (.inl ⟨e1,has⟩),fun _=>.inl ⟨e1,.inr (zqB hA hg hd hk.2)⟩⟩,e2,e3⟩
   ·cases h
  ·rename_i hm;refine zkx hT hA hΦ hΨ hst has hz ?_ h hp;unfold ZR;rw[hd];dsimp only
   cases hc:PS.contains 998 with
   |false=>rfl
   |true=>
    have:=jF.2 (show 998∈PS by simpa using hc);rw[this]at hm;cases hm
def zhU(PS:List Nat):List Oper->Bool
 |[]=>true
 |o::l=>(match o.op,o.dst with
  | .assign _,some d=> !ju PS d
  |_,_=>true)&&zhU PS l
theorem zqg{Bi:qN}{PS:List Nat}(hT:TabOk C.P T)(hΦ:C.Φ=Jq B)(hΨ:za2 C Bi){ops:Array Oper}{K:zU->Prop}{K':Env->Prop}(hK:∀S σ,K S->Agr S σ->K' σ)(hz:C.st=true->∀x∈PS,x<600):∀(l:List Oper) (S:zU) (σ:Env),zaZ T C.lo C.st l=true->zhU PS l=true->evP (yk T) T B Bi PS C.nt ops.toList l S K->Agr S σ->evM C ops PS l (l.map (kM T PS)) σ K'
 |[],S,σ,_,_,h,hA=>hK S σ h hA
 |o::l,S,σ,hst,has,h,hA=>by
  simp only[zaZ,zh]at hst;simp only[zhU,zh]at has;simp only[evP]at h;split at h
  ·rename_i ps S' hs;rw[Jk]at h
   obtain⟨p,σ',e1,e2,e3⟩:=zwc hT hA hΦ hΨ hst.1 (fun x hop d hd hm=>by
    have:=has.1;rw[hop,hd]at this
    simp[jF.2 hm]at this) hz hs h.1
   exact⟨p,σ',e1,e2,zqg hT hΦ hΨ hK hz l S' σ' hst.2 has.2 h.2 e3⟩
  ·exact h.elim
theorem ziP{lo:Nat}{st:Bool}:∀{l:List Oper},zaZ T lo st l=true↔∀o∈l,Yv T lo st o=true
 |[]=>by simp[zaZ]
 |x::l=>by simp only[zaZ,zh,ziP (l:=l),zC,forall_eq_or_imp]
def zDV(PS:List Nat)(o:Oper):Bool:=match o.op,o.dst with
 | .assign _,some d=> !ju PS d
 |_,_=>true
theorem zjn{PS:List Nat}:∀{l:List Oper},zhU PS l=true↔∀o∈l,zDV PS o=true
 |[]=>by simp[zhU]
 |x::l=>by
  simp only[zhU,zh,zjn (l:=l),zC,forall_eq_or_imp];exact Iff.rfl
theorem zfT{ops:List Oper}:∀{H:List Nat} {o:Oper},o∈kU ops H->o∈ops
 |[],o,h=>by simp[kU]at h
 |i::H,o,h=>by
  simp only[kU]at h;split at h
  ·rename_i x hx;rcases zC.1 h with rfl|h
   ·exact List.mem_of_getElem? hx
   ·exact zfT h
  ·exact zfT h
theorem zr9{PS:List Nat}{ops:Array Oper}:∀{H:List Nat} {l:Array Bool},ze7 ops H l=true->(kU ops.toList H).map (kM T PS)=(kU ops.toList H).map (fun _=>false)
 |[],_,_=>rfl
 |i::H,l,hc=>by
  simp only[ze7,zh]at hc;have ih:=zr9 (PS:=PS) hc.2;have h1:=hc.1.1.1
  cases ho:ops[i]? with
  |none=>rw[ho]at h1;cases h1
  |some o=>
   rw[ho]at h1;simp only[zh]at h1;have ho':ops.toList[i]? =some o:=(by simpa using ho);simp only[kU,ho',yX,ih];congr 1;have hm:=h1.1;unfold kM;cases hop:o.op<;>simp[ziV,hop]at hm;simp[kO,kT,hop]
theorem zvb{PS:List Nat}{ops:Array Oper}:∀(R:List Nat),(∀i∈R,i<ops.size)->(kU ops.toList R).map (kM T PS)=R.map fun i=>(ops.toList.map (kM T PS)).getD i true
 |[],_=>rfl
 |i::R,hr=>by
  have hi:i<ops.size:=hr i (by simp);have ho:ops.toList[i]? =some ops[i]:=by simp[hi]
  simp only[kU,ho,yX,zvb R (fun j hj=>hr j (by simp[hj]))];congr 1;simp[List.getD_eq_getElem?_getD,zN,hi]
theorem zvA:∀a b:List Oper,appS a b=a++b
 |[],_=>rfl
 |x::a,b=>by simp[appS,zvA a b]
theorem zu6:∀(l:List Oper) (i:Nat),zgm l i=l[i]?
 |[],_=>by simp[zgm]
 |_::_,0=>rfl
 |_::l,i+1=>by simp[zgm,zu6 l i]
theorem zrN(ops:List Oper):∀H:List Nat,zmS ops H=kU ops H
 |[]=>rfl
 |i::H=>by
  simp only[zmS,kU,zu6,zrN ops H];all_goals (cases ops[i]? <;>rfl)
theorem zrw(H:List Nat):∀(l:List Oper) (i:Nat) (ops:List Oper),(∀j,l[j]? =ops[i+j]?)->zfQ H i l=kU ops (((List.range l.length).map (i+ ·)).filter fun k=> !H.contains k)
 |[],i,ops,_=>by simp[zfQ,kU]
 |o::l,i,ops,h=>by
  have e:(List.range (o::l).length).map (i+ ·)=i::(List.range l.length).map (i+1+ ·):=by
   rw[zi,ZY];simp only[yX,List.map_map,Nat.add_zero,List.cons.injEq,true_and];apply List.map_congr_left;intro j _;simp only[Function.comp];omega
  have ih:=zrw H l (i+1) ops (fun j=>by have:=h (j+1);simpa [Nat.add_assoc,Nat.add_comm 1 j]using this);have hi:ops[i]? =some o:=by simpa using(h 0).symm
  rw[e];simp only[zfQ,List.filter_cons]
  cases hm:ju H i with
  |true=>
   have:H.contains i=true:=(by simpa using jF.1 hm);rw[this];exact ih
  |false=>
   have:H.contains i=false:=by
    cases hh:H.contains i with
    |false=>rfl
    |true=>rw[jF.2 (by simpa using hh)]at hm;cases hm
   rw[this];simp only[Bool.not_false,if_true,kU,hi];rw[ih]
theorem zBo(ops:Array Oper)(H:List Nat):zCC ops.toList H=kU ops.toList H++kU ops.toList (zaq ops.size H):=by
 have h0:(List.range ops.toList.length).map (0+ ·)=List.range ops.size:=by simp
 have h1:=zrw H ops.toList 0 ops.toList (fun j=>by simp);rw[h0]at h1
 cases H with
 |nil=>
  have h2:∀(l:List Oper) (i:Nat),zfQ [] i l=l:=by
   intro l
   induction l with
   |nil=>intro i;rfl
   |cons o l ih=>intro i;simp[zfQ,ju,ih]
  rw[h2]at h1;exact h1
 |cons i H=>
  show appS _ _=_;rw[zvA,zrN,h1];rfl
theorem zjo:∀{l:List Nat},znC l S=true->Agr S σ->∀s∈l,(σ s).owner=false
 |[],_,_,s,hs=>by cases hs
 |t::l,h,hA,s,hs=>by
  simp only[znC,zh]at h;rcases zC.1 hs with rfl|hs
  ·have h1:=h.1;split at h1
   ·rename_i hl;exact hA.off _ (zp4 hl)
   ·cases h1
  ·exact zjo h.2 hA s hs
def kD(T:kj)(ks:List Nat)(lo:Nat)(st:Bool):Code->Bool
 | .region id ops draw=>(!draw||(match ziM ks id,ziX ks id with
  |[],[]=>chk ops (ops.toList.map (kO T))
  |ps,hs=>zoB ops ps (ops.toList.map (kM T ps)) hs&&zw8 ops ps&&zhU ps ops.toList&&Region.noSelect ops&&ze7 ops hs (Array.replicate ops.size false)&&jH ((zaq ops.size hs).length+hs.length) ops.size&&(!st||ps.all fun x=>Jf x 600)))&&zaZ T lo st ops.toList&&(!st||((zlC ks id).isEmpty&&(ziM ks id).all fun x=>Jf x 600))
 | .seq x y=>kD T ks lo st x&&kD T ks lo st y
 | .cond _ x y=>kD T ks lo st x&&kD T ks lo st y
 | .block _ c=>kD T ks lo st c
 | .loop c=>kD T ks lo st c
 |_=>true
def GS(C:Ctx)(S:zU)(a:Act)(w:World):Prop:=∃σ,Agr S σ/\G C σ a w
def zwD(C:Ctx)(Q:ZW):Exit->Act->World->Prop:=fun e a w=>∃S,Q e S/\GS C S a w
def SW(C:Ctx)(c:Code)(Q:ZW)(S:zU):Prop:=∀a w,GS C S a w->c.wp C.P (zwD C Q) a w
theorem GS.keep{a:Act}{w:World}(h:GS C S a w)(ks:List Nat):GS C (ZS ks S) a w:=by
 obtain⟨σ,hA,hG⟩:=h;exact⟨_,hA.keep ks,zyk _ _ hG⟩
theorem Inv.frzBox{F:Nat->Prop}{O:Nat->Nat->Prop}{a:Act}{w:World}(hI:Inv C F O (fun _=>False) σ a w)(hst:C.st=false){s ver:Nat}{e:TypeId}{c:V}(hr:σ.own s ver=some (.box e c)):
 ∃F' O',Inv C F' O' (fun _=>False) ((σ.drp s).put s true (.val (.box e c.frz))) a w:=by
 obtain⟨hgs,_,ha⟩:=Env.own_elim hr;have hnew:∀b,O s b->C.w0.heap.size<=b\/(C.st=false/\C.X b):=fun b hb=>(hI.ofr s b hb).imp id (fun hx=>⟨hst,hx⟩);obtain⟨cs,e1,e2,e3,e4⟩:=hI.takeAll hgs ha
 cases e2 with
 |box _ _ b cur cs' Oc _ hb hcs hO hOs hrc=>
  have hf:=e4.freezeZ (Zf:=Oc) (fun b' hb'=>.inr (hOs b' hb').1) (fun b' hb'=>hnew b' (hOs b' hb').1);have hrep:Rep C.cz w (fun b=>F b\/Oc b) (.box e c.frz) [.pointer (some ⟨b,0,none⟩)] (fun x=>x=b):=.box e c.frz b cur cs' (fun _=>False) _ hb hcs rfl (fun _ h=>h.elim) hrc.frz;have hreg:(V.box e c.frz).reg [.pointer (some ⟨b,0,none⟩)] (a.tmps.getD s undef):=e1;have h1:=hf.putVal (d:=s) (g:=true) (x:=.box e c.frz) (v:=a.tmps.getD s undef) (On:=fun x=>x=b) e3 (.inr rfl) (fun _=>⟨hreg,hrep⟩) (fun x hx=>by subst hx;exact⟨.inr hO,fun h=>(hOs _ h).2 rfl⟩) (by simp);rw[Jd rfl e3]at h1;exact⟨_,_,h1.lessZ (fun _ h=>h.elim)⟩
theorem GS.fz1(hst:C.st=false){a:Act}{w:World}(h:GS C S a w)(s:Nat):GS C (fz1 (yk T) S s) a w:=by
 unfold Go.Ax.fz1;split
 ·rename_i e d es ho;obtain⟨σ,hA,F,O,hI⟩:=h;obtain⟨F',O',h1⟩:=hI.frz1 hst (yv hA ho);exact⟨_,(hA.drp (d:=s)).put (d:=s) (g:=none) (a:=.val (.slc false e d.frz (V.frzs es))) (a':=.val (.slc false e d.frz (V.frzs es))) rfl (fun _=>rfl),F',O',h1⟩
 ·rename_i e c ho;obtain⟨σ,hA,F,O,hI⟩:=h;obtain⟨F',O',h1⟩:=hI.frzBox hst (yv hA ho);rw[Yx];exact⟨_,(hA.drp (d:=s)).put (d:=s) (g:=none) (a:=.val (.box e c.frz)) (a':=.val (.box e c.frz)) rfl (fun _=>rfl),F',O',h1⟩
 ·exact h
theorem GS.fz2(hst:C.st=false){a:Act}{w:World}(h:GS C S a w)(s:Nat):GS C (fz2 (yk T) S s) a w:=by
 unfold Go.Ax.fz2;split
 ·rename_i e c ho;obtain⟨σ,hA,F,O,hI⟩:=h;obtain⟨F',O',h1⟩:=hI.frzG hst (yv hA ho);rw[Yx];exact⟨_,(hA.drp (d:=s)).put (d:=s) (g:=none) (a:=.val (.fn 1000000000 [c.frz])) (a':=.val (.fn 1000000000 [c.frz])) rfl (fun _=>rfl),F',O',h1⟩
 ·exact h
theorem zqb(d:V):(ghN d).isBox=false:=by
 cases d<;>rfl
theorem GS.gh1{a:Act}{w:World}(h:GS C S a w)(s:Nat):GS C (gh1 S s) a w:=by
 unfold Go.Ax.gh1;split
 ·rename_i e d es ho;obtain⟨σ,hA,F,O,hI⟩:=h;obtain⟨F',O',h1⟩:=hI.ghost (d':=ghN d) (yv hA ho) (fun h=>by rw[zqb]at h;cases h);exact⟨_,(hA.drp (d:=s)).put (d:=s) (g:=none) (a:=.val (.slc true e (ghN d) es)) (a':=.val (.slc true e (ghN d) es)) rfl (fun _=>rfl),F',O',h1⟩
 ·exact h
theorem GS.gh2{a:Act}{w:World}(h:GS C S a w)(s:Nat):GS C (gh2 S s) a w:=by
 unfold Go.Ax.gh2;split
 ·rename_i e e' d es fs ho;obtain⟨σ,hA,F,O,hI⟩:=h;obtain⟨F',O',h1⟩:=hI.ghost2 (d':=ghN d) (yv hA ho) (fun h=>by rw[zqb]at h;cases h);exact⟨_,(hA.drp (d:=s)).put (d:=s) (g:=none) (a:=.val (.box e (.agg (.slc true e' (ghN d) es::fs)))) (a':=.val (.box e (.agg (.slc true e' (ghN d) es::fs)))) rfl (fun _=>rfl),F',O',h1⟩
 ·exact h
theorem GS.fzL{a:Act}{w:World}:∀(l:List Nat) {S:zU},(C.st=true->l.isEmpty=true)->GS C S a w->GS C (fzL (yk T) l S) a w
 |[],_,_,h=>h
 |s::l,S,hst,h=>by
  have h0:C.st=false:=by
   cases hh:C.st with
   |false=>rfl
   |true=>have:=hst hh;simp at this
  unfold Go.Ax.fzL;split
  ·exact GS.fzL l (fun h1=>by rw[h0]at h1;cases h1) (h.fz2 h0 _)
  split
  ·exact GS.fzL l (fun h1=>by rw[h0]at h1;cases h1) (h.gh2 _)
  split
  ·exact GS.fzL l (fun h1=>by rw[h0]at h1;cases h1) (h.gh1 _)
  ·exact GS.fzL l (fun h1=>by rw[h0]at h1;cases h1) (h.fz1 h0 s)
theorem zc9{Bi:qN}(hC:Ya C)(hIO:IOk C)(hT:TabOk C.P T)(hΦ:C.Φ=Jq B)(hΨ:za2 C Bi)(hm:C.P.follows .mixedOrders=true){ks:List Nat}{lp:QZ}(hlp:∀c Q S,kD T ks C.lo C.st c=true->lp c Q S->SW C (.loop c) Q S):
 ∀(c:Code) (Q:ZW) (S:zU),kD T ks C.lo C.st c=true->uX (yk T) T lp B Bi C.nt ks c Q S->SW C c Q S:=by
 intro c
 induction c with
 |skip=>intro Q S _ h a w hG;exact wp_skip ⟨S,h,hG⟩
 |seq x y ihx ihy=>
  intro Q S hc h a w hG;simp only[kD,zh]at hc;simp only[uX]at h;refine wp_seq (Code.wp_mono (fun e a' w' hq=>?_) (ihx _ _ hc.1 h a w hG));obtain⟨S',hq1,hq2⟩:=hq
  cases e with
  |normal=>exact ihy Q S' hc.2 hq1 a' w' hq2
  |_=>exact⟨S',hq1,hq2⟩
 |region id ops draw=>
  intro Q S hc h a w hG;simp only[kD,zh]at hc;simp only[uX]at h
  have hcfz:C.st=true->(zlC ks id).isEmpty=true:=by
   intro hh;have:=hc.2;rw[hh]at this;simp only[ut,Km,zh]at this;exact this.1
  have hcz:C.st=true->∀x∈ziM ks id,x<600:=by
   intro hh x hx;have:=hc.2;rw[hh]at this;simp only[ut,Km,zh]at this;exact jn (List.all_eq_true.1 this.2 x hx)
  obtain⟨σ,hA,hG⟩:=(hG.keep ks).fzL (T:=T) (zlC ks id) hcfz;have hK:∀σ a w,(∃S',Q .normal S'/\Agr S' σ)->G C σ a w->zwD C Q .normal a w:=fun σ a w ⟨S',h1,h2⟩ h3=>⟨S',h1,σ,h2,h3⟩
  cases draw with
  |false=>
   have hev:=Zw hcz (K':=fun σ'=>∃S',Q .normal S'/\Agr S' σ') hT hΦ hΨ (fun S σ h1 h2=>⟨S,h1,h2⟩) ops.toList _ σ hc.1.2 h hA;exact zum hC hIO hG hev hK
  |true=>
   have hc1:=hc.1.1;simp only[ut,Km]at hc1;dsimp only at h;split at h
   ·rename_i hps hhs;rw[hps,hhs]at hc1;have hev:=zqf (K':=fun σ'=>∃S',Q .normal S'/\Agr S' σ') hT hΦ (fun S σ h1 h2=>⟨S,h1,h2⟩) ops.toList _ σ hc.1.2 h hA;exact zwn hC hm hc1 hG hev hK
   ·rename_i hne;split at hc1
    ·rename_i hps hhs;exact(hne hps hhs).elim
    simp only[zh]at hc1;obtain⟨⟨⟨⟨⟨⟨k1,k2⟩,k3⟩,k4⟩,k5⟩,k6⟩,k7⟩:=hc1
    have hz:C.st=true->∀x∈ziM ks id,x<600:=fun hh x hx=>by
     rw[hh]at k7;simp only[ut,Km]at k7;exact jn (List.all_eq_true.1 k7 x hx)
    split at h
    ·rename_i hoff;rw[zBo]at h;have hsub:∀o∈kU ops.toList (ziX ks id)++kU ops.toList (zaq ops.size (ziX ks id)),o∈ops.toList:=fun o ho=>(List.mem_append.1 ho).elim zfT zfT;have hev:=zqg (K':=fun σ'=>∃S',Q .normal S'/\Agr S' σ') hT hΦ hΨ (fun S σ h1 h2=>⟨S,h1,h2⟩) hz _ _ σ (ziP.2 fun o ho=>ziP.1 hc.1.2 o (hsub o ho)) (zjn.2 fun o ho=>zjn.1 k3 o (hsub o ho)) h hA
     have hts:(kU ops.toList (ziX ks id)++kU ops.toList (zaq ops.size (ziX ks id))).map (kM T (ziM ks id))=(kU ops.toList (ziX ks id)).map (fun _=>false)++(zaq ops.size (ziX ks id)).map fun i=>(ops.toList.map (kM T (ziM ks id))).getD i true:=by
      rw[List.map_append,zr9 k5,zvb _ (fun i hi=>by
       have:=(jp.1 hi).1
       simpa using this)]
     rw[hts]at hev;exact zun hC hIO hm k1 k2 k4 k5 (qg k6) hG (zjo hoff hA) hev hK
    ·exact h.elim
 |cond c x y ihx ihy=>
  intro Q S hc h a w hG;simp only[kD,zh]at hc;simp only[uX]at h;split at h
  ·rename_i b hb;have h':(b=true->uX (yk T) T lp B Bi C.nt ks x Q (ZS ks S))/\(b=false->uX (yk T) T lp B Bi C.nt ks y Q (ZS ks S)):=h;have hG':=hG.keep ks;obtain⟨σ,hA,F,O,hI⟩:=hG;have o1:=zH hT hA hb rfl;have:=zaw (zT hI o1 rfl).1;refine wp_cond_split this (fun hb=>ihx Q _ hc.1 (h'.1 hb) a w hG') (fun hb=>ihy Q _ hc.2 (h'.2 hb) a w hG')
  ·exact h.elim
 |block id c ih=>
  intro Q S hc h a w hG;simp only[uX]at h;refine wp_block (Code.wp_mono (fun e a' w' hq=>?_) (ih _ _ hc h a w hG));obtain⟨S',hq1,hq2⟩:=hq
  cases e with
  |exit id'=>
   simp only[zyA]at hq1;simp only[Exit.inBlock];split at hq1
   ·rename_i hid;rw[if_pos (qg hid)];exact⟨S',hq1,hq2⟩
   ·rename_i hid;rw[if_neg (fun e=>by subst e;rw[uL]at hid;cases hid)];exact⟨S',hq1,hq2⟩
  |_=>exact⟨S',hq1,hq2⟩
 |loop c ih=>
  intro Q S hc h a w hG;exact hlp c Q _ hc h a w (hG.keep ks)
 |exit id=>intro Q S _ h a w hG;exact wp_exit ⟨S,h,hG⟩
 |ret=>intro Q S _ h a w hG;exact wp_ret ⟨S,h,hG⟩
 |_=>intro Q S _ h;exact h.elim
end
end Go.Ax
namespace Go.Ax
open Go.RowKit
section
variable {C:Ctx}{T:kj}{S:zU}{σ:Env}{B:jZ}
mutual
def _root_.Go.Ax.V.lenOk:V->Prop
 | .slc _ _ _ es=>es.length<=9223372036854775807/\V.lenOks es
 | .agg fs=>V.lenOks fs
 | .tup fs=>V.lenOks fs
 | .box _ c=>c.lenOk
 |_=>True
def _root_.Go.Ax.V.lenOks:List V->Prop
 |[]=>True
 |x::l=>x.lenOk/\V.lenOks l
end
theorem zwR{l:List V}:V.lenOks l↔∀x∈l,x.lenOk:=by
 induction l with
 |nil=>simp[V.lenOks]
 |cons x l ih=>simp[V.lenOks,ih]
theorem zfV{l:List V}(h:∀(i:Nat) (x:V),l[i]? =some x->x.lenOk):V.lenOks l:=by
 rw[zwR];intro x hx;obtain⟨i,hi⟩:=List.mem_iff_getElem?.1 hx;exact h i x hi
theorem Rep.lenOk{cz:TypeId->Nat}{w:World}{F O:Nat->Prop}{x:V}{cs:List Value}(h:Rep cz w F x cs O):x.lenOk:=by
 induction h with
 |int=>trivial
 |bool=>trivial
 |str=>trivial
 |hole=>trivial
 |fz0=>exact⟨by simp,trivial⟩
 |fz e d es b off len cap cs O hl hc hm hF hcs hr ih=>exact⟨by have:maxLen=9223372036854775807:=rfl;omega,zfV ih⟩
 |own0=>exact⟨by simp,trivial⟩
 |own e d es b len cap cur cs Os O hb hsz hl hc hm hO hOs hdis hcs hr hd9 ih=>exact⟨by have:maxLen=9223372036854775807:=rfl;omega,zfV ih⟩
 |agg fs cs Os O hn hOs hdis hr ih=>exact zfV ih
 |box e c b cur cs Oc O hb hcs hO hOs hr ih=>exact ih
 |tup fs vs cs Os O hn hOs hdis hv hr ih=>exact zfV ih
 |fb=>trivial
 |fn=>trivial
def JC:zU->Prop
 |[]=>True
 |(_,none,.val x)::l=>x.lenOk/\JC l
 |_::l=>JC l
theorem zhN{a:Act}{w:World}:∀{S:zU},(∀t x,(t,none,.val x)∈S->∃w:World,∃F O cs,Rep C.cz w F x cs O)->JC S
 |[],_=>trivial
 |(t,some g,b)::l,h=>zhN (a:=a) (w:=w) (S:=l) (fun t x hx=>h t x (zx _ hx))
 |(t,none,.val x)::l,h=>⟨by obtain⟨w,F,O,cs,hr⟩:=h t x (by simp);exact hr.lenOk,zhN (a:=a) (w:=w) (S:=l) (fun t x hx=>h t x (zx _ hx))⟩
 |(t,none,.rf _ _ _)::l,h=>zhN (a:=a) (w:=w) (S:=l) (fun t x hx=>h t x (zx _ hx))
 |(t,none,.ad _ _ _)::l,h=>zhN (a:=a) (w:=w) (S:=l) (fun t x hx=>h t x (zx _ hx))
 |(t,none,.fz _)::l,h=>zhN (a:=a) (w:=w) (S:=l) (fun t x hx=>h t x (zx _ hx))
 |(t,none,.ag _ _ _ _)::l,h=>zhN (a:=a) (w:=w) (S:=l) (fun t x hx=>h t x (zx _ hx))
theorem GS.facts{a:Act}{w:World}(h:GS C S a w):JC S:=by
 obtain⟨σ,hA,F,O,hI⟩:=h;refine zhN (C:=C) (a:=a) (w:=w) (fun t x hx=>?_);obtain⟨e1,_,e3⟩:=hA.on _ _ _ hx;obtain⟨_,h2,_⟩:=hI.slot t e1;obtain⟨cs,_,hr⟩:=h2 x (e3 rfl);exact⟨w,F,_,cs,hr⟩
def Kk(L:Alg)(T:kj)(B:jZ)(Bi:qN)(n:Nat)(ks:List Nat)(lp:QZ):Prop:=
 ∀(α:Type) (c:Code) (Q:ZW) (S0:zU) (kl:List Nat) (st:α->zU) (Inv:α->Prop) (m:α->Nat) (x0:α),ZS kl S0=st x0->Inv x0->
  (∀x,Inv x->JC (st x)->∀ag:zU->Prop,(∀x',Inv x'->m x'<m x->ag (st x'))->uX L T lp B Bi n ks c (zaX (fun S'=>ag (ZS kl S')) Q) (st x))->lp c Q S0
def zgp(T:kj)(ks:List Nat)(C:Ctx):QZ:=fun c Q S=>kD T ks C.lo C.st c=true->SW C (.loop c) Q S
theorem zm1{Bi:qN}(hC:Ya C)(hIO:IOk C)(hT:TabOk C.P T)(hΦ:C.Φ=Jq B)(hΨ:za2 C Bi)(hm:C.P.follows .mixedOrders=true)(ks:List Nat):Kk (yk T) T B Bi C.nt ks (zgp T ks C):=by
 intro α c Q S0 kl st Inv m x0 h0 hi round hc
 have key:∀(n:Nat) (x:α),Inv x->m x<n->∀a w,GS C (st x) a w->Code.rounds C.P c (zwD C Q) n a w:=by
  intro n
  induction n with
  |zero=>intro x _ h;exact absurd h (zgc _)
  |succ n ih=>
   intro x hx hn a w hG;rw[rounds_succ];have hw:=zc9 hC hIO hT hΦ hΨ hm (lp:=zgp T ks C) (fun c Q S h1 h2=>h2 h1) c _ (st x) hc (round x hx hG.facts (fun S'=>∃x',S'=st x'/\Inv x'/\m x'<m x) (fun x' h1 h2=>⟨x',rfl,h1,h2⟩)) a w hG;refine Code.wp_mono (fun e a' w' hq=>?_) hw;obtain⟨S',q1,q2⟩:=hq
   cases e with
   |normal=>
    obtain⟨x',e1,e2,e3⟩:=q1;have q3:=q2.keep kl;rw[e1]at q3;exact ih x' e2 (by omega) a' w' q3
   |_=>exact⟨S',q1,q2⟩
 intro a w hG;have hG':=hG.keep kl;rw[h0]at hG';exact wp_loop_rounds (m x0+1) (key _ x0 hi (Kf _) a w hG')
def ziI(tmps:Array Value):ResultVar->Sem Value
 | .tmp t=>pure (tmps.getD t undef)
 | .cell a t=>do loadVar t (<-asAddr (tmps.getD a undef))
theorem zcX{fn:Func}(tmps:Array Value)(P:Program)(w:World)(vs:Nat->Value)(h:∀(i:Nat) (x:ResultVar),fn.results.toList[i]? =some x->(ziI tmps x).run P w=.ok (vs i) w):
 ∃va:Array Value,va.size=fn.results.size/\(∀i,i<va.size->va.getD i undef=vs i)/\(results fn tmps).run P w=.ok (if h:va.size=1 then va[0]else .tuple va) w:=by
 have key:∀(f:ResultVar->Sem Value),(∀x,f x=ziI tmps x)->∀(l:List ResultVar) (vs:Nat->Value),(∀(i:Nat) (x:ResultVar),l[i]? =some x->(ziI tmps x).run P w=.ok (vs i) w)->(l.mapM f).run P w=.ok ((List.range l.length).map vs) w:=by
  intro f hf l
  induction l with
  |nil=>intro vs _;simp
  |cons x l ih=>
   intro vs h;rw[List.mapM_cons];have h0:=h 0 x rfl;simp only[Sem.run_bind,hf,h0,Result.andThen_ok,Sem.run_pure];rw[ih (fun i=>vs (i+1)) (fun i x hx=>h (i+1) x (by simpa using hx))];simp only[Result.andThen_ok];rw[zi,ZY];simp[Function.comp_def]
 refine⟨((List.range fn.results.toList.length).map vs).toArray,by simp,fun i hi=>?_,?_⟩
 ·simp only[List.size_toArray,List.length_map,List.length_range]at hi;have hi':i<fn.results.size:=by simpa using hi
  simp[zw,List.getElem?_range hi']
 ·unfold results;rw[Sem.run_bind,Array.mapM_eq_mapM_toList];simp only[Sem.run_map];rw[key _ ?hf fn.results.toList vs h]
  case hf=>intro x;cases x<;>rfl
  rfl
theorem zbU(hT:TabOk C.P T):∀(l:List ResultVar) (S:zU) (σ:Env) (F:Nat->Prop) (O:Nat->Nat->Prop) (Z:Nat->Prop) (a:Act) (w:World) (ps:List Prop) (ys:List V),Inv C F O Z σ a w->Agr S σ->Yu (yk T) T l S=some (ps,ys)->qd ps->
 ys.length=l.length/\∃(vs:Nat->Value) (css:Nat->List Value) (Ons:Nat->Nat->Prop),(∀(i:Nat) (x:ResultVar),l[i]? =some x->(ziI a.tmps x).run C.P w=.ok (vs i) w)/\
  (∀(i:Nat) (y:V),ys[i]? =some y->y.reg (css i) (vs i)/\Rep C.cz w F y (css i) (Ons i))/\
  (∀i b,Ons i b->¬Z b)/\(∀i j b,i≠j->Ons i b->¬Ons j b)/\(∀i b,Ons i b->(C.w0.heap.size<=b\/C.X b)/\b<w.heap.size/\¬F b)
 |[],S,σ,F,O,Z,a,w,ps,ys,hI,hA,h,hp=>by
  simp only[Yu,za,zb]at h;obtain⟨_,rfl⟩:=h;exact⟨rfl,fun _=>undef,fun _=>[],fun _ _=>False,fun i x hx=>by simp at hx,fun i y hy=>by simp at hy,fun _ _ h=>h.elim,fun _ _ _ _ h=>h.elim,fun _ _ h=>h.elim⟩
 |x0::l,S,σ,F,O,Z,a,w,ps,ys,hI,hA,h,hp=>by
  have step:∃(p1 p2:List Prop) (y:V) (ys':List V) (S1:zU) (σ1:Env) (v:Value) (cs:List Value) (On:Nat->Prop),ps=p1++p2/\ys=y::ys'/\Yu (yk T) T l S1=some (p2,ys')/\Agr S1 σ1/\(ziI a.tmps x0).run C.P w=.ok v w/\y.reg cs v/\Rep C.cz w F y cs On/\(∀b,On b->¬Z b)/\
   ∃O',Inv C F O' (fun b=>Z b\/On b) σ1 a w:=by
   cases x0 with
   |tmp t=>
    simp only[Yu]at h;split at h
    ·rename_i gx A h1;split at h
     ·rename_i qs y S1 h2;split at h
      ·rename_i rs ys' h3;simp only[za,zb]at h;obtain⟨rfl,rfl⟩:=h;rw[zu,zu]at hp;obtain⟨⟨p1,p2⟩,p3⟩:=hp;have o1:=zH hT hA h1 (zL p1 rfl);obtain⟨q,σ1,t1,t2,t3⟩:=uE hA h2 p2;obtain⟨cs,On,e1,e2⟩:=uW hI (zT hI o1 rfl).1 t1 t2;exact⟨_,rs,y,ys',S1,σ1,_,cs,On,rfl,rfl,h3,t3,rfl,e1,e2.rep,e2.new,e2.inv⟩
      ·cases h
     ·cases h
    ·cases h
   |cell t ty=>
    simp only[Yu]at h;split at h
    ·rename_i e c h1;split at h
     ·rename_i hfit;split at h
      ·rename_i rs ys' h3;simp only[za,zb]at h;obtain⟨rfl,rfl⟩:=h;have ho:=yv hA h1;obtain⟨hg,_,ha⟩:=Env.own_elim ho;obtain⟨cs,e1,e2,e3,e4⟩:=hI.takeAll hg ha
       cases e2 with
       |box _ _ b cur cs' Oc _ hb hcs hO hOs hr=>
        have hcells:qo w b 0 cs':=by
         intro j v hj;rw[<-hcs,qR]at hj;simp only[World.cell?,hb,Option.isSome_none,Bool.false_eq_true,if_false,jh];exact hj
        obtain⟨v,f1,f2⟩:=zaR (C:=C) (QO hT hfit) hcells hr;refine⟨[],rs,c,ys',Jr t S,σ.drp t,v,cs',Oc,rfl,rfl,h3,hA.drp,?_,f2,hr,fun b' hb' hz=>hI.oz t b' (hOs b' hb').1 hz,_,e4.lessZ (fun b' hb'=>hb'.imp id (fun h=>(hOs b' h).1))⟩;have hreg:a.tmps.getD t undef=.pointer (some ⟨b,0,none⟩):=e1;simp only[ziI,Sem.run_bind,hreg,asAddr,Sem.run_pure,Result.andThen_ok];exact f1
      ·cases h
     ·cases h
    ·cases h
  obtain⟨p1,p2,y,ys',S1,σ1,v,cs,On,rfl,rfl,h3,t3,hrun,e1,e2,e3,O',hI'⟩:=step;rw[zu]at hp;obtain⟨f2,vs,css,Ons,f1,f3,f4,f5,f6⟩:=zbU hT l S1 σ1 F O' _ a w p2 ys' hI' t3 h3 hp.2;refine⟨by simp[f2],fun i=>if i=0 then v else vs (i-1),fun i=>if i=0 then cs else css (i-1),fun i=>if i=0 then On else Ons (i-1),fun i x hx=>?_,fun i z hz=>?_,fun i b hb=>?_,fun i j b hij hb=>?_,fun i b hb=>?_⟩
  ·cases i with
   |zero=>
    simp at hx;subst hx;exact hrun
   |succ i=>
    have:=f1 i x (by simpa using hx);simpa using this
  ·cases i with
   |zero=>
    simp at hz;subst hz;exact⟨e1,e2⟩
   |succ i=>
    have:=f3 i z (by simpa using hz);exact⟨by simpa using this.1,by simpa using this.2⟩
  ·dsimp only at hb;split at hb
   ·exact e3 b hb
   ·exact fun hz=>f4 _ b hb (.inl hz)
  ·dsimp only at hb ⊢;split at hb
   ·split
    ·omega
    ·exact fun hb'=>f4 _ b hb' (.inr hb)
   ·split
    ·exact fun hb'=>f4 _ b hb (.inr hb')
    ·exact f5 _ _ b (by omega) hb
  ·dsimp only at hb;split at hb
   ·exact⟨hI'.zfr b (.inr hb),hI'.zlt b (.inr hb),hI'.zf b (.inr hb)⟩
   ·exact f6 _ b hb
end
def yJ(P:Program)(k:FuncId)(f:zK):Prop:=∀args ps r,f args=some (ps,r)->qd ps->zmd P k args r
def YW(P:Program)(B:jZ):Prop:=∀k f,zce B k=some f->yJ P k f
def zg6:zK:=fun _=>some ([False],.hole 0)
theorem zoa{P:Program}{k:FuncId}:yJ P k zg6:=fun args ps r h hp=>by
 simp only[zg6,za,zb]at h;obtain⟨rfl,rfl⟩:=h;exact((zm.1 hp).1).elim
theorem zB{P:Program}:YW P []:=fun k f h=>by simp[zce]at h
theorem zn{P:Program}{B:jZ}{k:FuncId}{f:zK}(h:yJ P k f)(hB:YW P B):YW P ((k,f)::B):=by
 intro k' f' h';simp only[zce]at h';split at h'
 ·rename_i hk;simp only[za]at h';subst h';rw[<-qg hk];exact h
 ·exact hB k' f' h'
theorem zmP{C:Ctx}{B:jZ}(hG:GlC C)(hΦ:C.Φ=Jq B)(hB:YW C.P B):Ya C:=by
 refine⟨hG,?_⟩;intro k args q r h hq;rw[hΦ]at h;unfold Jq at h;split at h
 ·rename_i f hf;split at h
  ·rename_i ps r' hr;simp only[za,zb,and_true]at h;obtain⟨rfl,rfl⟩:=h;exact hB k f hf args ps r' hr hq
  ·cases h
 ·cases h
def zfe(P:Program)(k j:Nat)(f:kQ):Prop:=∀args ps r y,f args=some (ps,r,y)->qd ps->zfx P k j args r y
def zAn(P:Program)(k j:Nat)(f:kQ):Prop:=∀args ps r y,f args=some (ps,r,y)->qd ps->zxl P k j args r
def Zt(P:Program)(Bi:qN):Prop:=∀k j m f,zdG Bi k=some (j,m,f)->match m with
 |false=>zfe P k j f
 |true=>zAn P k j f
theorem zy{P:Program}:Zt P []:=fun k j m f h=>by simp[zdG]at h
theorem jg{P:Program}{Bi:qN}{k j:Nat}{f:kQ}(h:zfe P k j f)(hB:Zt P Bi):Zt P ((k,j,false,f)::Bi):=by
 intro k' j' m' f' h';simp only[zdG]at h';split at h'
 ·rename_i hk;simp only[za,zb]at h';obtain⟨rfl,rfl,rfl⟩:=h';rw[<-qg hk];exact h
 ·exact hB k' j' m' f' h'
theorem zyz{P:Program}{Bi:qN}{k j:Nat}{f:kQ}(h:zAn P k j f)(hB:Zt P Bi):Zt P ((k,j,true,f)::Bi):=by
 intro k' j' m' f' h';simp only[zdG]at h';split at h'
 ·rename_i hk;simp only[za,zb]at h';obtain⟨rfl,rfl,rfl⟩:=h';rw[<-qg hk];exact h
 ·exact hB k' j' m' f' h'
theorem zmM{C:Ctx}{Bi:qN}(hG:GlC C)(hΨ:C.Ψ=psi Bi)(hB:Zt C.P Bi):IOk C:=by
 refine⟨hG,?_⟩;intro k j m c args q r y h hc hq;rw[hΨ]at h;unfold psi at h;split at h
 ·rename_i j' m' f hf;simp only[za,zb]at h;obtain⟨rfl,rfl,rfl⟩:=h;dsimp only at hc;split at hc
  ·rename_i ps r' y' hr;simp only[za,zb]at hc;obtain⟨rfl,rfl,rfl⟩:=hc;have:=hB k _ _ f hf
   cases m' with
   |false=>exact this args ps _ _ hr hq
   |true=>exact this args ps _ _ hr hq
  ·cases hc
 ·cases h
theorem zfd:∀(l:List V) (i:Nat) (t:Nat) (g:Option Bool) (a:A),(t,g,a)∈uh i l->∃j x,t=i+j/\l[j]? =some x/\g=none/\a=.val x
 |[],i,t,g,a,h=>by simp[uh]at h
 |x::l,i,t,g,a,h=>by
  simp only[uh,zC]at h;rcases h with h|h
  ·simp only[zb]at h;obtain⟨rfl,rfl,rfl⟩:=h;exact⟨0,x,rfl,rfl,rfl,rfl⟩
  ·obtain⟨j,y,e1,e2,e3,e4⟩:=zfd l (i+1) t g a h;exact⟨j+1,y,by omega,by simpa using e2,e3,e4⟩
theorem zeN:∀(l:List V) (i j:Nat) (x:V),l[j]? =some x->(i+j,none,.val x)∈uh i l
 |[],i,j,x,h=>by simp at h
 |y::l,i,0,x,h=>by simp at h;subst h;simp[uh]
 |y::l,i,j+1,x,h=>by
  simp only[uh,zC];right;have:=zeN l (i+1) j x (by simpa using h);rw[show i+(j+1)=i+1+j from by omega];exact this
theorem zlF{P:Program}{T:kj}{B:jZ}{Bi:qN}{k:FuncId}{fn:Func}{body:Code}{args:List V}{R:V->Prop}{Qr:ZW}{n:Nat}(ks:List Nat)(hf:P.funcs[k]? =some fn)(hb:fn.body=some body)(hn:fn.ntmps=n)(hname:(fn.name== "runtime.NumGoroutine")=false)
 (hl:args.length<=n) (hm:P.follows .mixedOrders=true) (hT:TabOk P T) (hB:YW P B) (hBi:Zt P Bi) (hck:kD T ks 0 false body=true)
 (hQ:∀e S,Qr e S->(e=.normal\/e=.ret)/\(match Yu (yk T) T fn.results.toList S with
  |some (ps,l)=>ZA ps (R (Qf l))
  |none=>False))
 (h:∀lp:QZ,JC (uh 0 args)->Kk (yk T) T B Bi n ks lp->uX (yk T) T lp B Bi n ks body Qr (uh 0 args)):
 zbt P k/\
 ∀(yc:Array Value) (w:World) (F:Nat->Prop),yc.size=args.length->(∀(i:Nat) (x:V),args[i]? =some x->∃cs,x.reg cs (yc.getD i undef)/\Rep P.cellsOf w F x cs (fun _=>False))->(∀b,F b->b<w.heap.size)->Gl P w F->
  Calls P k yc w (fun e w'=>∃c,R c/\∃(v:Value) (cs:List Value) (On Fr:Nat->Prop),e=.returned v/\c.reg cs v/\Rep P.cellsOf w' (fun b=>F b\/Fr b) c cs On/\(∀b,On b\/Fr b->w.heap.size<=b/\b<w'.heap.size)/\(∀b,On b->¬Fr b)/\BelowD w.heap.size w w'):=by
 refine⟨⟨fn,hf,hname,by rw[hb];rfl⟩,fun yc w F hsz hv hF hG=>?_⟩;refine calls_of_wp hf hb ?_
 let C:Ctx:={P:=P,Φ:=Jq B,w0:=w,X:=fun _=>False,F0:=F,nt:=n,Ψ:=psi Bi,lo:=0,t0:= #[],st:=false}
 have hGC:GlC C:=⟨hG,fun b hb=>⟨hF b hb,fun h=>h⟩⟩;have hC:Ya C:=zmP (C:=C) hGC rfl hB;have hIO:IOk C:=zmM (C:=C) hGC rfl hBi
 let σ:Env:=fun t=>if t<args.length then⟨true,true,0,.val (args.getD t (.hole 0))⟩else⟨false,true,0,.val (.hole 0)⟩
 have hts:(yc++Array.replicate (fn.ntmps-yc.size) undef).size=n:=by
  simp only[zaJ,Ki];omega
 have hgl:∀t,t<args.length->(yc++Array.replicate (fn.ntmps-yc.size) undef).getD t undef=yc.getD t undef:=by
  intro t ht;simp only[zw];rw[uI (by omega)]
 have hgr:∀t,¬t<args.length->(yc++Array.replicate (fn.ntmps-yc.size) undef).getD t undef=undef:=by
  intro t ht;simp only[zw];rw[uC (by omega)];by_cases h:t-yc.size<fn.ntmps-yc.size
  ·simp[h]
  ·simp[h]
 have hA:Agr (uh 0 args) σ:=by
  refine⟨fun t g a h=>?_,fun t h=>?_⟩
  ·obtain⟨j,x,e1,e2,e3,e4⟩:=zfd _ _ _ _ _ h;subst e3;subst e4;simp only[jh]at e1;subst e1;have hlt:t<args.length:=(zk.1 e2).1;simp only[σ,if_pos hlt,gb,vz,je e2];exact⟨trivial,trivial,fun _=>trivial⟩
  ·by_cases hlt:t<args.length
   ·exact absurd (by have:=zeN args 0 t _ (yr (.hole 0) hlt);simpa using this) (h (none,.val (args.getD t (.hole 0))))
   ·simp[σ,hlt,E.owner]
 have hI:Inv C F (fun _ _=>False) (fun _=>False) σ {tmps:=yc++Array.replicate (fn.ntmps-yc.size) undef,defers:=[]} w:=by
  refine⟨fun t hg=>?_,fun _ _ _ _ h=>h.elim,fun _ _ h=>h.elim,fun _ _ h=>h.elim,fun _ h=>h.elim,fun _ _ h=>h.elim,fun _ h=>h.elim,hF,fun _ _ h=>h.elim,fun _ h=>h.elim,fun _ h=>h,fun _ h=>.inl h,fun _ _ _=>rfl,zt _,rfl,rfl,Jm.refl _,rfl,fun t s ver hr=>?_,fun t hg hu=>?_,hts,fun _ h=>absurd h (zgc _),fun h=>by cases h⟩
  ·have hlt:t<args.length:=by
    by_cases hlt:t<args.length
    ·exact hlt
    ·simp[σ,hlt]at hg
   refine⟨by rw[hts];omega,fun x hx=>?_,fun hn=>absurd (by simp only[σ,if_pos hlt]) (hn (args.getD t (.hole 0)))⟩;simp only[σ,if_pos hlt,A.val.injEq]at hx;subst hx;rw[hgl t hlt];exact hv t _ (yr (.hole 0) hlt)
  ·simp only[σ]at hr;split at hr<;>simp[A.refs]at hr
  ·have hlt:¬t<args.length:=by
    intro hlt;simp[σ,hlt]at hg
   exact hgr t hlt
 have hGS:GS C (uh 0 args) {tmps:=yc++Array.replicate (fn.ntmps-yc.size) undef,defers:=[]} w:=⟨σ,hA,F,_,hI⟩;have hw:=zc9 (C:=C) hC hIO hT rfl ⟨rfl,fun h=>by cases h⟩ hm (lp:=zgp T ks C) (fun c Q S h1 h2=>h2 h1) body _ _ hck (h (zgp T ks C) hGS.facts (zm1 hC hIO hT rfl ⟨rfl,fun h=>by cases h⟩ hm ks)) _ w hGS;refine Code.wp_mono (fun e a' w' hq=>?_) hw;obtain⟨S',q1,σ',hA',F',O',hI'⟩:=hq
 have fin:(match Yu (yk T) T fn.results.toList S' with
  |some (ps,l)=>ZA ps (R (Qf l))
  |none=>False)->a'.defers=[]/\∃v,(results fn a'.tmps).run P w'=.ok v w'/\∃(c:V),R c/\∃(v':Value) (cs:List Value) (On Fr:Nat->Prop),Ending.returned v=.returned v'/\c.reg cs v'/\Rep P.cellsOf w' (fun b=>F b\/Fr b) c cs On/\(∀b,On b\/Fr b->w.heap.size<=b/\b<w'.heap.size)/\(∀b,On b->¬Fr b)/\BelowD w.heap.size w w':=by
  intro hq;split at hq
  ·rename_i ps l hres;rw[Jk]at hq;obtain⟨f2,vf,css,Ons,f1,f3,f4,f5,f6⟩:=zbU (C:=C) hT _ _ _ _ _ _ _ _ _ _ hI' hA' hres hq.1;obtain⟨vs,g0,g1,g2⟩:=zcX (fn:=fn) a'.tmps P w' vf f1;refine⟨hI'.defers,_,g2,?_⟩;have hbelow:BelowD w.heap.size w w':=⟨hI'.os,hI'.tape,hI'.output,hI'.size,fun k hk=>hI'.old k hk (fun h=>h)⟩;have hFr:∀b,F' b->F b\/(F' b/\w.heap.size<=b):=fun b hb=>(hI'.ffr b hb).imp id (fun h=>⟨hb,h.resolve_right (fun h=>h.2)⟩);have hOn:∀i b,Ons i b->w.heap.size<=b/\b<w'.heap.size/\¬F' b:=fun i b hb=>⟨(f6 i b hb).1.elim id (fun h=>h.elim),(f6 i b hb).2⟩
   have hsz:vs.size=l.length:=by
    rw[g0,f2,qu]
   by_cases h1:vs.size=1
   ·rw[dif_pos h1]
    have:∃y,l=[y]:=by
     match l,(by omega:l.length=1)with
     |[y],_=>exact⟨y,rfl⟩
    obtain⟨y,rfl⟩:=this;have hr:R y:=hq.2;obtain⟨e1,e2⟩:=f3 0 y rfl
    have hv0:vs[0]=vf 0:=by
     rw[<-g1 0 (by omega)];simp[zw,h1]
    refine⟨y,hr,_,css 0,Ons 0,fun b=>F' b/\w.heap.size<=b,rfl,by rw[hv0];exact e1,e2.mono hFr (fun _ h=>h),fun b hb=>?_,fun b hb hf=>(hOn 0 b hb).2.2 hf.1,hbelow⟩;rcases hb with hb|hb
    ·exact⟨(hOn 0 b hb).1,(hOn 0 b hb).2.1⟩
    ·exact⟨hb.2,hI'.flt b hb.1⟩
   ·rw[dif_neg h1]
    have hr:R (.tup l):=by
     have:=hq.2;unfold Qf at this;split at this
     ·rename_i x;exact absurd (by simpa using hsz) h1
     ·exact this
    refine⟨_,hr,_,[.tuple vs],fun b=>∃i,Ons i b,fun b=>F' b/\w.heap.size<=b,rfl,rfl,?_,fun b hb=>?_,fun b hb hf=>?_,hbelow⟩
    ·refine .tup l vs css Ons _ hsz (fun i b hb=>⟨i,hb⟩) f5 (fun i x hx=>?_) (fun i x hx=>((f3 i x hx).2).mono hFr (fun _ h=>h));have hil:=(zk.1 hx).1;rw[g1 i (by omega)];exact(f3 i x hx).1
    ·rcases hb with⟨i,hb⟩|hb
     ·exact⟨(hOn i b hb).1,(hOn i b hb).2.1⟩
     ·exact⟨hb.2,hI'.flt b hb.1⟩
    ·obtain⟨i,hb⟩:=hb;exact(hOn i b hb).2.2 hf.1
  ·exact hq.elim
 obtain⟨q0,q2⟩:=hQ _ _ q1;rcases q0 with rfl|rfl
 ·exact fin q2
 ·exact fin q2
theorem zI{P:Program}{T:kj}{B:jZ}{Bi:qN}{k:FuncId}{fn:Func}{body:Code}{args:List V}{r:V}{n:Nat}(ks:List Nat)(hf:P.funcs[k]? =some fn)(hb:fn.body=some body)(hn:fn.ntmps=n)(hname:(fn.name== "runtime.NumGoroutine")=false)
 (hl:args.length<=n) (hm:P.follows .mixedOrders=true) (hT:TabOk P T) (hB:YW P B) (hBi:Zt P Bi) (hck:kD T ks 0 false body=true)
 (h:∀(L:Alg) (lp:QZ) (rr:V),L=yk T->rr=r->JC (uh 0 args)->Kk L T B Bi n ks lp->uX L T lp B Bi n ks body (zwk L T fn.results.toList rr) (uh 0 args)):zmd P k args r:=by
 obtain⟨h1,h2⟩:=zlF (R:=fun c=>c=r) (Qr:=zwk (yk T) T fn.results.toList r) ks hf hb hn hname hl hm hT hB hBi hck (fun e S hq=>by
  cases e with
  |normal=>exact⟨.inl rfl,hq⟩
  |ret=>exact⟨.inr rfl,hq⟩
  |_=>exact hq.elim) (fun lp h1 h2=>h (yk T) lp r rfl rfl h1 h2)
 refine⟨h1,fun yc w F hsz hv hF hG=>?_⟩;refine Calls.mono (h2 yc w F hsz hv hF hG) (fun e w' hq=>?_);obtain⟨c,rfl,hq⟩:=hq;exact hq
def zwm(L:Alg)(T:kj)(res:List ResultVar)(r:V):ZW:=fun e S=>match e with
 | .ret=>match Yu L T res S with
   |some (ps,l)=>ZA ps (zaF L (Qf l)=r)
   |none=>False
 | .normal=>match Yu L T res S with
   |some (ps,l)=>ZA ps (zaF L (Qf l)=r)
   |none=>False
 |_=>False
theorem KR{P:Program}{T:kj}{B:jZ}{Bi:qN}{k:FuncId}{fn:Func}{body:Code}{args:List V}{r:V}{n:Nat}(ks:List Nat)(hf:P.funcs[k]? =some fn)(hb:fn.body=some body)(hn:fn.ntmps=n)(hname:(fn.name== "runtime.NumGoroutine")=false)
 (hl:args.length<=n) (hm:P.follows .mixedOrders=true) (hT:TabOk P T) (hB:YW P B) (hBi:Zt P Bi) (hck:kD T ks 0 false body=true)
 (h:∀(L:Alg) (lp:QZ) (rr:V),L=yk T->rr=r->JC (uh 0 args)->Kk L T B Bi n ks lp->uX L T lp B Bi n ks body (zwm L T fn.results.toList rr) (uh 0 args)):zmd P k args r:=by
 obtain⟨h1,h2⟩:=zlF (R:=fun c=>c.frz=r) (Qr:=zwm (yk T) T fn.results.toList r) ks hf hb hn hname hl hm hT hB hBi hck (fun e S hq=>by
  cases e with
  |normal=>simp only[zwm,Yx]at hq;exact⟨.inl rfl,hq⟩
  |ret=>simp only[zwm,Yx]at hq;exact⟨.inr rfl,hq⟩
  |_=>exact hq.elim) (fun lp h1 h2=>h (yk T) lp r rfl rfl h1 h2)
 refine⟨h1,fun yc w F hsz hv hF hG=>?_⟩;refine Calls.mono (h2 yc w F hsz hv hF hG) (fun e w' hq=>?_);obtain⟨c,rfl,v,cs,On,Fr,e1,e2,e3,e4,e5,e6⟩:=hq
 exact⟨v,cs,fun _=>False,fun b=>Fr b\/On b,e1,V.frz_reg e2,e3.frz.mono (fun b hb=>by
  rcases hb with(hb|hb)|hb
  ·exact .inl hb
  ·exact .inr (.inl hb)
  ·exact .inr (.inr hb)) (fun _ h=>h),fun b hb=>e4 b (by
  rcases hb with hb|hb|hb
  ·exact hb.elim
  ·exact .inr hb
  ·exact .inl hb),fun b hb=>hb.elim,e6⟩
theorem zeh{P:Program}{T:kj}{B:jZ}{k:FuncId}{fn:Func}{body:Code}{args:List V}{r:V}{n:Nat}(ks:List Nat)(hf:P.funcs[k]? =some fn)(hb:fn.body=some body)(hn:fn.ntmps=n)(hname:(fn.name== "runtime.NumGoroutine")=false)
 (hl:args.length<=n) (hm:P.follows .mixedOrders=true) (hT:TabOk P T) (hB:YW P B) (hck:kD T ks 0 false body=true)
 (h:∀(L:Alg) (lp:QZ) (rr:V),L=yk T->rr=r->JC (uh 0 args)->Kk L T B [] n ks lp->uX L T lp B [] n ks body (zwk L T fn.results.toList rr) (uh 0 args)):zmd P k args r:=
 zI ks hf hb hn hname hl hm hT hB zy hck h
end Go.Ax
namespace Go.Ax
open Go.ChangeShapes Go.WideShapes Go.RowKit
inductive Wt (T:kj):TypeId->V->Prop
 |int (t:TypeId) (ti:TI) (k:IntKind) (n:Int) (h:qE T t=some ti) (hk:ti.k=.int k) (hn:(Lit.int k n).wf=true):Wt T t (.int k n)
 |bool (t:TypeId) (ti:TI) (b:Bool) (h:qE T t=some ti) (hk:ti.k=.bool):Wt T t (.bool b)
 |str (t:TypeId) (ti:TI) (s:ByteArray) (h:qE T t=some ti) (hk:ti.k=.str) (hs:s.size<=maxLen):Wt T t (.str s)
 |slc (t:TypeId) (ti:TI) (e:TypeId) (es:List V) (h:qE T t=some ti) (hk:ti.k=.slc e) (hl:es.length<=maxLen) (he:∀(i:Nat) (y:V),es[i]? =some y->Wt T e y):Wt T t (.slc false e (dZ ti.zero).frz es)
 |agg (t:TypeId) (ti:TI) (fts:List (Nat×TypeId)) (fs:List V) (h:qE T t=some ti) (hk:ti.k=.agg fts) (hl:fs.length=fts.length)
  (he:∀(i:Nat) (o:Nat) (ft:TypeId) (y:V),fts[i]? =some (o,ft)->fs[i]? =some y->Wt T ft y):Wt T t (.agg fs)
section
variable {P:Program}{T:kj}
theorem zok:∀(fts:List (Nat×TypeId)) (n m:Nat) (fs:List V),za0 T fts n=some m->fs.length=fts.length->
 (∀(i:Nat) (o:Nat) (ft:TypeId) (y:V),fts[i]? =some (o,ft)->fs[i]? =some y->y.size=kK T ft)->
 n+V.sizes fs=m/\∀(i:Nat) (o:Nat) (ft:TypeId),fts[i]? =some (o,ft)->o=n+V.offs fs i
 |[],n,m,fs,h,hl,_=>by
  simp only[za0,za]at h;subst h;have:fs=[]:=yF hl;subst this;exact⟨by simp[V.sizes],fun i o ft h=>by simp at h⟩
 |(o,t)::fts,n,m,[],h,hl,_=>by simp at hl
 |(o,t)::fts,n,m,y::fs,h,hl,hs=>by
  simp only[za0]at h;split at h
  ·rename_i ti hti;split at h
   ·rename_i hc;obtain⟨ho,_⟩:=hc;subst ho
    have hy:y.size=ti.cells:=by
     have:=hs 0 o t y rfl rfl;simp only[kK,hti]at this;exact this
    obtain⟨h1,h2⟩:=zok fts (o+ti.cells) m fs h (by simpa using hl) (fun i o ft y a b=>hs (i+1) o ft y (by simpa using a) (by simpa using b));refine⟨by simp only[V.sizes];omega,fun i o' ft hi=>?_⟩
    cases i with
    |zero=>
     simp only[yL,za,zb]at hi;obtain⟨rfl,rfl⟩:=hi;simp[V.offs,V.sizes]
    |succ i=>
     have:=h2 i o' ft (by simpa using hi);simp only[V.offs,List.take_succ_cons,V.sizes]at this ⊢;omega
   ·cases h
  ·cases h
theorem zBA{T:kj}{t:TypeId}{ti:TI}{k:IntKind}(h:qE T t=some ti)(hk:ti.k=.int k):zfX T t=some k:=by
 obtain⟨tk,tc,tz⟩:=ti;simp only at hk;subst hk;simp[zfX,h]
theorem zBY{T:kj}{t:TypeId}{ti:TI}(h:qE T t=some ti)(hk:ti.k=.bool):zeg T t=true:=by
 obtain⟨tk,tc,tz⟩:=ti;simp only at hk;subst hk;simp[zeg,h]
theorem zCo{T:kj}{t:TypeId}{ti:TI}(h:qE T t=some ti)(hk:ti.k=.str):zb0 T t=true:=by
 obtain⟨tk,tc,tz⟩:=ti;simp only at hk;subst hk;simp[zb0,h]
theorem zBM{T:kj}{t e:TypeId}{ti:TI}(h:qE T t=some ti)(hk:ti.k=.slc e):ZU T t=some e:=by
 obtain⟨tk,tc,tz⟩:=ti;simp only at hk;subst hk;simp[ZU,h]
theorem zyb{T:kj}{t:TypeId}{ti:TI}{fs:List (Nat×TypeId)}(h:qE T t=some ti)(hk:ti.k=.agg fs):Qu T t=some fs:=by
 obtain⟨tk,tc,tz⟩:=ti;simp only at hk;subst hk;simp[Qu,h]
theorem Wt.size(hT:TabOk P T){t:TypeId}{x:V}(h:Wt T t x):x.size=kK T t/\x.owned=false:=by
 induction h with
 |int t ti k n h hk hn=>
  have hc:=hT.c h;simp only[ZV,hk,decide_eq_true_eq]at hc;exact⟨by simp[V.size,kK,h,hc],rfl⟩
 |bool t ti b h hk=>
  have hc:=hT.c h;simp only[ZV,hk,decide_eq_true_eq]at hc;exact⟨by simp[V.size,kK,h,hc],rfl⟩
 |str t ti s h hk hs=>
  have hc:=hT.c h;simp only[ZV,hk,decide_eq_true_eq]at hc;exact⟨by simp[V.size,kK,h,hc],rfl⟩
 |slc t ti e es h hk hl he ih=>
  have hc:=hT.c h;simp only[ZV,hk,zh,decide_eq_true_eq]at hc;exact⟨by simp[V.size,kK,h,hc.1],rfl⟩
 |agg t ti fts fs h hk hl he ih=>
  have hc:=hT.c h;simp only[ZV,hk,decide_eq_true_eq]at hc;obtain⟨h1,_⟩:=zok fts 0 ti.cells fs hc hl (fun i o ft y a b=>(ih i o ft y a b).1);refine⟨by simp only[V.size,kK,h];omega,?_⟩;simp only[V.owned,V.owneds_eq,List.any_eq_false];intro y hy;obtain⟨i,hi⟩:=List.getElem?_of_mem hy
  have hil:i<fts.length:=by
   have:=(zk.1 hi).1;omega
  rw[(ih i (fts[i]'hil).1 (fts[i]'hil).2 y (zg hil) hi).2];simp
section
variable {H:Type}{enc:TypeId×Value->H}{w:World}{base:Nat}{spare:Nat->Bool}{held:Bool}
theorem zAc{w:World}{base:Nat}{a:Addr}{n:Nat}{cs:List Value}(h:w.cells? base a n=some cs)(hs:a.spot=none):cs.length=n/\qo w a.block a.off cs:=by
 obtain⟨_,h1,h2⟩:=World.cells?_some h;refine⟨h1,fun j v hj=>?_⟩
 have hjn:j<n:=by
  have:=(zk.1 hj).1;omega
 rw[<-hj,<-h2 j hjn];congr 1;unfold Addr.add;split
 ·rename_i h0;subst h0;cases a;simp_all
 ·rfl
theorem zA7(hT:TabOk P T):∀(fuel:Nat) (t:TypeId) (ti:TI) (cs:List Value) (x:DataW H×List MemPlace),qE T t=some ti->ti.k≠.oth->
 (∀t ti,qE T t=some ti->ti.k≠.oth)->
 DataW.trod enc P w base spare held fuel t cs=some x->∃y,Wt T t y/\Rep P.cellsOf w (fun b=>b<w.heap.size) y cs (fun _=>False):=by
 intro fuel
 induction fuel with
 |zero=>intro t ti cs x _ _ _ h;simp[DataW.trod]at h
 |succ fuel ih=>
  intro t ti cs x ht hk hno h;have hg:=hT.got ht
  cases hkk:ti.k with
  |int k=>
   have hu:P.underlying t=some (.int k):=by
    have:Ku P t=some k:=hT.kind (zBA ht hkk);unfold Ku at this;split at this
    ·rename_i heq;simp only[za]at this;rw[heq,this]
    ·cases this
   obtain⟨n,rfl,_,hw⟩:=DataW.trod_int hu h;exact⟨.int k n,.int t ti k n ht hkk hw,.int k n _⟩
  |bool=>
   have hu:P.underlying t=some .bool:=by
    have:zf6 P t=true:=hT.bool (zBY ht hkk);unfold zf6 at this;split at this
    ·rename_i heq;exact heq
    ·cases this
   obtain⟨b,rfl,_⟩:=DataW.trod_bool hu h;exact⟨.bool b,.bool t ti b ht hkk,.bool b _⟩
  |str=>
   have hu:P.underlying t=some .string:=by
    have:Jt P t=true:=hT.str (zCo ht hkk);unfold Jt at this;split at this
    ·rename_i heq;exact heq
    ·cases this
   obtain⟨s,rfl,_,hs⟩:=DataW.trod_string hu h;exact⟨.str s,.str t ti s ht hkk hs,.str s _⟩
  |slc e=>
   have hu:P.underlying t=some (.slice e):=by
    have:ku P t=some e:=hT.elem (zBM ht hkk);unfold ku at this;split at this
    ·rename_i heq;simp only[za]at this;rw[heq,this]
    ·cases this
   have hc:=hT.c ht;simp only[ZV,hkk,zh,decide_eq_true_eq]at hc;rcases DataW.trod_slice hu h with⟨rfl,_⟩|⟨a,len,cap,elems,rest,n,hn,rfl,_,hb,hl,hm,hlen,hel,hsA,hsB⟩
   ·exact⟨.slc false e (dZ ti.zero).frz [],.slc t ti e [] ht hkk (Nat.zero_le _) (fun i y h=>by simp at h),.fz0 e _ _ _ _⟩
   ·obtain rfl:n=fuel:=by omega
    cases hte:qE T e with
    |none=>rw[hte]at hc;simp at hc
    |some te=>
     rw[hte]at hc;simp only[decide_eq_true_eq]at hc;have hce:P.cellsOf e=te.cells:=hT.cells hte;by_cases h0:len=0
     ·subst h0;exact⟨.slc false e (dZ ti.zero).frz [],.slc t ti e [] ht hkk (Nat.zero_le _) (fun i y h=>by simp at h),.fz0 e _ _ _ _⟩
     ·have hspot:a.spot=none/\a.block<w.heap.size:=by
       have h1:=hel 0 (by omega);obtain⟨y0,hy0⟩:∃y,elems[0]? =some y:=⟨_,zg (by omega)⟩;rw[hy0,Option.bind_eq_some_iff]at h1;obtain⟨cs',hcs,_⟩:=h1;obtain⟨_,h2,h3⟩:=World.cells?_some hcs;have h4:=h3 0 (by omega);rw[Nat.zero_mul]at h4;have hp:0<cs'.length:=(by omega);rw[zg hp]at h4;have hadd:(a.add 0).add 0=a:=(by simp[Addr.add]);rw[hadd]at h4;unfold World.cell? at h4;split at h4
       ·rename_i heq;refine⟨?_,(yQ.1 heq).1⟩
        cases hsp:a.spot with
        |none=>rfl
        |some s=>simp[hsp]at h4
       ·cases h4
      have each:∀i,i<len->∃y cs',Wt T e y/\Rep P.cellsOf w (fun b=>b<w.heap.size) y cs' (fun _=>False)/\cs'.length=P.cellsOf e/\qo w a.block (a.off+i*P.cellsOf e) cs':=by
       intro i hi;have h1:=hel i hi;obtain⟨y0,hy0⟩:∃y,elems[i]? =some y:=⟨_,zg (by omega)⟩;rw[hy0,Option.bind_eq_some_iff]at h1;obtain⟨cs',hcs,htr⟩:=h1;obtain⟨y,hy1,hy2⟩:=ih e te cs' y0 hte (hno e te hte) hno htr
       have hadd:(a.add (i*P.cellsOf e)).spot=none/\(a.add (i*P.cellsOf e)).block=a.block/\(a.add (i*P.cellsOf e)).off=a.off+i*P.cellsOf e:=by
        unfold Addr.add;split
        ·rename_i h0;exact⟨hspot.1,rfl,by omega⟩
        ·exact⟨rfl,rfl,rfl⟩
       obtain⟨c1,c2⟩:=zAc hcs hadd.1;rw[hadd.2.1,hadd.2.2]at c2;exact⟨y,cs',hy1,hy2,c1,c2⟩
      have:∃(es:List V) (cf:Nat->List Value),es.length=len/\∀i y,es[i]? =some y->Wt T e y/\Rep P.cellsOf w (fun b=>b<w.heap.size) y (cf i) (fun _=>False)/\(cf i).length=P.cellsOf e/\qo w a.block (a.off+i*P.cellsOf e) (cf i):=by
       clear hel hlen hl hm h0 h hsA hsB
       induction len with
       |zero=>exact⟨[],fun _=>[],rfl,fun i y h=>by simp at h⟩
       |succ len ihl=>
        obtain⟨es,cf,e1,e2⟩:=ihl (fun i hi=>each i (by omega));obtain⟨y,cs',q1,q2,q3,q4⟩:=each len (by omega);refine⟨es++[y],fun i=>if i=len then cs' else cf i,by simp[e1],fun i z hz=>?_⟩;by_cases hi:i<es.length
        ·rw[yj hi]at hz;simp only[if_neg (show ¬i=len by omega)];exact e2 i z hz
        ·rw[ye (by omega)]at hz;have hil:=(zk.1 hz).1;simp only[zi,List.length_nil]at hil;obtain rfl:i=len:=(by omega);have:i-es.length=0:=(by omega);rw[this]at hz;simp only[yL,za]at hz;subst hz;simp only[if_true];exact⟨q1,q2,q3,q4⟩
      obtain⟨es,cf,e1,e2⟩:=this;have ha:(some a)=some ⟨a.block,a.off,none⟩:=(by rw[<-hspot.1]);rw[ha]
      exact⟨.slc false e (dZ ti.zero).frz es,.slc t ti e es ht hkk (by omega) (fun i y hi=>(e2 i y hi).1),
       .fz e _ es a.block a.off len cap cf _ e1.symm (by omega) hm hspot.2 (fun i hi=>by
        obtain⟨y,hy⟩:∃y,es[i]? =some y:=⟨_,zg hi⟩
        exact⟨(e2 i y hy).2.2.1,(e2 i y hy).2.2.2⟩) (fun i y hi=>(e2 i y hi).2.1)⟩
  |agg fts=>
   have hf:zcD P t=some fts:=hT.fields (zyb ht hkk)
   have hu:∃fs:Array Field,P.underlying t=some (.struct fs)/\fts=fs.toList.map fun x=>(x.offset,x.type):=by
    unfold zcD at hf;split at hf
    ·rename_i fs heq;simp only[za]at hf;exact⟨fs,heq,hf.symm⟩
    ·cases hf
   obtain⟨fa,hu,rfl⟩:=hu;have hc:=hT.c ht;simp only[ZV,hkk,decide_eq_true_eq]at hc;obtain⟨xs,n,hn,_,hcl,hxl,hxs⟩:=DataW.trod_struct hu h;obtain rfl:n=fuel:=by omega
   have hmem:∀(i o:Nat) (ft:TypeId),(fa.toList.map fun x=>(x.offset,x.type))[i]? =some (o,ft)->∃te,qE T ft=some te:=by
    intro i o ft hi
    have key:∀(l:List (Nat×TypeId)) (n m:Nat),za0 T l n=some m->∀(i:Nat) (o:Nat) (ft:TypeId),l[i]? =some (o,ft)->∃te,qE T ft=some te:=by
     intro l
     induction l with
     |nil=>intro n m _ i o ft h;simp at h
     |cons z l ihl=>
      intro n m hh i o ft hz;obtain⟨o',t'⟩:=z;simp only[za0]at hh;split at hh
      ·rename_i te hte;split at hh
       ·cases i with
        |zero=>
         simp only[yL,za,zb]at hz;obtain⟨rfl,rfl⟩:=hz;exact⟨te,hte⟩
        |succ i=>exact ihl _ _ hh i o ft (by simpa using hz)
       ·cases hh
      ·cases hh
    exact key _ _ _ hc i o ft hi
   have each:∀(i:Nat) (f:Field),fa[i]? =some f->∃y,Wt T f.type y/\Rep P.cellsOf w (fun b=>b<w.heap.size) y ((cs.drop f.offset).take (P.cellsOf f.type)) (fun _=>False):=by
    intro i f hi;have h1:=hxs i f hi
    have hil:i<xs.length:=by
     have:=(yQ.1 hi).1;omega
    rw[zg hil]at h1;obtain⟨te,hte⟩:=hmem i f.offset f.type (by rw[zN,qR,hi];rfl);exact ih f.type te _ _ hte (hno _ _ hte) hno h1
   have:∃ys:List V,ys.length=fa.size/\∀(i:Nat) (f:Field) (y:V),fa[i]? =some f->ys[i]? =some y->Wt T f.type y/\Rep P.cellsOf w (fun b=>b<w.heap.size) y ((cs.drop f.offset).take (P.cellsOf f.type)) (fun _=>False):=by
    have key:∀m,m<=fa.size->∃ys:List V,ys.length=m/\∀(i:Nat) (f:Field) (y:V),fa[i]? =some f->ys[i]? =some y->Wt T f.type y/\Rep P.cellsOf w (fun b=>b<w.heap.size) y ((cs.drop f.offset).take (P.cellsOf f.type)) (fun _=>False):=by
     intro m
     induction m with
     |zero=>intro _;exact⟨[],rfl,fun i f y _ h=>by simp at h⟩
     |succ m ihm=>
      intro hm;obtain⟨ys,e1,e2⟩:=ihm (by omega);obtain⟨y,q1,q2⟩:=each m (fa[m]'(by omega)) (yW (by omega));refine⟨ys++[y],by simp[e1],fun i f z hf hz=>?_⟩;by_cases hi:i<ys.length
      ·rw[yj hi]at hz;exact e2 i f z hf hz
      ·rw[ye (by omega)]at hz;have hil:=(zk.1 hz).1;simp only[zi,List.length_nil]at hil;obtain rfl:i=m:=(by omega);have:i-ys.length=0:=(by omega);rw[this]at hz;simp only[yL,za]at hz;subst hz;rw[yW (by omega)]at hf;simp only[za]at hf;subst hf;exact⟨q1,q2⟩
    exact key fa.size (zt _)
   obtain⟨ys,e1,e2⟩:=this
   have hw:∀(i:Nat) (o:Nat) (ft:TypeId) (y:V),(fa.toList.map fun x=>(x.offset,x.type))[i]? =some (o,ft)->ys[i]? =some y->Wt T ft y:=by
    intro i o ft y hi hy;rw[zN,qR]at hi
    cases hfi:fa[i]? with
    |none=>rw[hfi]at hi;cases hi
    |some f=>
     rw[hfi]at hi;simp only[Option.map_some,za,zb]at hi;obtain⟨rfl,rfl⟩:=hi;exact(e2 i f y hfi hy).1
   have hwt:Wt T t (.agg ys):=.agg t ti _ ys ht hkk (by simp[e1]) hw;obtain⟨o1,o2⟩:=zok _ 0 ti.cells ys hc (by simp[e1]) (fun i o ft y a b=>((hw i o ft y a b).size hT).1);refine⟨.agg ys,hwt,.agg ys cs (fun _ _=>False) _ ?_ (fun _ _ h=>h) (fun _ _ _ _ h=>h.elim) (fun i y hy=>?_)⟩
   ·rw[hcl,hT.cells ht];omega
   ·have hif:i<fa.size:=by
     have:=(zk.1 hy).1;omega
    obtain⟨w1,w2⟩:=e2 i fa[i] y (yW hif) hy;have hoff:=o2 i fa[i].offset fa[i].type (by rw[zN,qR,yW hif];rfl);rw[jh]at hoff
    have hsz:y.size=P.cellsOf fa[i].type:=by
     rw[(w1.size hT).1];obtain⟨te,hte⟩:=hmem i fa[i].offset fa[i].type (by rw[zN,qR,yW hif];rfl);rw[hT.cells hte];simp[kK,hte]
    rw[<-hoff,hsz];exact w2
  |oth=>exact absurd hkk hk
theorem zCu{t:TypeId}{ti:TI}{r:Reach}{b0:Nat}{v:Value}{y:V}(hT:TabOk P T)(ht:qE T t=some ti)(hv:Value.okWide P w r b0 t v)(hy:Wt T t y):y.reg v.cells.toList v:=by
 have hnagg:zcC ti.k=false->v.cells.toList=[v]:=by
  intro hk;have hag:=hT.agg ht;rw[hk]at hag
  have hcell:∀w' r' b',Cell.okWide P w' r' b' t v->v.cells.toList=[v]:=by
   intro w' r' b' hc;unfold Cell.okWide at hc
   split at hc<;>first|rfl|skip
   unfold Cell.ok at hc
   split at hc<;>first|rfl|exact hc.elim
  unfold Value.okWide at hv;unfold zgt at hag;split at hv
  ·rename_i heq;rw[heq]at hag;simp at hag
  ·rename_i heq;rw[heq]at hag;simp at hag
  ·exact hcell _ _ _ hv
 cases hy with
 |int _ ti' k n h hk hn=>rw[ht]at h;cases h;rw[hnagg (by rw[hk];rfl)];rfl
 |bool _ ti' b h hk=>rw[ht]at h;cases h;rw[hnagg (by rw[hk];rfl)];rfl
 |str _ ti' s' h hk hs=>rw[ht]at h;cases h;rw[hnagg (by rw[hk];rfl)];rfl
 |slc _ ti' e es h hk hl he=>rw[ht]at h;cases h;rw[hnagg (by rw[hk];rfl)];rfl
 |agg _ ti' fts fs h hk hl he=>
  rw[ht]at h;cases h;have hag:=hT.agg ht;rw[hk]at hag;unfold zgt at hag;unfold Value.okWide at hv;split at hv
  ·obtain⟨cs,rfl,_⟩:=hv;simp[V.reg,Value.cells]
  ·obtain⟨cs,rfl,_⟩:=hv;simp[V.reg,Value.cells]
  ·rename_i h1 h2;split at hag
   ·rename_i heq;exact(h1 _ heq).elim
   ·rename_i heq;exact(h2 _ _ heq).elim
   ·simp[zcC]at hag
   ·cases hag
end
end
section
variable {H:Type}{enc:TypeId×Value->H}{P:Program}{T:kj}
theorem zgz:∀{ts:List TypeId} {vs:List Value} {ds:List (DataW H)} {ps:List MemPlace} {w:World} {b:Nat} {sp:Nat->Bool} {hd:Bool},DataW.TrodAll enc P w b sp hd ts vs ds ps->vs.length=ts.length/\ds.length=ts.length
 |[],[],[],_,_,_,_,_,_=>⟨rfl,rfl⟩
 |_::ts,_::vs,_::ds,_,_,_,_,_,h=>by
  obtain⟨p,q,_,h2,_⟩:=h;obtain⟨a,b⟩:=zgz h2;exact⟨by simp[a],by simp[b]⟩
 |[],_::_,_,_,_,_,_,_,h=>h.elim
 |[],[],_::_,_,_,_,_,_,h=>h.elim
 |_::_,[],_,_,_,_,_,_,h=>h.elim
 |_::_,_::_,[],_,_,_,_,_,h=>h.elim
theorem ziw(hT:TabOk P T)(hno:∀t ti,qE T t=some ti->ti.k≠.oth){W:World}{r:Reach}{b0:Nat}:∀{ts:List TypeId} {vs:List Value} {ds:List (DataW H)} {ps:List MemPlace} {b:Nat} {sp:Nat->Bool} {hd:Bool},
 DataW.TrodAll enc P W b sp hd ts vs ds ps->(∀t∈ts,(qE T t).isSome=true)->(∀(j:Nat) (t:TypeId) (v:Value),ts[j]? =some t->vs[j]? =some v->Value.okWide P W r b0 t v)->
 ∃xs:List V,xs.length=ts.length/\(∀(j:Nat) (t:TypeId) (x:V),ts[j]? =some t->xs[j]? =some x->Wt T t x)/\
  ∀(j:Nat) (x:V) (v:Value),xs[j]? =some x->vs[j]? =some v->x.reg v.cells.toList v/\Rep P.cellsOf W (fun b=>b<W.heap.size) x v.cells.toList (fun _=>False)
 |[],[],[],_,_,_,_,_,_,_=>⟨[],rfl,fun j t x h=>by simp at h,fun j x v h=>by simp at h⟩
 |t::ts,v::vs,d::ds,_,_,_,_,h,ht,hv=>by
  obtain⟨p,q,⟨fuel,h1⟩,h2,_⟩:=h;obtain⟨xs,e1,e2,e3⟩:=ziw hT hno h2 (fun t ht'=>ht t (zx _ ht')) (fun j t v a b=>hv (j+1) t v (by simpa using a) (by simpa using b));obtain⟨ti,hti⟩:=Option.isSome_iff_exists.1 (ht t (by simp));obtain⟨y,y1,y2⟩:=zA7 hT fuel t ti _ _ hti (hno _ _ hti) hno h1;refine⟨y::xs,by simp[e1],fun j t' x a b=>?_,fun j x v' a b=>?_⟩
  ·cases j with
   |zero=>
    simp only[yL,za]at a b;subst a;subst b;exact y1
   |succ j=>exact e2 j t' x (by simpa using a) (by simpa using b)
  ·cases j with
   |zero=>
    simp only[yL,za]at a b;subst a;subst b;exact⟨zCu hT hti (hv 0 t v rfl rfl) y1,y2⟩
   |succ j=>exact e3 j x v' (by simpa using a) (by simpa using b)
 |[],_::_,_,_,_,_,_,h,_,_=>h.elim
 |[],[],_::_,_,_,_,_,h,_,_=>h.elim
 |_::_,[],_,_,_,_,_,h,_,_=>h.elim
 |_::_,_::_,[],_,_,_,_,h,_,_=>h.elim
theorem zic(hl:laidOutB P=true){W W':World}(hb:Below W.heap.size W W'):∀{ts:List TypeId} {vs:List Value} {ds:List (DataW H)} {ps:List MemPlace},
 (∀t∈ts,P.readableRec t=true/\t<P.types.size)->DataW.TrodAll enc P W 0 (fun _=>true) true ts vs ds ps->(∀x∈ps,x.block<W.heap.size)->
 DataW.TrodAll enc P W' 0 (fun b=>decide (b<W.heap.size)) true ts vs ds ps
 |[],[],[],_,_,h,_=>h
 |t::ts,v::vs,d::ds,_,ht,h,hlt=>by
  obtain⟨p,q,h1,h2,rfl⟩:=h
  exact⟨p,q,Below.trod hl (ht t (by simp)).1 (ht t (by simp)).2 h1 hb (fun x hx=>hlt x (List.mem_append_left _ hx)),
   zic hl hb (fun t ht'=>ht t (zx _ ht')) h2 (fun x hx=>hlt x (List.mem_append_right _ hx)),rfl⟩
 |[],_::_,_,_,_,h,_=>h.elim
 |[],[],_::_,_,_,h,_=>h.elim
 |_::_,[],_,_,_,h,_=>h.elim
 |_::_,_::_,[],_,_,h,_=>h.elim
theorem zx0{f:Func}{k:FuncId}{s:ChangeSpec}(hl:laidOutB P=true)(hT:TabOk P T)(hno:∀t ti,qE T t=some ti->ti.k≠.oth)
 (hps:∀t∈f.params.toList,(qE T t).isSome=true/\P.readableRec t=true/\t<P.types.size) (tb:TypeId) (hres:f.resultTypes= #[tb]) (htb:P.underlying tb=some .bool)
 (hvars:s.vars=[]) (hfn:∀ds:List (DataW H),ds.length=f.params.size->s.fn H ds={results:=[.lit (.bool true)],args:=ds})
 (hok:∀xs:List V,xs.length=f.params.size->(∀(j:Nat) (t:TypeId) (x:V),f.params[j]? =some t->xs[j]? =some x->Wt T t x)->zmd P k xs (.bool true))
 {W:World} {base:Nat} {args:Array Value} {ds gs:List (DataW H)} {before:List MemPlace}
 (hval:∀(j:Nat) (t:TypeId) (v:Value),f.params[j]? =some t->args[j]? =some v->Value.okWide P W .any base t v)
 (hW:DataW.Whole enc P f.params.toList s.vars false W args.toList ds gs before) (hG:Gl P W (fun b=>b<W.heap.size):=by exact zBE (by kernel_rfl) _ _):
 Calls P k args W (fun e W'=>∃v,e=.returned v/\s.post enc P f false true false false W args v W'):=by
 have hW':=hW;obtain⟨p,q,hA,hV,rfl,hfz,hnd⟩:=hW;rw[hvars]at hV;obtain⟨rfl,rfl⟩:=trodVars_none hV;obtain⟨xs,x1,x2,x3⟩:=ziw hT hno hA (fun t ht=>(hps t ht).1) (fun j t v a b=>hval j t v (by simpa using a) (by simpa using b));have hlen:=zgz hA
 have hsz:args.size=xs.length:=by
  have:=hlen.1;simp only[qu]at this;rw[x1,this,qu]
 have hok':=hok xs (by rw[x1,qu]) (fun j t x a b=>x2 j t x (by simpa using a) b);refine(hok'.2 args W (fun b=>b<W.heap.size) hsz (fun i x hx=>?_) (fun b h=>h) hG).mono ?_
 ·have hi:i<args.size:=by
   have:=(zk.1 hx).1;omega
  have hgi:args.toList[i]? =some (args.getD i undef):=by
   rw[qR,yW hi,zw,yW hi];rfl
  exact⟨_,x3 i x _ hx hgi⟩
 ·rintro e W' ⟨v,cs,On,Fr,he,hreg,hrep,_,_,hbelow⟩
  have hv:v=.bool true:=by
   cases hrep;exact hreg
  subst hv;refine⟨_,he,?_⟩;have hold:∀p'∈p++[],(fun b=>decide (b<W.heap.size)) p'.block=true:=fun p' hp=>by simpa using hW'.lt p' hp
  have hargs:DataW.TrodAll enc P W' 0 (fun b=>decide (b<W.heap.size)) true f.params.toList args.toList ds p:=
   zic hl hbelow.below (fun t ht=>⟨(hps t ht).2.1,(hps t ht).2.2⟩) hA (fun x hx=>hW'.lt x (List.mem_append_left _ hx))
  have hf2:=hfn ds (by rw[hlen.2,qu]);refine⟨ds,[],p++[],[],p,[],hW',?_,?_,?_,World.keptBut_mono (fun p' hp=>hp.elim) (hbelow.below.frame (fun _=>False)),fun h=>(Bool.false_ne_true h).elim⟩
  ·rw[yx,hf2,hres];exact trodAll_mk1 (shut_bool htb true)
  ·rw[yx,hf2];exact hargs
  ·rw[yx,hf2,hvars];exact rfl
end
end Go.Ax
namespace Go.Ax
open Go.RowKit
section
theorem zoo:∀(l:List V),l.length≠0->l=Jv l++[KA l]
 |[],h=>absurd rfl h
 |[x],_=>rfl
 |x::z::l,_=>by
  have:=zoo (z::l) (by simp);simp only[Jv,KA,zV];rw[<-this]
theorem zuX{x y:V}{cs ds:List Value}{v:Value}(h:Sh x y)(hx:x.isHole=false)(h1:x.reg cs v)(l1:cs.length=x.size)(h2:y.reg ds v)(l2:ds.length=y.size):ds=cs:=by
 have one:∀{z:V} {c:List Value},z.isHole=false->(∀fs,z≠.agg fs)->z.reg c v->c.length=z.size->c=[v]:=by
  intro z c hz hna hr hl
  have:z.size=1:=by cases z<;>first|rfl|exact absurd rfl (hna _)|cases hz
  match c,(by omega:c.length=1)with
  |[u],_=>
   have:v=u:=by cases z<;>first|exact hr|exact absurd rfl (hna _)|cases hz
   rw[this]
 by_cases ha:∃fs,x=.agg fs
 ·obtain⟨fs,rfl⟩:=ha;obtain⟨fs',rfl,_⟩:=h.facts.2.2.2.2.1 fs rfl;have e1:v=.agg cs.toArray:=h1;have e2:v=.agg ds.toArray:=h2;rw[e1]at e2;simp only[Value.agg.injEq]at e2;have:=congrArg Array.toList e2;simpa using this.symm
 ·have hy:∀fs,y≠.agg fs:=by
   intro fs hy;subst hy
   cases h with
   |refl=>exact ha ⟨_,rfl⟩
   |scal _ _ _ h'=>simp[V.isScalar]at h'
   |agg es=>exact ha ⟨_,rfl⟩
  have hyh:y.isHole=false:=by
   cases h with
   |refl=>exact hx
   |scal _ _ _ h'=>cases y<;>simp_all [V.isScalar,V.isHole]
   |slc=>rfl
   |agg=>rfl
   |box=>rfl
  rw[one hx (fun fs e=>ha ⟨fs,e⟩) h1 l1,one hyh hy h2 l2]
theorem zos{P:Program}{T:kj}{B:jZ}{Bi:qN}{k:FuncId}{fn:Func}{body:Code}{args:List V}{r y c:V}{ty:TypeId}{n:Nat}(j:Nat)(ks:List Nat)(hf:P.funcs[k]? =some fn)(hb:fn.body=some body)(hn:fn.ntmps=n)(hname:(fn.name== "runtime.NumGoroutine")=false)
 (hl:args.length<=n) (hm:P.follows .mixedOrders=true) (hT:TabOk P T) (hB:YW P B) (hBi:Zt P Bi) (hck:kD T ks (j+1) true body=true) (hnm:zrQ Bi=true) (hj:args[j]? =some (.box ty c)) (hco:c.owned=false) (hsh:Sh (.box ty c) y)
 (h9:Nat.blt j 1000=true) (h:∀(L:Alg) (lp:QZ) (rr yy:V),L=yk T->rr=r->yy=y->JC (uh 0 args)->Kk L T B Bi n ks lp->uX L T lp B Bi n ks body (zzh L T fn.results.toList j rr yy) (uh 0 args)):zfx P k j args r y:=by
 have h9':j<1000:=by simpa [zhZ]using h9
 unfold zfx;rw[Nat.mod_eq_of_lt h9'];refine⟨⟨fn,hf,hname,by rw[hb];rfl⟩,⟨_,hj,hsh,fun h=>absurd h (Nat.not_le.2 h9')⟩,fun yc w F Oj css0 hsz hv hF hOj hG=>?_⟩;have hx0:=(hv j _ hj).2;rw[if_pos rfl]at hx0
 obtain⟨b0,hb0,hrep0,hcs0⟩:∃b0,Oj b0/\Rep P.cellsOf w F (.box ty c) (css0 j) (fun z=>z=b0)/\css0 j=[.pointer (some ⟨b0,0,none⟩)]:=by
  generalize css0 j=cc at hx0
  cases hx0 with
  |box _ _ b cur cs Oc O hb hcs hO hOs hr=>exact⟨b,hO,.box ty c b cur cs (fun _=>False) _ hb hcs rfl (fun x hx=>hx.elim) (hr.unowned hco),rfl⟩
 let OB:Nat->Prop:=fun z=>z=b0
 have hOB:∀b,OB b->b<w.heap.size/\¬F b:=fun b h=>hOj b (by rw[show b=b0 from h];exact hb0);have hjl:j<args.length:=(zk.1 hj).1;refine calls_of_wp hf hb ?_
 let C:Ctx:={P:=P,Φ:=Jq B,w0:=w,X:=OB,F0:=F,nt:=n,Ψ:=psi Bi,lo:=j+1,t0:=yc++Array.replicate (fn.ntmps-yc.size) undef,st:=true}
 have hGC:GlC C:=⟨hG,fun b hb=>⟨hF b hb,fun h=>(hOB b h).2 hb⟩⟩;have hC:Ya C:=zmP (C:=C) hGC rfl hB;have hIO:IOk C:=zmM (C:=C) hGC rfl hBi
 let σ:Env:=fun t=>if t<args.length then⟨true,true,0,.val (args.getD t (.hole 0))⟩else⟨false,true,0,.val (.hole 0)⟩
 have hts:(yc++Array.replicate (fn.ntmps-yc.size) undef).size=n:=by
  simp only[zaJ,Ki];omega
 have hgl:∀t,t<args.length->(yc++Array.replicate (fn.ntmps-yc.size) undef).getD t undef=yc.getD t undef:=by
  intro t ht;simp only[zw];rw[uI (by omega)]
 have hgr:∀t,¬t<args.length->(yc++Array.replicate (fn.ntmps-yc.size) undef).getD t undef=undef:=by
  intro t ht;simp only[zw];rw[uC (by omega)];by_cases h:t-yc.size<fn.ntmps-yc.size
  ·simp[h]
  ·simp[h]
 have hA:Agr (uh 0 args) σ:=by
  refine⟨fun t g a h=>?_,fun t h=>?_⟩
  ·obtain⟨j,x,e1,e2,e3,e4⟩:=zfd _ _ _ _ _ h;subst e3;subst e4;simp only[jh]at e1;subst e1;have hlt:t<args.length:=(zk.1 e2).1;simp only[σ,if_pos hlt,gb,vz,je e2];exact⟨trivial,trivial,fun _=>trivial⟩
  ·by_cases hlt:t<args.length
   ·exact absurd (by have:=zeN args 0 t _ (yr (.hole 0) hlt);simpa using this) (h (none,.val (args.getD t (.hole 0))))
   ·simp[σ,hlt,E.owner]
 have hI:Inv C F (fun t=>if t=j then OB else fun _=>False) (fun _=>False) σ {tmps:=yc++Array.replicate (fn.ntmps-yc.size) undef,defers:=[]} w:=by
  have hO:∀s b,(if s=j then OB else fun _=>False) b->s=j/\OB b:=by
   intro s b hb;split at hb
   ·rename_i e;exact⟨e,hb⟩
   ·exact hb.elim
  refine⟨fun t hg=>?_,fun s t b hst hb hb'=>hst ((hO s b hb).1.trans (hO t b hb').1.symm),fun s b hb=>(hOB b (hO s b hb).2).2,fun _ _ _ h=>h,fun _ h=>h.elim,fun s b hb=>(hOB b (hO s b hb).2).1,fun _ h=>h.elim,hF,fun s b hb=>.inr (hO s b hb).2,fun _ h=>h.elim,fun _ h=>h,fun _ h=>.inl h,fun _ _ _=>rfl,zt _,rfl,rfl,Jm.refl _,rfl,fun t s ver hr=>?_,fun t hg hu=>?_,hts,fun _ _=>rfl,fun _ _ _ _ _ _ h=>h⟩
  ·have hlt:t<args.length:=by
    by_cases hlt:t<args.length
    ·exact hlt
    ·simp[σ,hlt]at hg
   refine⟨by rw[hts];omega,fun x hx=>?_,fun hn=>absurd (by simp only[σ,if_pos hlt]) (hn (args.getD t (.hole 0)))⟩;simp only[σ,if_pos hlt,A.val.injEq]at hx;subst hx;rw[hgl t hlt];obtain⟨v1,v2⟩:=hv t _ (yr (.hole 0) hlt);refine⟨_,v1,?_⟩;by_cases ht:t=j
   ·subst ht;rw[if_pos rfl,je hj];exact hrep0
   ·rw[if_neg ht]at v2 ⊢;exact v2
  ·simp only[σ]at hr;split at hr<;>simp[A.refs]at hr
  ·have hlt:¬t<args.length:=by
    intro hlt;simp[σ,hlt]at hg
   exact hgr t hlt
 have hGS:GS C (uh 0 args) {tmps:=yc++Array.replicate (fn.ntmps-yc.size) undef,defers:=[]} w:=⟨σ,hA,F,_,hI⟩;have hw:=zc9 (C:=C) hC hIO hT rfl ⟨rfl,fun _=>hnm⟩ hm (lp:=zgp T ks C) (fun c Q S h1 h2=>h2 h1) body _ _ hck (h (yk T) (zgp T ks C) r y rfl rfl rfl hGS.facts (zm1 hC hIO hT rfl ⟨rfl,fun _=>hnm⟩ hm ks)) _ w hGS;refine Code.wp_mono (fun e a' w' hq=>?_) hw;obtain⟨S',q1,σ',hA',F',O',hI'⟩:=hq
 have fin:(match Yu (yk T) T (fn.results.toList++[.tmp j]) S' with
  |some (ps,l)=>ZA ps (Qf (Jv l)=r/\KA l=y)
  |none=>False)->a'.defers=[]/\∃v,(results fn a'.tmps).run P w'=.ok v w'/\∃(v':Value) (cs:List Value) (On Fr Xn:Nat->Prop),Ending.returned v=.returned v'/\r.reg cs v'/\Rep P.cellsOf w' (fun b=>F b\/Fr b) r cs On/\
   y.reg (css0 j) (yc.getD j undef)/\Rep P.cellsOf w' (fun b=>F b\/Fr b) y (css0 j) Xn/\Chg w w' Oj On Fr Xn (j<1000):=by
  intro hq;split at hq
  ·rename_i ps l hres;rw[Jk]at hq;obtain⟨f2,vf,css,Ons,f1,f3,f4,f5,f6⟩:=zbU (C:=C) hT _ _ _ _ _ _ _ _ _ _ hI' hA' hres hq.1;have hlast:l=Jv l++[KA l]:=zoo l (by rw[f2];simp);obtain⟨hq1,hq2,hq3⟩:=hq;generalize Jv l=l0 at hlast hq2;rw[hq3]at hlast;subst hlast;have hl0:l0.length=fn.results.size:=by simpa using f2
   obtain⟨vs,g0,g1,g2⟩:=zcX (fn:=fn) a'.tmps P w' vf (fun i x hx=>f1 i x (by
    rw[yj (zk.1 hx).1];exact hx))
   refine⟨hI'.defers,_,g2,?_⟩;have hFr:∀b,F' b->F b\/(F' b/\w.heap.size<=b):=fun b hb=>(hI'.ffr b hb).imp id (fun h=>⟨hb,h.resolve_right (fun h=>by cases h.1)⟩);have hsz:vs.size=l0.length:=(by rw[g0,hl0]);obtain⟨y1,y2⟩:=f3 l0.length y (by simp)
   have hvj:vf l0.length=yc.getD j undef:=by
    have:=f1 l0.length (.tmp j) (by rw[ye (by simp[hl0])];simp[hl0]);simp only[ziI,Sem.run_pure,Result.ok.injEq,and_true]at this;rw[<-this,hI'.kp j (Kf j)];exact hgl j hjl
   rw[hvj]at y1;obtain⟨x1,x2⟩:=hv j _ hj;have hcs:css l0.length=css0 j:=zuX hsh rfl x1 x2.length y1 y2.length;rw[hcs]at y1 y2
   have hyb:Ons l0.length b0:=by
    obtain⟨c',rfl⟩:∃c',y=.box ty c':=by
     cases hsh with
     |refl=>exact⟨_,rfl⟩
     |scal _ _ h1 h2=>cases h1
     |box _ _ c' h=>exact⟨c',rfl⟩
    rw[hcs0]at y2
    cases y2 with
    |box _ _ b cur cs Oc O hb hcs hO hOs hr=>exact hO
   have hnew:∀i b,i≠l0.length->Ons i b->w.heap.size<=b/\b<w'.heap.size:=fun i b hi hb=>⟨(f6 i b hb).1.elim id (fun h=>(f5 i _ b hi hb (by rw[show b=b0 from h];exact hyb)).elim),(f6 i b hb).2.1⟩
   have hchg:∀On Fr:Nat->Prop,(∀b,On b->∃i,i≠l0.length/\Ons i b)->(∀b,Fr b->F' b/\w.heap.size<=b)->Chg w w' Oj On Fr (Ons l0.length) (j<1000):=fun On Fr hon hfr=>
    ⟨hI'.size,hI'.os,hI'.tape,hI'.output,fun k hk hx=>hI'.old k hk (fun he=>hx (by rw[show k=b0 from he];exact hb0)),fun b hb=>hb.elim (fun hb=>by obtain⟨i,h1,h2⟩:=hon b hb;exact hnew i b h1 h2) (fun hb=>⟨(hfr b hb).2,hI'.flt b (hfr b hb).1⟩),
     fun b hb=>(f6 _ b hb).1.elim (fun h=>.inr ⟨h,(f6 _ b hb).2.1⟩) (fun h=>.inl (by rw[show b=b0 from h];exact hb0)),fun b hb hf=>by(obtain⟨i,h1,h2⟩:=hon b hb;exact(f6 i b h2).2.2 (hfr b hf).1),
     fun b hb=>⟨fun h=>by(obtain⟨i,h1,h2⟩:=hon b h;exact f5 i _ b h1 h2 hb),fun h=>(f6 _ b hb).2.2 (hfr b h).1⟩,
     fun _ k off u hk hu h0=>by
      by_cases hkb:k=b0
      ·exact hI'.hx rfl k off u hkb hu h0
      ·have:=hI'.old k (hOj k hk).1 hkb;simp only[World.cell?]at h0 ⊢;rw[this]
       exact h0⟩
   by_cases h1:vs.size=1
   ·rw[dif_pos h1]
    have:∃z,l0=[z]:=by
     match l0,(by omega:l0.length=1)with
     |[z],_=>exact⟨z,rfl⟩
    obtain⟨z,rfl⟩:=this;have hr:z=r:=hq2;subst hr;obtain⟨e1,e2⟩:=f3 0 z rfl
    have hv0:vs[0]=vf 0:=by
     rw[<-g1 0 (by omega)];simp[zw,h1]
    exact⟨_,css 0,Ons 0,fun b=>F' b/\w.heap.size<=b,_,rfl,by rw[hv0];exact e1,e2.mono hFr (fun _ h=>h),y1,y2.mono hFr (fun _ h=>h),hchg _ _ (fun b hb=>⟨0,by simp,hb⟩) (fun _ h=>h)⟩
   ·rw[dif_neg h1]
    have hr: .tup l0=r:=by
     have:=hq2;unfold Qf at this;split at this
     ·rename_i x;exact absurd (by simpa using hsz) h1
     ·exact this
    subst hr;refine⟨_,[.tuple vs],fun b=>∃i,i<l0.length/\Ons i b,fun b=>F' b/\w.heap.size<=b,_,rfl,rfl,?_,y1,y2.mono hFr (fun _ h=>h),hchg _ _ (fun b hb=>by obtain⟨i,h1,h2⟩:=hb;exact⟨i,by omega,h2⟩) (fun _ h=>h)⟩;refine .tup l0 vs css (fun i b=>i<l0.length/\Ons i b) _ hsz (fun i b hb=>⟨i,hb.1,hb.2⟩) (fun i j b hne h h2=>f5 i j b hne h.2 h2.2) (fun i x hx=>?_) (fun i x hx=>?_)
    ·have hil:=(zk.1 hx).1;rw[g1 i (by omega)];exact(f3 i x (by rw[yj hil];exact hx)).1
    ·have hil:=(zk.1 hx).1;exact((f3 i x (by rw[yj hil];exact hx)).2).mono hFr (fun _ h=>⟨hil,h⟩)
  ·exact hq.elim
 cases e with
 |normal=>exact fin q1
 |ret=>exact fin q1
 |_=>exact q1.elim
theorem zlG{R:V->Prop}{Qr:ZW}{P:Program}{T:kj}{B:jZ}{Bi:qN}{k:FuncId}{fn:Func}{body:Code}{args:List V}{y c:V}{ty:TypeId}{n:Nat}(j:Nat)(ks:List Nat)(hf:P.funcs[k]? =some fn)(hb:fn.body=some body)(hn:fn.ntmps=n)(hname:(fn.name== "runtime.NumGoroutine")=false)
 (hl:args.length<=n) (hm:P.follows .mixedOrders=true) (hT:TabOk P T) (hB:YW P B) (hBi:Zt P Bi) (hck:kD T ks (j+1) false body=true) (hj:args[j]? =some (.box ty c)) (hco:c.owned=false) (hsh:Sh (.box ty c) y)
 (h9:Nat.blt j 1000=true)
 (hQ:∀e S,Qr e S->(e=.normal\/e=.ret)/\(match Yu (yk T) T (fn.results.toList++[.tmp j]) S with
  |some (ps,l)=>ZA ps (R (Qf (Jv l))/\KA l=y)
  |none=>False))
 (h:∀lp:QZ,JC (uh 0 args)->Kk (yk T) T B Bi n ks lp->uX (yk T) T lp B Bi n ks body Qr (uh 0 args)):
 zbt P k/\(∃x,args[j]? =some x/\Sh x y/\x.bare=true)/\
 ∀(yc:Array Value) (w:World) (F Oj:Nat->Prop) (css:Nat->List Value),yc.size=args.length->
  (∀(i:Nat) (x:V),args[i]? =some x->x.reg (css i) (yc.getD i undef)/\Rep P.cellsOf w F x (css i) (if i=j then Oj else fun _=>False))->
  (∀b,F b->b<w.heap.size)->(∀b,Oj b->b<w.heap.size/\¬F b)->Gl P w F->
  Calls P k yc w (fun e w'=>∃r,R r/\∃(v:Value) (cs:List Value) (On Fr Xn:Nat->Prop),e=.returned v/\r.reg cs v/\Rep P.cellsOf w' (fun b=>F b\/Fr b) r cs On/\
   y.reg (css j) (yc.getD j undef)/\Rep P.cellsOf w' (fun b=>F b\/Fr b) y (css j) Xn/\Chg w w' Oj On Fr Xn (1000+j<1000)):=by
 refine⟨⟨fn,hf,hname,by rw[hb];rfl⟩,⟨_,hj,hsh,by simp[V.bare,hco]⟩,fun yc w F Oj css0 hsz hv hF hOj hG=>?_⟩;have hx0:=(hv j _ hj).2;rw[if_pos rfl]at hx0
 obtain⟨b0,hb0,hrep0,hcs0⟩:∃b0,Oj b0/\Rep P.cellsOf w F (.box ty c) (css0 j) (fun z=>z=b0)/\css0 j=[.pointer (some ⟨b0,0,none⟩)]:=by
  generalize css0 j=cc at hx0
  cases hx0 with
  |box _ _ b cur cs Oc O hb hcs hO hOs hr=>exact⟨b,hO,.box ty c b cur cs (fun _=>False) _ hb hcs rfl (fun x hx=>hx.elim) (hr.unowned hco),rfl⟩
 let OB:Nat->Prop:=fun z=>z=b0
 have hOB:∀b,OB b->b<w.heap.size/\¬F b:=fun b h=>hOj b (by rw[show b=b0 from h];exact hb0);have hjl:j<args.length:=(zk.1 hj).1;refine calls_of_wp hf hb ?_
 let C:Ctx:={P:=P,Φ:=Jq B,w0:=w,X:=OB,F0:=F,nt:=n,Ψ:=psi Bi,lo:=j+1,t0:=yc++Array.replicate (fn.ntmps-yc.size) undef,st:=false}
 have hGC:GlC C:=⟨hG,fun b hb=>⟨hF b hb,fun h=>(hOB b h).2 hb⟩⟩;have hC:Ya C:=zmP (C:=C) hGC rfl hB;have hIO:IOk C:=zmM (C:=C) hGC rfl hBi
 let σ:Env:=fun t=>if t<args.length then⟨true,true,0,.val (args.getD t (.hole 0))⟩else⟨false,true,0,.val (.hole 0)⟩
 have hts:(yc++Array.replicate (fn.ntmps-yc.size) undef).size=n:=by
  simp only[zaJ,Ki];omega
 have hgl:∀t,t<args.length->(yc++Array.replicate (fn.ntmps-yc.size) undef).getD t undef=yc.getD t undef:=by
  intro t ht;simp only[zw];rw[uI (by omega)]
 have hgr:∀t,¬t<args.length->(yc++Array.replicate (fn.ntmps-yc.size) undef).getD t undef=undef:=by
  intro t ht;simp only[zw];rw[uC (by omega)];by_cases h:t-yc.size<fn.ntmps-yc.size
  ·simp[h]
  ·simp[h]
 have hA:Agr (uh 0 args) σ:=by
  refine⟨fun t g a h=>?_,fun t h=>?_⟩
  ·obtain⟨j,x,e1,e2,e3,e4⟩:=zfd _ _ _ _ _ h;subst e3;subst e4;simp only[jh]at e1;subst e1;have hlt:t<args.length:=(zk.1 e2).1;simp only[σ,if_pos hlt,gb,vz,je e2];exact⟨trivial,trivial,fun _=>trivial⟩
  ·by_cases hlt:t<args.length
   ·exact absurd (by have:=zeN args 0 t _ (yr (.hole 0) hlt);simpa using this) (h (none,.val (args.getD t (.hole 0))))
   ·simp[σ,hlt,E.owner]
 have hI:Inv C F (fun t=>if t=j then OB else fun _=>False) (fun _=>False) σ {tmps:=yc++Array.replicate (fn.ntmps-yc.size) undef,defers:=[]} w:=by
  have hO:∀s b,(if s=j then OB else fun _=>False) b->s=j/\OB b:=by
   intro s b hb;split at hb
   ·rename_i e;exact⟨e,hb⟩
   ·exact hb.elim
  refine⟨fun t hg=>?_,fun s t b hst hb hb'=>hst ((hO s b hb).1.trans (hO t b hb').1.symm),fun s b hb=>(hOB b (hO s b hb).2).2,fun _ _ _ h=>h,fun _ h=>h.elim,fun s b hb=>(hOB b (hO s b hb).2).1,fun _ h=>h.elim,hF,fun s b hb=>.inr (hO s b hb).2,fun _ h=>h.elim,fun _ h=>h,fun _ h=>.inl h,fun _ _ _=>rfl,zt _,rfl,rfl,Jm.refl _,rfl,fun t s ver hr=>?_,fun t hg hu=>?_,hts,fun _ _=>rfl,fun h=>by cases h⟩
  ·have hlt:t<args.length:=by
    by_cases hlt:t<args.length
    ·exact hlt
    ·simp[σ,hlt]at hg
   refine⟨by rw[hts];omega,fun x hx=>?_,fun hn=>absurd (by simp only[σ,if_pos hlt]) (hn (args.getD t (.hole 0)))⟩;simp only[σ,if_pos hlt,A.val.injEq]at hx;subst hx;rw[hgl t hlt];obtain⟨v1,v2⟩:=hv t _ (yr (.hole 0) hlt);refine⟨_,v1,?_⟩;by_cases ht:t=j
   ·subst ht;rw[if_pos rfl,je hj];exact hrep0
   ·rw[if_neg ht]at v2 ⊢;exact v2
  ·simp only[σ]at hr;split at hr<;>simp[A.refs]at hr
  ·have hlt:¬t<args.length:=by
    intro hlt;simp[σ,hlt]at hg
   exact hgr t hlt
 have hGS:GS C (uh 0 args) {tmps:=yc++Array.replicate (fn.ntmps-yc.size) undef,defers:=[]} w:=⟨σ,hA,F,_,hI⟩;have hw:=zc9 (C:=C) hC hIO hT rfl ⟨rfl,fun h=>by cases h⟩ hm (lp:=zgp T ks C) (fun c Q S h1 h2=>h2 h1) body _ _ hck (h (zgp T ks C) hGS.facts (zm1 hC hIO hT rfl ⟨rfl,fun h=>by cases h⟩ hm ks)) _ w hGS;refine Code.wp_mono (fun e a' w' hq=>?_) hw;obtain⟨S',q1,σ',hA',F',O',hI'⟩:=hq
 have fin:(match Yu (yk T) T (fn.results.toList++[.tmp j]) S' with
  |some (ps,l)=>ZA ps (R (Qf (Jv l))/\KA l=y)
  |none=>False)->a'.defers=[]/\∃v,(results fn a'.tmps).run P w'=.ok v w'/\∃r,R r/\∃(v':Value) (cs:List Value) (On Fr Xn:Nat->Prop),Ending.returned v=.returned v'/\r.reg cs v'/\Rep P.cellsOf w' (fun b=>F b\/Fr b) r cs On/\
   y.reg (css0 j) (yc.getD j undef)/\Rep P.cellsOf w' (fun b=>F b\/Fr b) y (css0 j) Xn/\Chg w w' Oj On Fr Xn (1000+j<1000):=by
  intro hq;split at hq
  ·rename_i ps l hres;rw[Jk]at hq;obtain⟨f2,vf,css,Ons,f1,f3,f4,f5,f6⟩:=zbU (C:=C) hT _ _ _ _ _ _ _ _ _ _ hI' hA' hres hq.1;have hlast:l=Jv l++[KA l]:=zoo l (by rw[f2];simp);obtain⟨hq1,hq2,hq3⟩:=hq;generalize Jv l=l0 at hlast hq2;rw[hq3]at hlast;subst hlast;have hl0:l0.length=fn.results.size:=by simpa using f2
   obtain⟨vs,g0,g1,g2⟩:=zcX (fn:=fn) a'.tmps P w' vf (fun i x hx=>f1 i x (by
    rw[yj (zk.1 hx).1];exact hx))
   refine⟨hI'.defers,_,g2,?_⟩;have hsz:vs.size=l0.length:=(by rw[g0,hl0]);obtain⟨y1,y2⟩:=f3 l0.length y (by simp)
   have hvj:vf l0.length=yc.getD j undef:=by
    have:=f1 l0.length (.tmp j) (by rw[ye (by simp[hl0])];simp[hl0]);simp only[ziI,Sem.run_pure,Result.ok.injEq,and_true]at this;rw[<-this,hI'.kp j (Kf j)];exact hgl j hjl
   rw[hvj]at y1;obtain⟨x1,x2⟩:=hv j _ hj;have hcs:css l0.length=css0 j:=zuX hsh rfl x1 x2.length y1 y2.length;rw[hcs]at y1 y2
   have hyb:Ons l0.length b0:=by
    obtain⟨c',rfl⟩:∃c',y=.box ty c':=by
     cases hsh with
     |refl=>exact⟨_,rfl⟩
     |scal _ _ h1 h2=>cases h1
     |box _ _ c' h=>exact⟨c',rfl⟩
    rw[hcs0]at y2
    cases y2 with
    |box _ _ b cur cs Oc O hb hcs hO hOs hr=>exact hO
   have hFr:∀b,F' b->F b\/(F' b/\w.heap.size<=b):=fun b hb=>(hI'.ffr b hb).imp id (fun h=>⟨hb,h.resolve_right (fun h=>(f6 _ b0 hyb).2.2 (by rw[show b=b0 from h.2]at hb;exact hb))⟩);have hnew:∀i b,i≠l0.length->Ons i b->w.heap.size<=b/\b<w'.heap.size:=fun i b hi hb=>⟨(f6 i b hb).1.elim id (fun h=>(f5 i _ b hi hb (by rw[show b=b0 from h];exact hyb)).elim),(f6 i b hb).2.1⟩
   have hchg:∀On Fr:Nat->Prop,(∀b,On b->∃i,i≠l0.length/\Ons i b)->(∀b,Fr b->F' b/\w.heap.size<=b)->Chg w w' Oj On Fr (Ons l0.length) (1000+j<1000):=fun On Fr hon hfr=>
    ⟨hI'.size,hI'.os,hI'.tape,hI'.output,fun k hk hx=>hI'.old k hk (fun he=>hx (by rw[show k=b0 from he];exact hb0)),fun b hb=>hb.elim (fun hb=>by obtain⟨i,h1,h2⟩:=hon b hb;exact hnew i b h1 h2) (fun hb=>⟨(hfr b hb).2,hI'.flt b (hfr b hb).1⟩),
     fun b hb=>(f6 _ b hb).1.elim (fun h=>.inr ⟨h,(f6 _ b hb).2.1⟩) (fun h=>.inl (by rw[show b=b0 from h];exact hb0)),fun b hb hf=>by(obtain⟨i,h1,h2⟩:=hon b hb;exact(f6 i b h2).2.2 (hfr b hf).1),
     fun b hb=>⟨fun h=>by(obtain⟨i,h1,h2⟩:=hon b h;exact f5 i _ b h1 h2 hb),fun h=>(f6 _ b hb).2.2 (hfr b h).1⟩,
     fun h=>absurd h (by omega)⟩
   by_cases h1:vs.size=1
   ·rw[dif_pos h1]
    have:∃z,l0=[z]:=by
     match l0,(by omega:l0.length=1)with
     |[z],_=>exact⟨z,rfl⟩
    obtain⟨z,rfl⟩:=this;have hr:R z:=hq2;obtain⟨e1,e2⟩:=f3 0 z rfl
    have hv0:vs[0]=vf 0:=by
     rw[<-g1 0 (by omega)];simp[zw,h1]
    exact⟨z,hr,_,css 0,Ons 0,fun b=>F' b/\w.heap.size<=b,_,rfl,by rw[hv0];exact e1,e2.mono hFr (fun _ h=>h),y1,y2.mono hFr (fun _ h=>h),hchg _ _ (fun b hb=>⟨0,by simp,hb⟩) (fun _ h=>h)⟩
   ·rw[dif_neg h1]
    have hr:R (.tup l0):=by
     have:=hq2;unfold Qf at this;split at this
     ·rename_i x;exact absurd (by simpa using hsz) h1
     ·exact this
    refine⟨.tup l0,hr,_,[.tuple vs],fun b=>∃i,i<l0.length/\Ons i b,fun b=>F' b/\w.heap.size<=b,_,rfl,rfl,?_,y1,y2.mono hFr (fun _ h=>h),hchg _ _ (fun b hb=>by obtain⟨i,h1,h2⟩:=hb;exact⟨i,by omega,h2⟩) (fun _ h=>h)⟩;refine .tup l0 vs css (fun i b=>i<l0.length/\Ons i b) _ hsz (fun i b hb=>⟨i,hb.1,hb.2⟩) (fun i j b hne h h2=>f5 i j b hne h.2 h2.2) (fun i x hx=>?_) (fun i x hx=>?_)
    ·have hil:=(zk.1 hx).1;rw[g1 i (by omega)];exact(f3 i x (by rw[yj hil];exact hx)).1
    ·have hil:=(zk.1 hx).1;exact((f3 i x (by rw[yj hil];exact hx)).2).mono hFr (fun _ h=>⟨hil,h⟩)
  ·exact hq.elim
 obtain⟨q0,q2⟩:=hQ _ _ q1;rcases q0 with rfl|rfl
 ·exact fin q2
 ·exact fin q2
theorem zjR{P:Program}{T:kj}{B:jZ}{Bi:qN}{k:FuncId}{fn:Func}{body:Code}{args:List V}{r y c:V}{ty:TypeId}{n:Nat}(j:Nat)(ks:List Nat)(hf:P.funcs[k]? =some fn)(hb:fn.body=some body)(hn:fn.ntmps=n)(hname:(fn.name== "runtime.NumGoroutine")=false)
 (hl:args.length<=n) (hm:P.follows .mixedOrders=true) (hT:TabOk P T) (hB:YW P B) (hBi:Zt P Bi) (hck:kD T ks (j+1) false body=true) (hj:args[j]? =some (.box ty c)) (hco:c.owned=false) (hsh:Sh (.box ty c) y)
 (h9:Nat.blt j 1000=true)
 (h:∀(L:Alg) (lp:QZ) (rr yy:V),L=yk T->rr=r->yy=y->JC (uh 0 args)->Kk L T B Bi n ks lp->uX L T lp B Bi n ks body (zzh L T fn.results.toList j rr yy) (uh 0 args)):zfx P k (1000+j) args r y:=by
 obtain⟨h1,h2,h3⟩:=zlG (R:=fun c=>c=r) (Qr:=zzh (yk T) T fn.results.toList j r y) j ks hf hb hn hname hl hm hT hB hBi hck hj hco hsh h9 (fun e S hq=>by
  cases e with
  |normal=>exact⟨.inl rfl,hq⟩
  |ret=>exact⟨.inr rfl,hq⟩
  |_=>exact hq.elim) (fun lp h1 h2=>h (yk T) lp r y rfl rfl rfl h1 h2)
 obtain⟨x,x1,x2,x3⟩:=h2;have h9':j<1000:=by simpa [zhZ]using h9
 unfold zfx;rw[show(1000+j)%1000=j by omega];refine⟨h1,⟨x,x1,x2,fun _=>x3⟩,fun yc w F Oj css a1 a2 a3 a4 a5=>Calls.mono (h3 yc w F Oj css a1 a2 a3 a4 a5) (fun e w' hq=>?_)⟩;obtain⟨c,rfl,hq⟩:=hq;exact hq
def zqF(L:Alg)(T:kj)(res:List ResultVar)(j:Nat)(r y:V):ZW:=fun e S=>match e with
 | .ret=>match Yu L T (res++[.tmp j]) S with
   |some (ps,l)=>ZA ps (zaF L (Qf (Jv l))=r/\KA l=y)
   |none=>False
 | .normal=>match Yu L T (res++[.tmp j]) S with
   |some (ps,l)=>ZA ps (zaF L (Qf (Jv l))=r/\KA l=y)
   |none=>False
 |_=>False
theorem zBH{P:Program}{T:kj}{B:jZ}{Bi:qN}{k:FuncId}{fn:Func}{body:Code}{args:List V}{r y c:V}{ty:TypeId}{n:Nat}(j:Nat)(ks:List Nat)(hf:P.funcs[k]? =some fn)(hb:fn.body=some body)(hn:fn.ntmps=n)(hname:(fn.name== "runtime.NumGoroutine")=false)
 (hl:args.length<=n) (hm:P.follows .mixedOrders=true) (hT:TabOk P T) (hB:YW P B) (hBi:Zt P Bi) (hck:kD T ks (j+1) false body=true) (hj:args[j]? =some (.box ty c)) (hco:c.owned=false) (hsh:Sh (.box ty c) y)
 (h9:Nat.blt j 1000=true)
 (h:∀(L:Alg) (lp:QZ) (rr yy:V),L=yk T->rr=r->yy=y->JC (uh 0 args)->Kk L T B Bi n ks lp->uX L T lp B Bi n ks body (zqF L T fn.results.toList j rr yy) (uh 0 args)):zfx P k (1000+j) args r y:=by
 obtain⟨h1,h2,h3⟩:=zlG (R:=fun c=>c.frz=r) (Qr:=zqF (yk T) T fn.results.toList j r y) j ks hf hb hn hname hl hm hT hB hBi hck hj hco hsh h9 (fun e S hq=>by
  cases e with
  |normal=>simp only[zqF,Yx]at hq;exact⟨.inl rfl,hq⟩
  |ret=>simp only[zqF,Yx]at hq;exact⟨.inr rfl,hq⟩
  |_=>exact hq.elim) (fun lp h1 h2=>h (yk T) lp r y rfl rfl rfl h1 h2)
 obtain⟨x,x1,x2,x3⟩:=h2;have h9':j<1000:=by simpa [zhZ]using h9
 unfold zfx;rw[show(1000+j)%1000=j by omega];refine⟨h1,⟨x,x1,x2,fun _=>x3⟩,fun yc w F Oj css a1 a2 a3 a4 a5=>Calls.mono (h3 yc w F Oj css a1 a2 a3 a4 a5) (fun e w' hq=>?_)⟩;obtain⟨c,rfl,v,cs,On,Fr,Xn,e1,e2,e3,e4,e5,e6⟩:=hq;refine⟨v,cs,fun _=>False,fun b=>Fr b\/On b,Xn,e1,V.frz_reg e2,e3.frz.mono (fun b hb=>?_) (fun _ h=>h),e4,e5.mono (fun b hb=>hb.imp id .inl) (fun _ h=>h),⟨e6.size,e6.os,e6.tape,e6.output,e6.same,fun b hb=>e6.new b ?_,e6.xn,fun _ h=>h.elim,fun b hb=>⟨fun h=>h,fun h=>h.elim (e6.d2 b hb).2 (e6.d2 b hb).1⟩,e6.hdr⟩⟩
 ·rcases hb with(hb|hb)|hb
  ·exact .inl hb
  ·exact .inr (.inl hb)
  ·exact .inr (.inr hb)
 ·rcases hb with hb|hb|hb
  ·exact hb.elim
  ·exact .inr hb
  ·exact .inl hb
theorem zBF{P:Program}{T:kj}{B:jZ}{Bi:qN}{k:FuncId}{fn:Func}{body:Code}{args:List V}{r:V}{n:Nat}(j:Nat)(ks:List Nat)(hf:P.funcs[k]? =some fn)(hb:fn.body=some body)(hn:fn.ntmps=n)(hname:(fn.name== "runtime.NumGoroutine")=false)
 (hl:args.length<=n) (hm:P.follows .mixedOrders=true) (hT:TabOk P T) (hB:YW P B) (hBi:Zt P Bi) (hck:kD T ks 0 false body=true) (hj:j<args.length)
 (h:∀(L:Alg) (lp:QZ) (rr:V),L=yk T->rr=r->JC (uh 0 args)->Kk L T B Bi n ks lp->uX L T lp B Bi n ks body (zwk L T fn.results.toList rr) (uh 0 args)):zxl P k j args r:=by
 refine⟨⟨fn,hf,hname,by rw[hb];rfl⟩,hj,fun yc w F Oj hsz hv hF hOj hG=>?_⟩;refine calls_of_wp hf hb ?_
 let C:Ctx:={P:=P,Φ:=Jq B,w0:=w,X:=Oj,F0:=F,nt:=n,Ψ:=psi Bi,lo:=0,t0:= #[],st:=false}
 have hGC:GlC C:=⟨hG,fun b hb=>⟨hF b hb,fun h=>(hOj b h).2 hb⟩⟩;have hC:Ya C:=zmP (C:=C) hGC rfl hB;have hIO:IOk C:=zmM (C:=C) hGC rfl hBi
 let σ:Env:=fun t=>if t<args.length then⟨true,true,0,.val (args.getD t (.hole 0))⟩else⟨false,true,0,.val (.hole 0)⟩
 have hts:(yc++Array.replicate (fn.ntmps-yc.size) undef).size=n:=by
  simp only[zaJ,Ki];omega
 have hgl:∀t,t<args.length->(yc++Array.replicate (fn.ntmps-yc.size) undef).getD t undef=yc.getD t undef:=by
  intro t ht;simp only[zw];rw[uI (by omega)]
 have hgr:∀t,¬t<args.length->(yc++Array.replicate (fn.ntmps-yc.size) undef).getD t undef=undef:=by
  intro t ht;simp only[zw];rw[uC (by omega)];by_cases h:t-yc.size<fn.ntmps-yc.size
  ·simp[h]
  ·simp[h]
 have hA:Agr (uh 0 args) σ:=by
  refine⟨fun t g a h=>?_,fun t h=>?_⟩
  ·obtain⟨j,x,e1,e2,e3,e4⟩:=zfd _ _ _ _ _ h;subst e3;subst e4;simp only[jh]at e1;subst e1;have hlt:t<args.length:=(zk.1 e2).1;simp only[σ,if_pos hlt,gb,vz,je e2];exact⟨trivial,trivial,fun _=>trivial⟩
  ·by_cases hlt:t<args.length
   ·exact absurd (by have:=zeN args 0 t _ (yr (.hole 0) hlt);simpa using this) (h (none,.val (args.getD t (.hole 0))))
   ·simp[σ,hlt,E.owner]
 have hI:Inv C F (fun t=>if t=j then Oj else fun _=>False) (fun _=>False) σ {tmps:=yc++Array.replicate (fn.ntmps-yc.size) undef,defers:=[]} w:=by
  have hO:∀s b,(if s=j then Oj else fun _=>False) b->s=j/\Oj b:=by
   intro s b hb;split at hb
   ·rename_i e;exact⟨e,hb⟩
   ·exact hb.elim
  refine⟨fun t hg=>?_,fun s t b hst hb hb'=>hst ((hO s b hb).1.trans (hO t b hb').1.symm),fun s b hb=>(hOj b (hO s b hb).2).2,fun _ _ _ h=>h,fun _ h=>h.elim,fun s b hb=>(hOj b (hO s b hb).2).1,fun _ h=>h.elim,hF,fun s b hb=>.inr (hO s b hb).2,fun _ h=>h.elim,fun _ h=>h,fun _ h=>.inl h,fun _ _ _=>rfl,zt _,rfl,rfl,Jm.refl _,rfl,fun t s ver hr=>?_,fun t hg hu=>?_,hts,fun _ h=>absurd h (zgc _),fun h=>by cases h⟩
  ·have hlt:t<args.length:=by
    by_cases hlt:t<args.length
    ·exact hlt
    ·simp[σ,hlt]at hg
   refine⟨by rw[hts];omega,fun x hx=>?_,fun hn=>absurd (by simp only[σ,if_pos hlt]) (hn (args.getD t (.hole 0)))⟩;simp only[σ,if_pos hlt,A.val.injEq]at hx;subst hx;rw[hgl t hlt];obtain⟨v1,v2,v3⟩:=hv t _ (yr (.hole 0) hlt);exact⟨v1,v2,v3⟩
  ·simp only[σ]at hr;split at hr<;>simp[A.refs]at hr
  ·have hlt:¬t<args.length:=by
    intro hlt;simp[σ,hlt]at hg
   exact hgr t hlt
 have hGS:GS C (uh 0 args) {tmps:=yc++Array.replicate (fn.ntmps-yc.size) undef,defers:=[]} w:=⟨σ,hA,F,_,hI⟩;have hw:=zc9 (C:=C) hC hIO hT rfl ⟨rfl,fun h=>by cases h⟩ hm (lp:=zgp T ks C) (fun c Q S h1 h2=>h2 h1) body _ _ hck (h (yk T) (zgp T ks C) r rfl rfl hGS.facts (zm1 hC hIO hT rfl ⟨rfl,fun h=>by cases h⟩ hm ks)) _ w hGS;refine Code.wp_mono (fun e a' w' hq=>?_) hw;obtain⟨S',q1,σ',hA',F',O',hI'⟩:=hq
 have fin:(match Yu (yk T) T fn.results.toList S' with
  |some (ps,l)=>ZA ps (Qf l=r)
  |none=>False)->a'.defers=[]/\∃v,(results fn a'.tmps).run P w'=.ok v w'/\∃(v':Value) (cs:List Value) (On Fr:Nat->Prop),Ending.returned v=.returned v'/\r.reg cs v'/\Rep P.cellsOf w' (fun b=>F b\/Fr b) r cs On/\(∀b,On b\/Fr b->Oj b\/(w.heap.size<=b/\b<w'.heap.size))/\(∀b,On b->¬Fr b)/\
  w.heap.size<=w'.heap.size/\w'.os=w.os/\w'.tape=w.tape/\Jm w w'/\(∀k,k<w.heap.size->¬Oj k->w'.heap[k]? =w.heap[k]?):=by
  intro hq;split at hq
  ·rename_i ps l hres;rw[Jk]at hq;obtain⟨f2,vf,css,Ons,f1,f3,f4,f5,f6⟩:=zbU (C:=C) hT _ _ _ _ _ _ _ _ _ _ hI' hA' hres hq.1;obtain⟨vs,g0,g1,g2⟩:=zcX (fn:=fn) a'.tmps P w' vf f1;refine⟨hI'.defers,_,g2,?_⟩;have hFr:∀b,F' b->F b\/(F' b/\(Oj b\/w.heap.size<=b)):=fun b hb=>(hI'.ffr b hb).imp id (fun h=>⟨hb,h.elim .inr (fun h=>.inl h.2)⟩);have hOn:∀i b,Ons i b->(Oj b\/(w.heap.size<=b/\b<w'.heap.size))/\¬F' b:=fun i b hb=>⟨(f6 i b hb).1.elim (fun h=>.inr ⟨h,(f6 i b hb).2.1⟩) .inl,(f6 i b hb).2.2⟩;have hFn:∀b,F' b/\(Oj b\/w.heap.size<=b)->Oj b\/(w.heap.size<=b/\b<w'.heap.size):=fun b hb=>hb.2.imp id (fun h=>⟨h,hI'.flt b hb.1⟩)
   have hsz:vs.size=l.length:=by
    rw[g0,f2,qu]
   by_cases h1:vs.size=1
   ·rw[dif_pos h1]
    have:∃y,l=[y]:=by
     match l,(by omega:l.length=1)with
     |[y],_=>exact⟨y,rfl⟩
    obtain⟨y,rfl⟩:=this;have hr:y=r:=hq.2;subst hr;obtain⟨e1,e2⟩:=f3 0 y rfl
    have hv0:vs[0]=vf 0:=by
     rw[<-g1 0 (by omega)];simp[zw,h1]
    refine⟨_,css 0,Ons 0,fun b=>F' b/\(Oj b\/w.heap.size<=b),rfl,by rw[hv0];exact e1,e2.mono hFr (fun _ h=>h),fun b hb=>?_,fun b hb hf=>(hOn 0 b hb).2 hf.1,hI'.size,hI'.os,hI'.tape,hI'.output,fun k hk hn=>hI'.old k hk hn⟩;rcases hb with hb|hb
    ·exact(hOn 0 b hb).1
    ·exact hFn b hb
   ·rw[dif_neg h1]
    have hr: .tup l=r:=by
     have:=hq.2;unfold Qf at this;split at this
     ·rename_i x;exact absurd (by simpa using hsz) h1
     ·exact this
    subst hr;refine⟨_,[.tuple vs],fun b=>∃i,Ons i b,fun b=>F' b/\(Oj b\/w.heap.size<=b),rfl,rfl,?_,fun b hb=>?_,fun b hb hf=>?_,hI'.size,hI'.os,hI'.tape,hI'.output,fun k hk hn=>hI'.old k hk hn⟩
    ·refine .tup l vs css Ons _ hsz (fun i b hb=>⟨i,hb⟩) f5 (fun i x hx=>?_) (fun i x hx=>((f3 i x hx).2).mono hFr (fun _ h=>h));have hil:=(zk.1 hx).1;rw[g1 i (by omega)];exact(f3 i x hx).1
    ·rcases hb with⟨i,hb⟩|hb
     ·exact(hOn i b hb).1
     ·exact hFn b hb
    ·obtain⟨i,hb⟩:=hb;exact(hOn i b hb).2 hf.1
  ·exact hq.elim
 cases e with
 |normal=>exact fin q1
 |ret=>exact fin q1
 |_=>exact q1.elim
end
end Go.Ax
namespace Go.Ax
def gP:V->V
 | .agg (.slc true e d es::l)=>.agg (.slc true e d.frz (V.frzs es)::l)
 |x=>x
def gT:V->V
 | .tup (x::l)=>.tup (gP x::l)
 |x=>gP x
def gPL(L:Alg):V->V
 | .agg (.slc true e d es::l)=>.agg (.slc true e d.frz (L.frz es)::l)
 |x=>x
def gTL(L:Alg):V->V
 | .tup (x::l)=>.tup (gPL L x::l)
 |x=>gPL L x
theorem zvj(T:kj)(x:V):gPL (yk T) x=gP x:=by unfold gPL gP;split<;>rfl
theorem zjQ(T:kj)(x:V):gTL (yk T) x=gT x:=by
 unfold gTL gT;split
 ·simp only[zvj]
 ·exact zvj T _
theorem zya(d:V):d.frz.isBox=false:=by cases d<;>simp[V.frz,V.isBox]
theorem zx9{x:V}{cs:List Value}{v:Value}(h:x.reg cs v):(gP x).reg cs v:=by
 unfold gP;split
 ·exact h
 ·exact h
theorem zlD(es:List V):(V.frzs es).length=es.length:=by rw[V.frzs_eq,List.length_map]
section
variable {cz:TypeId->Nat}{w:World}{F:Nat->Prop}{x:V}{cs:List Value}{O:Nat->Prop}
theorem Rep.frz1{e:TypeId}{d:V}{es:List V}(h:Rep cz w F (.slc true e d es) cs O)(d':V)(hd:d'.isBox=false):
 ∃O1:Nat->Prop,(∀b,O1 b->O b)/\Rep cz w (fun b=>F b\/O b/\¬O1 b) (.slc true e d' (V.frzs es)) cs O1:=by
 cases h with
 |own0=>exact⟨fun _=>False,fun _ h=>h.elim,.own0 ..⟩
 |own _ _ _ b len cap cur cs Os O hb hsz hl hc hm hO hOs hdis hcs hr hd9=>
  refine⟨fun x=>x=b,fun x hx=>by rw[show x=b from hx];exact hO,.own e d' _ b len cap cur cs (fun _ _=>False) _ hb hsz (by rw[zlD];exact hl) (by rw[zlD];exact hc) hm rfl (fun _ _ h=>h.elim) (fun _ _ _ _ h=>h.elim) (fun i hi=>hcs i (by rwa [zlD]at hi)) (fun i x hx=>?_) (fun h=>by rw[hd]at h;cases h)⟩;rw[V.frzs_eq,zN]at hx
  cases hy:es[i]? with
  |none=>simp[hy]at hx
  |some y=>
   simp[hy]at hx;subst hx;exact(hr i y hy).frz.mono (fun b' h=>h.imp id (fun h=>⟨(hOs i b' h).1,(hOs i b' h).2⟩)) (fun _ h=>h)
theorem Rep.gP(h:Rep cz w F x cs O):∃N:Nat->Prop,(∀b,N b->O b)/\Rep cz w (fun b=>F b\/N b) (gP x) cs (fun b=>O b/\¬N b):=by
 unfold Go.Ax.gP;split
 ·rename_i e d es l
  cases h with
  |agg fs cs Os O hn hOs hdis hr=>
   obtain⟨O1,h1,h2⟩:=(hr 0 _ rfl).frz1 d.frz (zya d);refine⟨fun b=>Os 0 b/\¬O1 b,fun b hb=>hOs 0 b hb.1,?_⟩;refine .agg _ cs (fun i b=>if i=0 then O1 b else Os i b) _ (by simpa [V.sizes,V.size]using hn) (fun i b hb=>?_) (fun i j b hij hi hj=>?_) (fun i x hx=>?_)
   ·split at hb
    ·exact⟨hOs 0 b (h1 b hb),fun h=>h.2 hb⟩
    ·rename_i hi0;exact⟨hOs i b hb,fun h=>hdis 0 i b (Ne.symm hi0) h.1 hb⟩
   ·split at hi
    ·rename_i hi0;split at hj
     ·rename_i hj0;exact hij (by rw[hi0,hj0])
     ·rename_i hj0;exact hdis 0 j b (Ne.symm hj0) (h1 b hi) hj
    ·rename_i hi0;split at hj
     ·exact hdis i 0 b hi0 hi (h1 b hj)
     ·exact hdis i j b hij hi hj
   ·cases i with
    |zero=>
     simp only[yL,za]at hx;subst hx;exact h2.mono (fun b h=>h) (fun b h=>by simpa using h)
    |succ i=>
     have h3:=hr (i+1) x (by simpa using hx);have e1:V.offs (.slc true e d.frz (V.frzs es)::l) (i+1)=V.offs (.slc true e d es::l) (i+1):=(by simp[V.offs,V.sizes,V.size]);rw[e1];exact h3.mono (fun b h=>.inl h) (fun b h=>by simpa using h)
 ·exact⟨fun _=>False,fun _ h=>h.elim,h.mono (fun b h=>.inl h) (fun b h=>⟨h,fun h=>h⟩)⟩
theorem zx8{v:Value}(h:x.reg cs v):(gT x).reg cs v:=by
 unfold gT;split
 ·exact h
 ·exact zx9 h
theorem Rep.gT(h:Rep cz w F x cs O):∃N:Nat->Prop,(∀b,N b->O b)/\Rep cz w (fun b=>F b\/N b) (gT x) cs (fun b=>O b/\¬N b):=by
 unfold Go.Ax.gT;split
 ·rename_i y l
  cases h with
  |tup fs vs cs Os O hn hOs hdis hv hr=>
   obtain⟨N,h1,h2⟩:=(hr 0 _ rfl).gP;refine⟨N,fun b hb=>hOs 0 b (h1 b hb),?_⟩;refine .tup _ vs cs (fun i b=>Os i b/\¬N b) _ (by simpa using hn) (fun i b hb=>⟨hOs i b hb.1,hb.2⟩) (fun i j b hij hi hj=>hdis i j b hij hi.1 hj.1) (fun i x hx=>?_) (fun i x hx=>?_)
   ·cases i with
    |zero=>
     simp only[yL,za]at hx;subst hx;exact zx9 (hv 0 _ rfl)
    |succ i=>exact hv (i+1) x (by simpa using hx)
   ·cases i with
    |zero=>
     simp only[yL,za]at hx;subst hx;exact h2
    |succ i=>exact(hr (i+1) x (by simpa using hx)).mono (fun b h=>.inl h) (fun b h=>⟨h,fun hN=>hdis 0 (i+1) b (by omega) (h1 b hN) h⟩)
 ·exact h.gP
end
def zwl(T:kj)(L:Alg)(res:List ResultVar)(r:V):ZW:=fun e S=>match e with
 | .ret=>match Yu L T res S with
   |some (ps,l)=>ZA ps (gTL L (Qf l)=r)
   |none=>False
 | .normal=>match Yu L T res S with
   |some (ps,l)=>ZA ps (gTL L (Qf l)=r)
   |none=>False
 |_=>False
theorem zzV{P:Program}{T:kj}{B:jZ}{Bi:qN}{k:FuncId}{fn:Func}{body:Code}{args:List V}{r:V}{n:Nat}(ks:List Nat)(hf:P.funcs[k]? =some fn)(hb:fn.body=some body)(hn:fn.ntmps=n)(hname:(fn.name== "runtime.NumGoroutine")=false)
 (hl:args.length<=n) (hm:P.follows .mixedOrders=true) (hT:TabOk P T) (hB:YW P B) (hBi:Zt P Bi) (hck:kD T ks 0 false body=true)
 (h:∀(L:Alg) (lp:QZ) (rr:V),L=yk T->rr=r->JC (uh 0 args)->Kk L T B Bi n ks lp->uX L T lp B Bi n ks body (zwl T L fn.results.toList rr) (uh 0 args)):zmd P k args r:=by
 obtain⟨h1,h2⟩:=zlF (R:=fun c=>gT c=r) (Qr:=zwl T (yk T) fn.results.toList r) ks hf hb hn hname hl hm hT hB hBi hck (fun e S hq=>by
  cases e with
  |normal=>simp only[zwl,zjQ]at hq;exact⟨.inl rfl,hq⟩
  |ret=>simp only[zwl,zjQ]at hq;exact⟨.inr rfl,hq⟩
  |_=>exact hq.elim) (fun lp h1 h2=>h (yk T) lp r rfl rfl h1 h2)
 refine⟨h1,fun yc w F hsz hv hF hG=>?_⟩;refine Calls.mono (h2 yc w F hsz hv hF hG) (fun e w' hq=>?_);obtain⟨c,rfl,v,cs,On,Fr,e1,e2,e3,e4,e5,e6⟩:=hq;obtain⟨N,n1,n2⟩:=e3.gT;refine⟨v,cs,fun b=>On b/\¬N b,fun b=>Fr b\/N b,e1,zx8 e2,n2.mono (fun b hb=>?_) (fun _ h=>h),fun b hb=>e4 b ?_,fun b hb h=>?_,e6⟩
 ·rcases hb with(hb|hb)|hb
  ·exact .inl hb
  ·exact .inr (.inl hb)
  ·exact .inr (.inr hb)
 ·rcases hb with hb|hb|hb
  ·exact .inl hb.1
  ·exact .inr hb
  ·exact .inl (n1 b hb)
 ·rcases h with h|h
  ·exact e5 b hb.1 h
  ·exact hb.2 h
def zqE(L:Alg)(T:kj)(res:List ResultVar)(j:Nat)(r y:V):ZW:=fun e S=>match e with
 | .ret=>match Yu L T (res++[.tmp j]) S with
   |some (ps,l)=>ZA ps (gTL L (Qf (Jv l))=r/\KA l=y)
   |none=>False
 | .normal=>match Yu L T (res++[.tmp j]) S with
   |some (ps,l)=>ZA ps (gTL L (Qf (Jv l))=r/\KA l=y)
   |none=>False
 |_=>False
theorem zBG{P:Program}{T:kj}{B:jZ}{Bi:qN}{k:FuncId}{fn:Func}{body:Code}{args:List V}{r y c:V}{ty:TypeId}{n:Nat}(j:Nat)(ks:List Nat)(hf:P.funcs[k]? =some fn)(hb:fn.body=some body)(hn:fn.ntmps=n)(hname:(fn.name== "runtime.NumGoroutine")=false)
 (hl:args.length<=n) (hm:P.follows .mixedOrders=true) (hT:TabOk P T) (hB:YW P B) (hBi:Zt P Bi) (hck:kD T ks (j+1) false body=true) (hj:args[j]? =some (.box ty c)) (hco:c.owned=false) (hsh:Sh (.box ty c) y)
 (h9:Nat.blt j 1000=true)
 (h:∀(L:Alg) (lp:QZ) (rr yy:V),L=yk T->rr=r->yy=y->JC (uh 0 args)->Kk L T B Bi n ks lp->uX L T lp B Bi n ks body (zqE L T fn.results.toList j rr yy) (uh 0 args)):zfx P k (1000+j) args r y:=by
 obtain⟨h1,h2,h3⟩:=zlG (R:=fun c=>gT c=r) (Qr:=zqE (yk T) T fn.results.toList j r y) j ks hf hb hn hname hl hm hT hB hBi hck hj hco hsh h9 (fun e S hq=>by
  cases e with
  |normal=>simp only[zqE,zjQ]at hq;exact⟨.inl rfl,hq⟩
  |ret=>simp only[zqE,zjQ]at hq;exact⟨.inr rfl,hq⟩
  |_=>exact hq.elim) (fun lp h1 h2=>h (yk T) lp r y rfl rfl rfl h1 h2)
 obtain⟨x,x1,x2,x3⟩:=h2;have h9':j<1000:=by simpa [zhZ]using h9
 unfold zfx;rw[show(1000+j)%1000=j by omega];refine⟨h1,⟨x,x1,x2,fun _=>x3⟩,fun yc w F Oj css a1 a2 a3 a4 a5=>Calls.mono (h3 yc w F Oj css a1 a2 a3 a4 a5) (fun e w' hq=>?_)⟩;obtain⟨c,rfl,v,cs,On,Fr,Xn,e1,e2,e3,e4,e5,e6⟩:=hq;obtain⟨N,n1,n2⟩:=e3.gT;refine⟨v,cs,fun b=>On b/\¬N b,fun b=>Fr b\/N b,Xn,e1,zx8 e2,n2.mono (fun b hb=>?_) (fun _ h=>h),e4,e5.mono (fun b hb=>hb.imp id .inl) (fun _ h=>h),⟨e6.size,e6.os,e6.tape,e6.output,e6.same,fun b hb=>e6.new b ?_,e6.xn,fun b hb h=>?_,fun b hb=>⟨fun h=>(e6.d2 b hb).1 h.1,fun h=>h.elim (e6.d2 b hb).2 (fun h=>(e6.d2 b hb).1 (n1 b h))⟩,e6.hdr⟩⟩
 ·rcases hb with(hb|hb)|hb
  ·exact .inl hb
  ·exact .inr (.inl hb)
  ·exact .inr (.inr hb)
 ·rcases hb with hb|hb|hb
  ·exact .inl hb.1
  ·exact .inr hb
  ·exact .inl (n1 b hb)
 ·rcases h with h|h
  ·exact e6.d1 b hb.1 h
  ·exact hb.2 h
end Go.Ax
