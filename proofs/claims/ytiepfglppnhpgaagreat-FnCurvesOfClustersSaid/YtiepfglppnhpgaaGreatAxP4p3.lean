/-
  AX, AxP4: parts ZB to ZH of the abstract executor: values, environments, steps, regions, loops, functions. No conditions.
-/
import Derived.Test.YtiepfglppnhpgaaGreatAxP3p3
import Derived.LoopN
import Derived.ProofKit
set_option linter.all false
open Array renaming getD_eq_getD_getElem?->zD,getElem?_append_left->Zp,getElem?_append_right->uZ,getElem?_eq_getElem->qn,getElem?_eq_some_iff->yU,getElem?_toList->jO,length_toList->jm,size_append->zb2,size_replicate->zaf
open Bool renaming and_eq_true->zh,false_or->zan,not_eq_true'->yK,not_true->uL,or_eq_false_iff->jh,or_eq_true->jg,true_and->zcw
open List renaming append_nil->yp,cons_append->yf,eq_nil_of_length_eq_zero->yS,getElem?_append_left->yA,getElem?_append_right->yr,getElem?_cons_zero->qa,getElem?_eq_getElem->ze,getElem?_eq_some_iff->zq,getElem?_map->zK,length_cons->zj,map_cons->qo,mem_cons->zJ,mem_cons_of_mem->zI,mem_cons_self->ze7,mem_filter->jJ,mem_of_getElem?->yo,range_succ_eq_map->JS
open Nat renaming blt_eq->zkr,le_refl->zw,lt_succ_self->zab,not_lt_zero->zhU,zero_add->jB
open Option.some renaming injEq->za
open Prod.mk renaming injEq->zb
namespace Go.Ax
section
variable {C:Ctx}{T:kH}{S:yb}{D:Env}{B:kn}
theorem ziJ{d:Nat}{e:Option Bool×A}:∀{S:yb} {x:Nat×Option Bool×A},x∈ins d e S↔x=(d,e)\/x∈S
 |[],x=>by simp[ins]
 |(k,e')::l,x=>by
  simp only[ins];split
  ·simp only[zJ,ziJ (S:=l)];constructor
   ·rintro(h|h|h)
    ·exact .inr (.inl h)
    ·exact .inl h
    ·exact .inr (.inr h)
   ·rintro(h|h|h)
    ·exact .inr (.inl h)
    ·exact .inl h
    ·exact .inr (.inr h)
  ·simp
theorem zcU{d:Nat}:∀{S:yb} {x:Nat×Option Bool×A},x∈KG d S↔x∈S/\x.1≠d/\x.2.2.at0 d=false
 |[],x=>by simp[KG]
 |(k,g,a)::l,x=>by
  simp only[KG];split
  ·rename_i hk;have:=qX hk;subst this;rw[zcU (S:=l)];constructor
   ·exact fun h=>⟨zI _ h.1,h.2⟩
   ·rintro⟨h1,h2⟩;rcases zJ.1 h1 with rfl|h1
    ·exact absurd rfl h2.1
    ·exact⟨h1,h2⟩
  ·rename_i hk;have hne:k≠d:=fun e=>(by subst e;rw[ZS]at hk;cases hk);split
   ·rename_i ha;rw[zcU (S:=l)];constructor
    ·exact fun h=>⟨zI _ h.1,h.2⟩
    ·rintro⟨h1,h2⟩;rcases zJ.1 h1 with rfl|h1
     ·have h3:a.at0 d=false:=h2.2;rw[ha]at h3;cases h3
     ·exact⟨h1,h2⟩
   ·rename_i ha;rw[zJ,zcU (S:=l),zJ];constructor
    ·rintro(rfl|h)
     ·exact⟨.inl rfl,hne,ha⟩
     ·exact⟨.inr h.1,h.2⟩
    ·rintro⟨h1,h2⟩;rcases h1 with h1|h1
     ·exact .inl h1
     ·exact .inr ⟨h1,h2⟩
theorem zen{d:Nat}:∀{S:yb} {x:Nat×Option Bool×A},x∈zlz d S↔x∈S/\x.2.2.at0 d=false
 |[],x=>by simp[zlz]
 |(k,g,a)::l,x=>by
  simp only[zlz];split
  ·rename_i ha;rw[zen (S:=l)];constructor
   ·exact fun h=>⟨zI _ h.1,h.2⟩
   ·rintro⟨h1,h2⟩;rcases zJ.1 h1 with rfl|h1
    ·have h3:a.at0 d=false:=h2;rw[ha]at h3;cases h3
    ·exact⟨h1,h2⟩
  ·rename_i ha;rw[zJ,zen (S:=l),zJ];constructor
   ·rintro(rfl|h)
    ·exact⟨.inl rfl,ha⟩
    ·exact⟨.inr h.1,h.2⟩
   ·rintro⟨h1,h2⟩;rcases h1 with h1|h1
    ·exact .inl h1
    ·exact .inr ⟨h1,h2⟩
theorem Ks{d:Nat}{v:V}:∀{S:yb} {x:Nat×Option Bool×A},x∈Jh S d v↔(x∈S/\x.1≠d)\/(x.1=d/\x.2.2=.val v/\∃a,(d,x.2.1,a)∈S)
 |[],x=>by simp[Jh]
 |(k,g,a)::l,x=>by
  simp only[Jh];split
  ·rename_i hk;have:=qX hk;subst this;rw[zJ,Ks (S:=l)];constructor
   ·rintro(rfl|h|h)
    ·exact .inr ⟨rfl,rfl,a,by simp⟩
    ·exact .inl ⟨zI _ h.1,h.2⟩
    ·obtain⟨h1,h2,a',h3⟩:=h;exact .inr ⟨h1,h2,a',zI _ h3⟩
   ·rintro(h|h)
    ·rcases zJ.1 h.1 with h1|h1
     ·exact absurd (by rw[h1]) h.2
     ·exact .inr (.inl ⟨h1,h.2⟩)
    ·obtain⟨h1,h2,a',h3⟩:=h;rcases zJ.1 h3 with h4|h4
     ·left;obtain⟨x1,x2,x3⟩:=x;simp only[zb]at h4 h1 h2 ⊢;exact⟨h1,h4.2.1,h2⟩
     ·exact .inr (.inr ⟨h1,h2,a',h4⟩)
  ·rename_i hk;have hne:k≠d:=fun e=>(by subst e;rw[ZS]at hk;cases hk);rw[zJ,Ks (S:=l)];constructor
   ·rintro(rfl|h|h)
    ·exact .inl ⟨by simp,hne⟩
    ·exact .inl ⟨zI _ h.1,h.2⟩
    ·obtain⟨h1,h2,a',h3⟩:=h;exact .inr ⟨h1,h2,a',zI _ h3⟩
   ·rintro(h|h)
    ·rcases zJ.1 h.1 with h1|h1
     ·exact .inl h1
     ·exact .inr (.inl ⟨h1,h.2⟩)
    ·obtain⟨h1,h2,a',h3⟩:=h;rcases zJ.1 h3 with h4|h4
     ·simp only[zb]at h4;exact absurd h4.1.symm hne
     ·exact .inr (.inr ⟨h1,h2,a',h4⟩)
theorem zgy{ks:List Nat}:∀{S:yb} {x:Nat×Option Bool×A},x∈Yt ks S↔x∈S/\jW ks x.1=true/\x.2.2.in0 ks=true
 |[],x=>by simp[Yt]
 |(k,g,a)::l,x=>by
  simp only[Yt];split
  ·rename_i hk;split
   ·rename_i ha;rw[zJ,zgy (S:=l),zJ];constructor
    ·rintro(rfl|h)
     ·exact⟨.inl rfl,hk,ha⟩
     ·exact⟨.inr h.1,h.2⟩
    ·rintro⟨h1,h2⟩;rcases h1 with h1|h1
     ·exact .inl h1
     ·exact .inr ⟨h1,h2⟩
   ·rename_i ha;rw[zgy (S:=l)];constructor
    ·exact fun h=>⟨zI _ h.1,h.2⟩
    ·rintro⟨h1,h2⟩;rcases zJ.1 h1 with rfl|h1
     ·have h3:a.in0 ks=true:=h2.2;rw[ha]at h3;cases h3
     ·exact⟨h1,h2⟩
  ·rename_i hk;rw[zgy (S:=l)];constructor
   ·exact fun h=>⟨zI _ h.1,h.2⟩
   ·rintro⟨h1,h2⟩;rcases zJ.1 h1 with rfl|h1
    ·have h3:jW ks k=true:=h2.1;rw[hk]at h3;cases h3
    ·exact⟨h1,h2⟩
theorem zec{D D':Env}{a:A}(h:∀s,a.at0 s=true->(D' s).ver=(D s).ver):vz D' a=vz D a:=by
 cases a with
 |rf s v p=>simp only[vz];rw[h s (by simp[A.at0])]
 |ad s v p=>simp only[vz];rw[h s (by simp[A.at0])]
 |ag s v p fs=>simp only[vz];rw[h s (by simp[A.at0])]
 |_=>rfl
theorem zpi{a:A}{s d:Nat}(h:a.at0 s=true)(h':a.at0 d=false):s≠d:=by
 rintro rfl;rw[h]at h';cases h'
theorem Agr.ref_off(hA:Agr S D){t d:Nat}{g:Option Bool}{a:A}(h:(t,g,a)∈S)(ha:a.at0 d=true):(D t).owner=false:=by
 obtain⟨e1,_,e3⟩:=hA.on t g a h;unfold E.owner;rw[e1]
 cases hg:gb g with
 |false=>rfl
 |true=>
  rw[e3 hg]
  cases a<;>first|rfl|(simp[A.at0]at ha)
theorem Agr.put(hA:Agr S D){d:Nat}{g:Option Bool}{a:A}(hd:a.at0 d=false){a':A}(ha:gb g=true->a'=vz D a):Agr (jU S d g a) (D.put d (gb g) a'):=by
 have hv:∀(b:A),b.at0 d=false->vz (D.put d (gb g) a') b=vz D b:=fun b hb=>zec (fun s hs=>by simp[Env.put,zpi hs hb]);refine⟨fun t g' b h=>?_,fun t h=>?_⟩
 ·rcases ziJ.1 h with h|h
  ·simp only[zb]at h;obtain⟨rfl,rfl,rfl⟩:=h;rw[hv _ hd];simp only[Env.put,if_true];exact⟨trivial,trivial,ha⟩
  ·obtain⟨h1,h2,h3⟩:=zcU.1 h;have h2':t≠d:=h2;rw[hv _ h3];simp only[Env.put,if_neg h2'];exact hA.on t g' b h1
 ·have hne:t≠d:=fun e=>h (g,a) (ziJ.2 (.inl (by rw[e])));simp only[Env.put,if_neg hne];by_cases hx:∃e,(t,e)∈S
  ·obtain⟨⟨g',b⟩,hx⟩:=hx;by_cases hb:b.at0 d=true
   ·exact hA.ref_off hx hb
   ·exact absurd (ziJ.2 (.inr (zcU.2 ⟨hx,hne,by simpa using hb⟩))) (h (g',b))
  ·exact hA.off t (fun e he=>hx ⟨e,he⟩)
theorem Agr.drp(hA:Agr S D){d:Nat}:Agr (KG d S) (D.drp d):=by
 refine⟨fun t g' b h=>?_,fun t h=>?_⟩
 ·obtain⟨h1,h2,h3⟩:=zcU.1 h;have h2':t≠d:=h2;rw[zec (D:=D) (fun s hs=>by simp[Env.drp,zpi hs h3])];simp only[Env.drp,if_neg h2'];exact hA.on t g' b h1
 ·by_cases hne:t=d
  ·subst hne;simp[Env.drp,E.owner]
  ·simp only[Env.drp,if_neg hne];by_cases hx:∃e,(t,e)∈S
   ·obtain⟨⟨g',b⟩,hx⟩:=hx;by_cases hb:b.at0 d=true
    ·exact hA.ref_off hx hb
    ·exact absurd (zcU.2 ⟨hx,hne,by simpa using hb⟩) (h (g',b))
   ·exact hA.off t (fun e he=>hx ⟨e,he⟩)
theorem Agr.mod(hA:Agr S D){d:Nat}{r x:V}(ho:kI S d=some r):Agr (Jh S d x) (D.mod d x):=by
 have hv:∀b:A,vz (D.mod d x) b=vz D b:=fun b=>zec (fun s _=>by simp only[Env.mod];split<;>simp_all);refine⟨fun t g' b h=>?_,fun t h=>?_⟩
 ·rw[hv];rcases Ks.1 h with⟨h1,h2⟩|⟨h1,h2,a',h3⟩
  ·have h2':t≠d:=h2;simp only[Env.mod,if_neg h2'];exact hA.on t g' b h1
  ·have h1':t=d:=h1;have h2':b=.val x:=h2;subst h1';subst h2';obtain⟨e1,e2,_⟩:=hA.on _ _ _ h3;simp only[Env.mod,if_true];exact⟨e1,e2,fun _=>rfl⟩
 ·have hne:t≠d:=by
   rintro rfl;unfold kI at ho;split at ho
   ·rename_i hl;exact h (none,.val x) (Ks.2 (.inr ⟨rfl,rfl,_,kr hl⟩))
   ·cases ho
  simp only[Env.mod,if_neg hne];exact hA.off t (fun e he=>h e (Ks.2 (.inl ⟨he,hne⟩)))
theorem zzA:∀{q p:List Nat},zyj q p=true->zh8 q p=true
 |[],_::_,_=>rfl
 |i::q,j::p,h=>by
  simp only[zyj]at h;split at h
  ·rename_i e;simp only[zh8,zh,decide_eq_true_eq];exact⟨qX e,zzA h⟩
  ·cases h
 |[],[],h=>by cases h
 |_::_,[],h=>by cases h
theorem znw{d:Nat}{p:List Nat}:∀{S:yb} {x:Nat×Option Bool×A},x∈zfn d p S->x∈S/\(x.2.2.at0 d=false\/∃v q,x.2.2=.rf d v q/\zh8 q p=true)
 |[],x,h=>by simp[zfn]at h
 |(k,g,a)::l,x,h=>by
  simp only[zfn]at h
  have up:x∈zfn d p l->x∈(k,g,a)::l/\(x.2.2.at0 d=false\/∃v q,x.2.2=.rf d v q/\zh8 q p=true):=fun h=>by
   obtain⟨h1,h2⟩:=znw h;exact⟨zI _ h1,h2⟩
  split at h
  ·rename_i ha;split at h
   ·rename_i s v q;split at h
    ·rename_i hq;rcases zJ.1 h with rfl|h
     ·refine⟨ze7 ..,.inr ⟨v,q,?_,zzA hq⟩⟩;simp only[A.at0]at ha;rw[qX ha]
     ·exact up h
    ·exact up h
   ·exact up h
  ·rename_i ha;rcases zJ.1 h with rfl|h
   ·exact⟨ze7 ..,.inl ha⟩
   ·exact up h
theorem zib{d:Nat}{p:List Nat}:∀{S:yb} {x:Nat×Option Bool×A},x∈S->x.2.2.at0 d=false->x∈zfn d p S
 |[],x,h,_=>by cases h
 |(k,g,a)::l,x,h,hx=>by
  simp only[zfn];rcases zJ.1 h with rfl|h
  ·have ha:a.at0 d=false:=hx;rw[ha];exact ze7 ..
  ·have ih:=zib (p:=p) h hx;split
   ·split
    ·split
     ·exact zI _ ih
     ·exact ih
    ·exact ih
   ·exact zI _ ih
theorem zDv{a:A}{d v:Nat}{p:List Nat}(h:a.at0 d=false):(vz D a).keep d v p=vz D a:=by
 cases a with
 |rf s v' q=>
  simp only[vz,A.keep];rw[if_neg];rintro⟨rfl,_⟩;simp[A.at0]at h
 |_=>rfl
theorem Agr.bmk(hA:Agr S D){d:Nat}{p:List Nat}{r x:V}(ho:kI S d=some r):Agr (Jh (zfn d p S) d x) (D.bmk d x p):=by
 obtain⟨gd,hl⟩:∃r',look S d=some (none,.val r'):=by
  unfold kI at ho;split at ho
  ·rename_i hl;exact⟨_,hl⟩
  ·cases ho
 refine⟨fun t g' b h=>?_,fun t h=>?_⟩
 ·rcases Ks.1 h with⟨h1,h2⟩|⟨h1,h2,a',h3⟩
  ·have h2':t≠d:=h2;obtain⟨h3,h4⟩:=znw h1;obtain⟨k1,k2,k3⟩:=hA.on t g' b h3;simp only[Env.bmk,if_neg h2'];refine⟨k1,k2,fun hg=>?_⟩;rw[k3 hg];rcases h4 with h4|⟨v,q,h4,hq⟩
   ·have h4':b.at0 d=false:=h4;rw[zDv h4'];exact(zec (fun s hs=>by simp[Env.bmk,zpi hs h4'])).symm
   ·have h4':b=.rf d v q:=h4;subst h4';simp only[vz,A.keep];rw[if_pos ⟨trivial,trivial,hq⟩];simp[Env.bmk,Env.bmp]
  ·have h1':t=d:=h1;have h2':b=.val x:=h2;subst h1';subst h2';obtain⟨e1,e2,_⟩:=hA.on _ _ _ (znw h3).1;simp only[Env.bmk,Env.bmp,if_true];exact⟨e1,e2,fun _=>rfl⟩
 ·have hne:t≠d:=by
   rintro rfl;exact h (none,.val x) (Ks.2 (.inr ⟨rfl,rfl,_,zib (kr hl) rfl⟩))
  have hoff:(D t).owner=false:=by
   by_cases hx:∃e,(t,e)∈S
   ·obtain⟨⟨g',b⟩,hx⟩:=hx;by_cases hb:b.at0 d=true
    ·exact hA.ref_off hx hb
    ·exact absurd (Ks.2 (.inl ⟨zib hx (by simpa using hb),hne⟩)) (h (g',b))
   ·exact hA.off t (fun e he=>hx ⟨e,he⟩)
  simp only[Env.bmk,if_neg hne];unfold E.owner at hoff ⊢;simp only at hoff ⊢
  cases hA':(D t).a with
  |rf s v q=>
   by_cases hc:s=d/\v=(D d).ver/\zh8 q p=true
   ·rw[A.keep,if_pos hc];simp
   ·rw[A.keep,if_neg hc];simp
  |_=>simp_all [A.keep]
theorem Agr.bmp(hA:Agr S D){d:Nat}{r x:V}(ho:kI S d=some r):Agr (Jh (zlz d S) d x) (D.bmp d x):=by
 obtain⟨gd,hl⟩:∃r',look S d=some (none,.val r'):=by
  unfold kI at ho;split at ho
  ·rename_i hl;exact⟨_,hl⟩
  ·cases ho
 refine⟨fun t g' b h=>?_,fun t h=>?_⟩
 ·rcases Ks.1 h with⟨h1,h2⟩|⟨h1,h2,a',h3⟩
  ·have h2':t≠d:=h2;obtain⟨h3,h4⟩:=zen.1 h1;rw[zec (D:=D) (fun s hs=>by simp[Env.bmp,zpi hs h4])];simp only[Env.bmp,if_neg h2'];exact hA.on t g' b h3
  ·have h1':t=d:=h1;have h2':b=.val x:=h2;subst h1';subst h2';obtain⟨e1,e2,_⟩:=hA.on _ _ _ (zen.1 h3).1;simp only[Env.bmp,if_true];exact⟨e1,e2,fun _=>rfl⟩
 ·have hne:t≠d:=by
   rintro rfl;exact h (none,.val x) (Ks.2 (.inr ⟨rfl,rfl,_,zen.2 ⟨kr hl,rfl⟩⟩))
  simp only[Env.bmp,if_neg hne];by_cases hx:∃e,(t,e)∈S
  ·obtain⟨⟨g',b⟩,hx⟩:=hx;by_cases hb:b.at0 d=true
   ·exact hA.ref_off hx hb
   ·exact absurd (Ks.2 (.inl ⟨zen.2 ⟨hx,by simpa using hb⟩,hne⟩)) (h (g',b))
  ·exact hA.off t (fun e he=>hx ⟨e,he⟩)
theorem zge{s ver:Nat}{p:List Nat}:∀(fs:List V) (i:Nat) (S:yb) (D:Env) (ps:List Prop) (ys:List V) (S1:yb),Agr S D->(D s).ver=ver->zil (yz T) T s p fs i S=some (ps,ys,S1)->qA ps->
 ∃q D1,ZY s ver fs p i D=some (q,ys,D1)/\q/\Agr S1 D1/\(D1 s).ver=ver
 |[],i,S,D,ps,ys,S1,hA,hv,h,_=>by
  simp only[zil,za,zb]at h;obtain⟨_,rfl,rfl⟩:=h;exact⟨True,D,rfl,trivial,hA,hv⟩
 |f::fs,i,S,D,ps,ys,S1,hA,hv,h,hp=>by
  simp only[zil]at h;split at h
  ·rename_i hlf;split at h
   ·rename_i hfo;split at h
    ·rename_i r hr;split at h
     ·rename_i y qs hy;split at h
      ·rename_i hH;split at h
       ·rename_i r' hu;split at h
        ·rename_i rs zs S' hz;simp only[za,zb]at h;obtain⟨rfl,rfl,rfl⟩:=h;rw[zE]at hp;obtain⟨a1,a2⟩:=uG hy hp.1;rcases a2 with a2|⟨a2,a3,a4,a5⟩
         ·simp at a2
         have hu':=ZF _ _ _ _ _ _ a5 hp.1 hu;subst hu';have ho:=yO hA hr;rw[hv]at ho;have a6:(r.at (p++[i])).isH=true:=(by rw[a1];exact hH);obtain⟨q,D1,t1,t2,t3,t4⟩:=zge (ver:=ver) fs (i+1) _ (D.mod s (r.upd (p++[i]) (.hole 1))) rs zs S' (hA.mod hr) (by simp[Env.mod,hv]) hz hp.2
         have hP:qR s ver f (p++[i]) D=some (r.okm (p++[i])/\(r.at (p++[i])).isH=true,y,D.mod s (r.upd (p++[i]) (.hole 1))):=by
          cases f<;>first|(simp[V.leaf]at hlf;done)|(simp[V.owned]at hfo;done)|(simp only[V.owned]at hfo;subst hfo;simp only[qR,ho,a1])|simp only[qR,ho,a1]
         exact⟨(r.okm (p++[i])/\(r.at (p++[i])).isH=true)/\q,D1,by simp only[ZY,hP,t1],⟨⟨a2,a6⟩,t2⟩,t3,t4⟩
        ·cases h
       ·cases h
      ·cases h
     ·cases h
    ·cases h
   ·rename_i hfo;split at h
    ·rename_i rs zs S' hz;simp only[za,zb]at h;obtain⟨rfl,rfl,rfl⟩:=h;obtain⟨q,D1,t1,t2,t3,t4⟩:=zge (ver:=ver) fs (i+1) S D rs zs S' hA hv hz hp
     have hP:qR s ver f (p++[i]) D=some (True,f,D):=by
      cases f<;>first|(simp[V.leaf]at hlf;done)|(simp[V.owned]at hfo;done)|(simp only[V.owned]at hfo;subst hfo;simp[qR,V.owned])|simp[qR,V.owned]
     exact⟨True/\q,D1,by simp only[ZY,hP,t1],⟨trivial,t2⟩,t3,t4⟩
    ·cases h
  ·cases h
theorem zdf{s ver:Nat}{p:List Nat}:∀(fs:List V) (i:Nat) (S:yb) (D:Env) (ps:List Prop) (ys:List V) (S1:yb),Agr S D->(D s).ver=ver->zgd (yz T) T s p fs i S=some (ps,ys,S1)->qA ps->
 ∃q D1,ZY s ver fs p i D=some (q,ys,D1)/\q/\Agr S1 D1
 |[],i,S,D,ps,ys,S1,hA,_,h,_=>by
  simp only[zgd,za,zb]at h;obtain⟨_,rfl,rfl⟩:=h;exact⟨True,D,rfl,trivial,hA⟩
 |f::fs,i,S,D,ps,ys,S1,hA,hv,h,hp=>by
  simp only[zgd]at h;split at h
  ·rename_i hlf;split at h
   ·rename_i hfo;split at h
    ·rename_i r hr;split at h
     ·rename_i y qs hy;split at h
      ·rename_i hH;split at h
       ·rename_i r' hu;split at h
        ·rename_i rs zs S' hz;simp only[za,zb]at h;obtain⟨rfl,rfl,rfl⟩:=h;rw[zE]at hp;obtain⟨a1,a2⟩:=uG hy hp.1;rcases a2 with a2|⟨a2,a3,a4,a5⟩
         ·simp at a2
         have hu':=ZF _ _ _ _ _ _ a5 hp.1 hu;subst hu';have ho:=yO hA hr;rw[hv]at ho;have a6:(r.at (p++[i])).isH=true:=(by rw[a1];exact hH);obtain⟨q,D1,t1,t2,t3⟩:=zdf (ver:=ver) fs (i+1) _ (D.mod s (r.upd (p++[i]) (.hole 1))) rs zs S' (hA.mod hr) (by simp[Env.mod,hv]) hz hp.2
         have hP:qR s ver f (p++[i]) D=some (r.okm (p++[i])/\(r.at (p++[i])).isH=true,y,D.mod s (r.upd (p++[i]) (.hole 1))):=by
          cases f<;>first|(simp[V.leaf]at hlf;done)|(simp[V.owned]at hfo;done)|(simp only[V.owned]at hfo;subst hfo;simp only[qR,ho,a1])|simp only[qR,ho,a1]
         exact⟨(r.okm (p++[i])/\(r.at (p++[i])).isH=true)/\q,D1,by simp only[ZY,hP,t1],⟨⟨a2,a6⟩,t2⟩,t3⟩
        ·cases h
       ·cases h
      ·cases h
     ·cases h
    ·cases h
   ·rename_i hfo;split at h
    ·rename_i rs zs S' hz;simp only[za,zb]at h;obtain⟨rfl,rfl,rfl⟩:=h;obtain⟨q,D1,t1,t2,t3⟩:=zdf (ver:=ver) fs (i+1) S D rs zs S' hA hv hz hp
     have hP:qR s ver f (p++[i]) D=some (True,f,D):=by
      cases f<;>first|(simp[V.leaf]at hlf;done)|(simp[V.owned]at hfo;done)|(simp only[V.owned]at hfo;subst hfo;simp[qR,V.owned])|simp[qR,V.owned]
     exact⟨True/\q,D1,by simp only[ZY,hP,t1],⟨trivial,t2⟩,t3⟩
    ·cases h
  ·split at h
   ·rename_i gs _;split at h
    ·rename_i ps0 zs S0 hz0;split at h
     ·rename_i rs ys' S' hz;simp only[za,zb]at h;obtain⟨rfl,rfl,rfl⟩:=h;rw[zE]at hp;obtain⟨q0,D0,u1,u2,u3,u4⟩:=zge (ver:=ver) gs 0 S D ps0 zs S0 hA hv hz0 hp.1;obtain⟨q,D1,t1,t2,t3⟩:=zdf (ver:=ver) fs (i+1) S0 D0 rs ys' S' u3 u4 hz hp.2;have hP:qR s ver (.agg gs) (p++[i]) D=some (q0,.agg zs,D0):=(by simp only[qR,u1]);exact⟨q0/\q,D1,by simp only[ZY,hP,t1],⟨u2,t2⟩,t3⟩
     ·cases h
    ·cases h
   ·cases h
theorem Zc(hA:Agr S D){a:A}{ps:List Prop}{y:V}{S1:yb}(h:KL (yz T) T S a=some (ps,y,S1))(hp:qA ps):∃q D1,ju D (vz D a)=some (q,y,D1)/\q/\Agr S1 D1:=by
 cases a with
 |val x=>
  simp only[KL,za,zb]at h;obtain⟨_,rfl,rfl⟩:=h;exact⟨True,D,rfl,trivial,hA⟩
 |rf s ver p=>
  simp only[KL]at h;split at h
  ·rename_i r hr;have ho:=yO hA hr;split at h
   ·simp only[za,zb]at h;obtain⟨_,rfl,rfl⟩:=h;exact⟨True,D.drp s,by simp only[vz,ju,ho],trivial,hA.drp⟩
   ·rename_i i q;split at h
    ·rename_i fs;split at h
     ·split at h
      ·rename_i z hz;rw[zcD]at hz;have hl:i<fs.length:=(zq.1 hz).1;simp only[za,zb]at h;obtain⟨_,rfl,rfl⟩:=h;exact⟨i<fs.length,D.mod s (.tup (fs.set i (.hole z.size))),by simp only[vz,ju,ho,jR hz],hl,hA.mod hr⟩
      ·cases h
     ·cases h
    ·rename_i hn;split at h
     ·rename_i z qs hz;split at h
      ·rename_i hH;split at h
       ·rename_i r' hu;simp only[za,zb]at h;obtain⟨rfl,rfl,rfl⟩:=h;obtain⟨e1,e2⟩:=uG hz hp;rcases e2 with e2|⟨e2,e3,e4,e5⟩
        ·cases e2
        ·have hu':=ZF _ _ _ _ _ _ e5 hp hu;subst hu';have e6:(r.at (i::q)).isH=true:=(by rw[e1];exact hH);refine⟨r.okm (i::q)/\(r.at (i::q)).isH=true,D.mod s (r.upd (i::q) (.hole 1)),?_,⟨e2,e6⟩,hA.mod hr⟩;simp only[vz,ju,ho,e1]
       ·cases h
      ·cases h
     ·cases h
  ·cases h
 |ad=>simp[KL]at h
 |fz=>simp[KL]at h
 |ag s ver p fs=>
  simp only[KL]at h;split at h
  ·rename_i qs ys S' hz;simp only[za,zb]at h;obtain⟨rfl,rfl,rfl⟩:=h;obtain⟨q,D1,t1,t2,t3⟩:=zdf (ver:=(D s).ver) fs 0 S D qs ys S' hA rfl hz hp;exact⟨q,D1,by simp only[vz,ju,qR,t1],t2,t3⟩
  ·cases h
end
section
variable {C:Ctx}{T:kH}{S:yb}{D:Env}{B:kn}
theorem zmr:∀(p:List Nat) (r c:V) (e:TypeId) (qs:List Prop),uj (yz T) T r p=some (.box e c,qs)->uj (yz T) T r (p++[0])=some (c,qs)
 |[],r,c,e,qs,h=>by
  simp only[uj,za,zb]at h;obtain⟨rfl,rfl⟩:=h;simp[uj]
 |i::p,.slc o e' d es,c,e,qs,h=>by
  cases o with
  |false=>simp[uj]at h
  |true=>
   simp only[uj]at h;simp only[yf,uj];split at h
   ·rename_i y' hv;split at h
    ·rename_i z q hz;simp only[za,zb]at h;obtain⟨rfl,rfl⟩:=h;rw[zmr p _ _ _ _ hz]
    ·cases h
   ·cases h
 |i::p,.agg fs,c,e,qs,h=>by
  simp only[uj]at h;simp only[yf,uj];split at h
  ·exact zmr p _ _ _ _ h
  ·cases h
 |i::p,.box e' c',c,e,qs,h=>by
  cases i with
  |zero=>
   simp only[uj]at h;simp only[yf,uj];exact zmr p _ _ _ _ h
  |succ i=>simp[uj]at h
 |_::_,.int _ _,_,_,_,h=>by simp[uj]at h
 |_::_,.bool _,_,_,_,h=>by simp[uj]at h
 |_::_,.str _,_,_,_,h=>by simp[uj]at h
 |_::_,.tup _,_,_,_,h=>by simp[uj]at h
 |_::_,.fn _ _,_,_,_,h=>by simp[uj]at h
 |_::_,.hole _,_,_,_,h=>by simp[uj]at h
theorem zEp{p:List Nat}{r c:V}{e:TypeId}{qs:List Prop}(h:atR (yz T) T r p=some (.box e c,qs)):uj (yz T) T r (p++[0])=some (c,qs):=by
 unfold atR at h;split at h
 ·simp only[za,zb]at h;obtain⟨rfl,rfl⟩:=h;simp[uj]
 ·split at h
  ·cases h
  ·cases h
  ·exact zmr _ _ _ _ _ h
theorem ze1{ops:Array Oper}(hA:Agr S D){o:Oper}{g:Option Bool}(h:gdS (yz T) ops.toList S o=some g):gd ops D o=some (gb g):=by
 unfold gdS at h;unfold gd
 cases hg:o.guard with
 |none=>
  simp only[hg,za]at h;subst h;rfl
 |some jw=>
  obtain⟨j,want⟩:=jw;simp only[hg]at h;split at h
  ·rename_i o' ho;rw[zBU,jO]at ho;split at h
   ·rename_i t ht;split at h
    ·rename_i g0 b hl;obtain⟨e1,e2,e3⟩:=hA.on _ _ _ (kr hl);simp only[ho,Option.bind_some,ht,e2,if_true]
     cases hgb:gb g0 with
     |true=>
      rw[hgb]at e1;have e3':(D t).a=.val (.bool b):=e3 hgb;rw[e1,if_pos rfl,e3'];split at h
      ·simp only[za]at h;subst h
       cases g0 with
       |none=>simp[znT,gb]
       |some a=>simp only[gb]at hgb;subst hgb;simp[znT,gb,yz]
      ·simp only[za]at h;subst h
       cases g0 with
       |none=>simp[znT,gb,yz]
       |some a=>simp only[gb]at hgb;subst hgb;simp[znT,gb,yz]
     |false=>
      rw[hgb]at e1;rw[e1,if_neg (by simp)]
      cases g0 with
      |none=>cases hgb
      |some a=>
       simp only[gb]at hgb;subst hgb
       split at h<;>
       ·simp only[za]at h;subst h;simp[znT,gb,yz]
    ·cases h
   ·cases h
  ·cases h
theorem zoM{o:Oper}{x:Operand}{s ver:Nat}{p:List Nat}(hop:o.op=.assign x)(h:opd C.P D o.type x=some (true,.rf s ver p))(hr:∃fs,D.own s ver=some (.tup fs))(hp:p≠[]):yC C D true o=none:=by
 simp only[yC,hop,h];obtain⟨fs,hr⟩:=hr
 cases p with
 |nil=>exact absurd rfl hp
 |cons i p=>simp only[hr]
theorem znx{o:Oper}{x:Operand}{s ver d:Nat}(hop:o.op=.assign x)(h:opd C.P D o.type x=some (true,.rf s ver []))(hd:o.dst=some d)(hal:(C.Φ (1000000000+d) []).isSome=false):yC C D true o=none:=by
 simp only[yC,hop,h,hd];rw[hal];rfl
def WOk(T:kH)(C:Ctx)(S:yb)(D:Env)(o:Oper)(S':yb):Prop:=∃p D',qQ C D o=some (p,D')/\p/\Agr S' D'/\
 (∀d,o.dst=some d->yC C D true o=none\/∃x gx s v ver,o.op=.assign x/\jV T S o.type x=some (gx,.rf s v [])/\opd C.P D o.type x=some (true,.rf s ver []))/\o.guard=none/\(o.dst=none->kO T o=true)
theorem WOk.mk{o:Oper}{S':yb}{p:Prop}{D':Env}(h1:qQ C D o=some (p,D'))(h2:p)(h3:Agr S' D')(h4:∀d,o.dst=some d->yC C D true o=none)(h5:o.guard=none)(h6:(o.dst=none->kO T o=true)):WOk T C S D o S':=
 ⟨p,D',h1,h2,h3,fun d hd=>.inl (h4 d hd),h5,h6⟩
theorem zcx(hT:TabOk C.P T)(hA:Agr S D){o:Oper}{ps:List Prop}{S':yb}(hn:∀d,o.dst=some d->C.dst d)(hst:YV T C.lo C.st o=true)(h:wS (yz T) T S o=some (ps,S'))(hp:qA ps):WOk T C S D o S':=by
 unfold wS at h;split at h
 ·cases h
 rename_i hgd;split at h
 ·
   rename_i x d hop hd;split at h
   ·rename_i gx s ver p h1;split at h
    ·rename_i qs y S1 h2;split at h
     ·cases h
     rename_i hh
     have hpp:qA (qr (yz T) none gx)/\qA qs:=by
      split at h
      ·split at h
       ·cases h
       ·simp only[za,zb]at h;obtain⟨rfl,_⟩:=h;exact zE.1 hp
      ·split at h
       ·simp only[za,zb]at h;obtain⟨rfl,_⟩:=h;exact zE.1 hp
       ·cases h
     have o1:=zN hT hA h1 (zT hpp.1 rfl);obtain⟨q,D1,t1,t2,t3⟩:=Zc hA h2 hpp.2;have hdn:=hn d hd;have hc:(decide (C.dst d)&& !y.isHole)=true:=(by simp[hdn,hh]);simp only[vz]at o1 t1;split at h
     ·rename_i hb;split at h
      ·cases h
      rename_i hsd;have hne:s≠d:=fun e=>(by subst e;rw[ZS]at hsd;cases hsd);simp only[za,zb]at h;obtain⟨_,rfl⟩:=h;have hA1:Agr (jU S1 d none (.val y)) (D1.put d true (.val y)):=t3.put (g:=none) rfl (fun _=>rfl)
      have hA2:Agr (jU (jU S1 d none (.val y)) s none (.rf d 0 [])) ((D1.put d true (.val y)).put s true (.rf d ((D1 d).ver+1) [])):=
       hA1.put (g:=none) (by cases hh:kQ d s with
        |false=>exact hh
        |true=>exact absurd (qX hh).symm hne) (fun _=>by simp[vz,Env.put])
      have hw:qQ C D o=some (true=true/\q,(D1.put d true (.val y)).put s true (.rf d ((D1 d).ver+1) [])):=by
       simp only[qQ,hgd,hop,hd,o1,t1];rw[if_pos hc,if_neg hne]
      exact⟨_,_,hw,⟨rfl,t2⟩,hA2,fun _ _=>.inr ⟨_,_,_,_,_,hop,h1,o1⟩,hgd,fun h=>by rw[hd]at h;cases h⟩
     ·rename_i hpn;split at h
      ·rename_i fs hr;simp only[za,zb]at h;obtain⟨_,rfl⟩:=h;have hA1:Agr (jU S1 d none (.val y)) (D1.put d true (.val y)):=t3.put (g:=none) rfl (fun _=>rfl)
       have hw:qQ C D o=some (true=true/\q,D1.put d true (.val y)):=by
        simp only[qQ,hgd,hop,hd,o1,t1];rw[if_pos hc];split
        ·rename_i heq;simp only[A.rf.injEq]at heq;exact absurd heq.2.2 hpn
        ·rfl
       exact .mk hw ⟨rfl,t2⟩ hA1 (fun _ _=>zoM hop o1 ⟨fs,yO hA hr⟩ hpn) hgd (fun h=>by rw[hd]at h;cases h)
      ·cases h
    ·cases h
   ·rename_i gx v h1;split at h
    ·rename_i hv;simp only[zh]at hv;simp only[za,zb]at h;obtain⟨rfl,rfl⟩:=h;have o1:=zN hT hA h1 (zT hp rfl);have hdn:=hn d hd;have hc:(decide (C.dst d)&& !v.isHole)=true:=(by simp only[hdn,decide_true,zcw];exact hv.2);simp only[vz]at o1;have hA1:Agr (jU S d none (.val v)) (D.put d true (.val v)):=hA.put (g:=none) rfl (fun _=>rfl)
     have hw:qQ C D o=some (true=true/\True,D.put d true (.val v)):=by
      simp only[qQ,hgd,hop,hd,o1,ju];rw[if_pos hc]
     exact .mk hw ⟨rfl,trivial⟩ hA1 (fun _ _=>by simp only[yC,hop,o1];rw[if_pos hv.1]) hgd (fun h=>by rw[hd]at h;cases h)
    ·cases h
   ·cases h
 ·
   rename_i t x v hop hd;split at h
   ·rename_i gv av h1;split at h
    ·rename_i qs y S1 h2;split at h
     ·rename_i hfit;simp only[zh]at hfit;split at h
      ·rename_i gx s ver p h3;split at h
       ·rename_i r hr;split at h
        ·rename_i i p' z rs r' h4 h5;split at h
         ·rename_i hsz;simp only[zh,jg]at hsz
          have hst':C.st=true->(z.isScalar&&y.isScalar)=true:=fun hh=>by
           rcases hsz.2 with h'|h'
           ·simpa using h'
           ·simp only[YV,hh,hop,uL,zan,zh]at hst;rw[hst.2]at h';cases h'
          simp only[za,zb]at h;obtain⟨rfl,rfl⟩:=h;rw[zE,zE,zE]at hp;obtain⟨⟨⟨p1,p2⟩,p3⟩,p4⟩:=hp;have o1:=zN hT hA h1 (zT p1 rfl);obtain⟨q,D1,t1,t2,t3⟩:=Zc hA h2 p2;have o2:=zN hT t3 h3 (zT p3 rfl);obtain⟨⟨e1,e1'⟩,e2,e5⟩:=zph h4 p4;have hu:=e5 _ _ h5;subst hu;have hb:0<y.size:=by have:=km hfit.2;omega
          have hc:(Zg C.P t y&&(z.size==y.size)&&y.solid&&decide (0<y.size))=true:=by
           simp[Jx hT hfit.1.1,qX hsz.1,hfit.1.2,hb]
          have hos:=yO t3 hr
          have hw:qQ C D o=some (true=true/\q/\true=true/\r.okm (i::p')/\(C.st=true->(z.isScalar&&y.isScalar)=true),if z.isScalar&&y.isScalar then D1.mod s (r.upd (i::p') y)else D1.bmp s (r.upd (i::p') y)):=by
           simp only[vz]at o2;simp only[qQ,hgd,hop,hd,o1,t1,o2,hos,e1,e1'];rw[if_pos hc]
          refine .mk hw ⟨rfl,t2,rfl,e2,hst'⟩ ?_ (fun d' hd'=>by rw[hd]at hd';cases hd') hgd (fun _=>by simp[kO,kT,zB3,zyu,hop])
          cases hsc:z.isScalar&&y.isScalar with
          |true=>simpa using t3.mod hr
          |false=>simpa using t3.bmp hr
         ·cases h
        ·cases h
       ·cases h
      ·rename_i gx s ver p h3;split at h
       ·rename_i r hr;split at h
        ·rename_i e z rs r' h4 h5;split at h
         ·rename_i hsz;simp only[zh,jg]at hsz
          have hst':C.st=true->(z.isScalar&&y.isScalar)=true:=fun hh=>by
           rcases hsz.2 with h'|h'
           ·simpa using h'
           ·simp only[YV,hh,hop,uL,zan,zh]at hst;rw[hst.2]at h';cases h'
          simp only[za,zb]at h;obtain⟨rfl,rfl⟩:=h;rw[zE,zE,zE]at hp;obtain⟨⟨⟨p1,p2⟩,p3⟩,p4⟩:=hp;have o1:=zN hT hA h1 (zT p1 rfl);obtain⟨q,D1,t1,t2,t3⟩:=Zc hA h2 p2;have o2:=zN hT t3 h3 (zT p3 rfl);obtain⟨e1,e2⟩:=uG h4 p4;have e3:r.okr p:=okr_of e2 (by rw[e1];rfl);have e4:r.okm (p++[0]):=zwa e1 e2;have hu:=ZF _ _ _ _ _ _ (zEp h4) p4 h5;subst hu;have hb:0<y.size:=by have:=km hfit.2;omega
          have hc:(Zg C.P t y&&(z.size==y.size)&&y.solid&&decide (0<y.size))=true:=by
           simp[Jx hT hfit.1.1,qX hsz.1,hfit.1.2,hb]
          have hos:=yO t3 hr
          have hw:qQ C D o=some (true=true/\q/\true=true/\r.okr p/\r.okm (p++[0])/\(C.st=true->(z.isScalar&&y.isScalar)=true),if z.isScalar&&y.isScalar then D1.mod s (r.upd (p++[0]) y)else D1.bmp s (r.upd (p++[0]) y)):=by
           simp only[vz]at o2;simp only[qQ,hgd,hop,hd,o1,t1,o2,hos,e1];rw[if_pos hc]
          refine .mk hw ⟨rfl,t2,rfl,e3,e4,hst'⟩ ?_ (fun d' hd'=>by rw[hd]at hd';cases hd') hgd (fun _=>by simp[kO,kT,zB3,zyu,hop])
          cases hsc:z.isScalar&&y.isScalar with
          |true=>simpa using t3.mod hr
          |false=>simpa using t3.bmp hr
         ·cases h
        ·cases h
       ·cases h
      ·cases h
     ·cases h
    ·cases h
   ·cases h
 ·
   rename_i args ats d hop hd;have hln:∀d,o.dst=some d->yC C D true o=none:=fun _ _=>(by simp only[yC,hop]);have hdn:=hn d hd;split at h
   ·rename_i x y t t' hargs hats;split at h
    ·rename_i htt;have:=qX htt;subst this;split at h
     ·rename_i e he;split at h
      ·rename_i gx ax h1;split at h
       ·rename_i qs e' dd es S1 h2;split at h
        ·rename_i gy ay h3;split at h
         ·rename_i oy ey d2 es2 rs h4;split at h
          ·rename_i hcc;simp only[zh]at hcc;obtain⟨⟨hc1,hc2⟩,hc3⟩:=hcc;have:=qX hc1;subst this;have:=qX hc2;subst this
           obtain⟨te,hte⟩:∃te,jb T e=some te:=by
            cases hh:jb T e with
            |none=>simp[ub,hh]at hc3
            |some te=>exact⟨te,rfl⟩
           have hcz:0<C.P.cellsOf e:=by have:=zqO hT hc3;omega
           have hsc:zcm C.P e=zaB T e:=by
            have hg:=hT.got hte;have i1:zaz C.P e=(zfy te).int:=congrArg Got.int hg;have i2:Kg C.P e=(zfy te).str:=congrArg Got.str hg;have i3:zhO C.P e=(zfy te).bool:=congrArg Got.bool hg;unfold zcm zaB;rw[i1,i2,i3,hte];obtain⟨k,c,z⟩:=te;cases k<;>rfl
           split at h
           ·rename_i hoy;simp only[za,zb]at h;obtain⟨rfl,rfl⟩:=h;simp only[zE,zp]at hp;obtain⟨⟨⟨⟨p1,p2⟩,p3⟩,p4⟩,p5,p6,p7,_⟩:=hp;have o1:=zN hT hA h1 (zT p1 rfl);obtain⟨q,D1,t1,t2,t3⟩:=Zc hA h2 p2;have o2:=zN hT t3 h3 (zT p3 rfl);obtain⟨l1,l2,l3⟩:=zar t3 h4 p4;have p5':V.owneds es2=false:=p5;have p6':(es.length:Int)+(es2.length:Int)<=2147483647:=p6;have p7':∀x∈es2,x.solid=true:=p7
            have hc:(decide (C.dst d)&&e==e&&e==e&& !(vz D1 ay).isAg&&decide (C.P.bytesOf e<=65536)&&decide (0<C.P.cellsOf e))=true:=by
             simp[hdn,l3,hT.small hte,hcz]
            have hw:qQ C D o=some (true=true/\q/\true=true/\(vz D1 ay).okA D1/\es.length+es2.length<=2147483647/\(∀x∈es2,x.solid=true)/\V.owneds es2=false/\C.st=false,D1.put d true (.val (.slc true e dd (es++es2)))):=by
             simp only[qQ,hgd,hop,hd,hargs,hats,if_true,hT.elem he,o1,t1,o2,hT.zero hte,l1];rw[if_pos hc];rw[hsc,hoy];simp
            have hap:C.st=false:=by
             cases hh:C.st with
             |false=>rfl
             |true=>simp[YV,hh,hop]at hst
            exact .mk hw ⟨rfl,t2,rfl,l2,by omega,p7',p5',hap⟩ (t3.put (g:=none) rfl (fun _=>rfl)) hln hgd (fun h=>by rw[hd]at h;cases h)
           ·rename_i hoy;split at h
            ·rename_i rs' e3 d3 es3 S2 h5;simp only[za,zb]at h;obtain⟨rfl,rfl⟩:=h;simp only[zE,zp]at hp;obtain⟨⟨⟨⟨⟨p1,p2⟩,p3⟩,p4⟩,p5⟩,p6,p7,_⟩:=hp;have o1:=zN hT hA h1 (zT p1 rfl);obtain⟨q,D1,t1,t2,t3⟩:=Zc hA h2 p2;have o2:=zN hT t3 h3 (zT p3 rfl);obtain⟨l1,l2,l3⟩:=zar t3 h4 p4;obtain⟨q2,D2,u1,u2,u3⟩:=Zc t3 h5 p5;have p6':(es.length:Int)+(es3.length:Int)<=2147483647:=p6;have p7':∀x∈es3,x.solid=true:=p7
             have hc:(decide (C.dst d)&&e==e&&e==e&& !(vz D1 ay).isAg&&decide (C.P.bytesOf e<=65536)&&decide (0<C.P.cellsOf e))=true:=by
              simp[hdn,l3,hT.small hte,hcz]
             have hw:qQ C D o=some (true=true/\q/\true=true/\q2/\es.length+es3.length<=2147483647/\(∀x∈es3,x.solid=true)/\C.st=false,D2.put d true (.val (.slc true e dd (es++es3)))):=by
              simp only[qQ,hgd,hop,hd,hargs,hats,if_true,hT.elem he,o1,t1,o2,hT.zero hte,l1];rw[if_pos hc];rw[hsc,hoy,if_pos rfl,u1]
             have hap:C.st=false:=by
              cases hh:C.st with
              |false=>rfl
              |true=>simp[YV,hh,hop]at hst
             exact .mk hw ⟨rfl,t2,rfl,u2,by omega,p7',hap⟩ (u3.put (g:=none) rfl (fun _=>rfl)) hln hgd (fun h=>by rw[hd]at h;cases h)
            ·cases h
          ·cases h
         ·cases h
        ·cases h
       ·cases h
      ·cases h
     ·cases h
    ·cases h
   ·cases h
 ·cases h
end
section
variable {C:Ctx}{T:kH}{S:yb}{D:Env}{B:kn}
theorem zfH(hA:Agr S D){d:Nat}(h:znu (look S d)=false):(D d).owner=false:=by
 cases hl:look S d with
 |none=>exact hA.off d (zra hl)
 |some e=>
  obtain⟨g,a⟩:=e;obtain⟨e1,_,e3⟩:=hA.on _ _ _ (kr hl);unfold E.owner;rw[e1]
  cases hg:gb g with
  |false=>rfl
  |true=>
   rw[e3 hg];rw[hl]at h
   cases a<;>first|rfl|exact h
theorem zxT(hT:TabOk C.P T)(hA:Agr S D)(hΦ:C.Φ=Ka B){ops:Array Oper}{o:Oper}(hst:YV T C.lo C.st o=true){ps:List Prop}{S':yb}(h:zBl (yz T) T B C.nt ops.toList S o=some (ps,S'))(hp:qA ps):
 ∃p D',step C ops (kO T o) D o=some (p,D')/\p/\Agr S' D':=by
 unfold zBl at h
 have viaW:(∀d,o.dst=some d->C.dst d)->(∀d,o.dst=some d->∃g,ux (yz T) T B S g o=none)->(o.dst.isSome=true->kO T o=true)->wS (yz T) T S o=some (ps,S')->∃p D',step C ops (kO T o) D o=some (p,D')/\p/\Agr S' D':=by
  intro hn hln hk hw;obtain⟨p,D',e1,e2,e3,e4,e5,e6⟩:=zcx hT hA hn hst hw hp;refine⟨p,D',?_,e2,e3⟩
  have hl:qH C ops D o=none:=by
   unfold qH
   cases hd:o.dst with
   |none=>
    have:gd ops D o=some true:=(by unfold gd;rw[e5]);rw[this]
   |some d=>
    have:gd ops D o=some true:=(by unfold gd;rw[e5]);rw[this];dsimp only
    have e8:yC C D true o=none:=by
     rcases e4 d hd with h8|⟨x,gx,s,v,ver,h8,h9,h10⟩
     ·exact h8
     ·obtain⟨g,hg⟩:=hln d hd;refine znx h8 h10 hd ?_;rw[hΦ];simp only[Ka];simp only[ux,h8,h9,hd]at hg
      cases hb:zdV B (1000000000+d)with
      |none=>rfl
      |some f=>
       rw[hb]at hg;dsimp only at hg ⊢
       cases hf:f []with
       |none=>rfl
       |some r=>rw[hf]at hg;cases hg
    rw[e8]
  have e7:kO T o=true:=by
   cases hd:o.dst with
   |none=>exact e6 hd
   |some d=>exact hk (by rw[hd];rfl)
  unfold step;rw[e7,if_pos rfl,hl];exact e1
 split at h
 ·rename_i g hgd;have hg1:=ze1 hA hgd;split at h
  ·rename_i d hd;split at h
   ·rename_i hn
    have hdn:C.dst d:=⟨by
     simp only[YV,hd,zh]at hst
     exact km hst.1,km hn⟩
    split at h
    ·rename_i qs a hlop;split at h
     ·cases h
     ·rename_i hat
      simp only[jh]at hat
      obtain⟨ha1,ha2⟩:=hat
      simp only[za,zb]at h;obtain⟨rfl,rfl⟩:=h
      have main:∃p a',qH C ops D o=some (p,D.put d (gb g) a')/\p/\(gb g=true->a'=vz D a):=by
       cases hgb:gb g with
       |true=>
        obtain⟨p,e1,e2⟩:=zbB hT hA hΦ hgb hlop hp;refine⟨p,vz D a,?_,e2,fun _=>rfl⟩;unfold qH;rw[hg1,hgb,hd];dsimp only;rw[e1];dsimp only;rw[if_pos hdn]
       |false=>
        refine⟨True,.val (.hole 0),?_,trivial,fun h=>by cases h⟩;unfold qH;rw[hg1,hgb,hd];dsimp only;rw[if_pos hdn]
      obtain⟨p,a',e1,e2,e3⟩:=main;refine⟨p,_,?_,e2,hA.put ha1 e3⟩;unfold step
      cases hk:kO T o with
      |true=>rw[if_pos rfl,e1]
      |false=>
       rw[hk]at ha2;have:znu (look S d)=false:=(by simpa using ha2);rw[if_neg (by simp),hd];dsimp only;rw[zfH hA this,if_neg (by simp)];exact e1
    ·rename_i hlop;split at h
     ·rename_i hk;exact viaW (fun d' hd'=>by rw[hd]at hd';simp only[za]at hd';subst hd';exact hdn) (fun _ _=>⟨_,hlop⟩) (fun _=>hk) h
     ·cases h
   ·cases h
  ·rename_i hd;exact viaW (fun d' hd'=>by rw[hd]at hd';cases hd') (fun d' hd'=>by rw[hd]at hd';cases hd') (fun h=>by rw[hd]at h;cases h) h
 ·cases h
theorem JP{ps:List Prop}{r:Prop}:ZW ps r↔qA ps/\r:=by
 induction ps with
 |nil=>simp[ZW,zuG]
 |cons p l ih=>simp only[ZW,zp,ih,and_assoc]
theorem zrk(hT:TabOk C.P T)(hΦ:C.Φ=Ka B){ops:Array Oper}{K:yb->Prop}{K':Env->Prop}(hK:∀S D,K S->Agr S D->K' D):∀(l:List Oper) (S:yb) (D:Env),zco T C.lo C.st l=true->evS (yz T) T B C.nt ops.toList l S K->Agr S D->ev C ops l (l.map (kO T)) D K'
 |[],S,D,_,h,hA=>hK S D h hA
 |o::l,S,D,hst,h,hA=>by
  simp only[zco,zh]at hst;simp only[evS]at h;split at h
  ·rename_i ps S' hs;rw[JP]at h;obtain⟨p,D',e1,e2,e3⟩:=zxT hT hA hΦ hst.1 hs h.1;simp only[qo,ev,e1];exact⟨e2,zrk hT hΦ hK l S' D' hst.2 h.2 e3⟩
  ·exact h.elim
def psi(Bi:qV):FuncId->Option (Nat×Bool×(List V->Option (Prop×V×V))):=fun k=>match zfm Bi k with
 |some (j,m,c)=>some (j,m,fun args=>match c args with
  |some (ps,r,y)=>some (qA ps,r,y)
  |none=>none)
 |none=>none
def zs0:qV->Bool
 |[]=>true
 |(_,j,m,_)::l=>(!m&& !jw j)&&zs0 l
theorem znv:∀{Bi:qV} {k j:Nat} {m:Bool} {c:kj},zs0 Bi=true->zfm Bi k=some (j,m,c)->m=false/\jw j=false
 |[],_,_,_,_,_,h=>by simp[zfm]at h
 |(k',j',m',c')::l,k,j,m,c,hn,h=>by
  simp only[zs0,zh,yK]at hn;simp only[zfm]at h;split at h
  ·simp only[za,zb]at h;obtain⟨rfl,rfl,_⟩:=h;exact hn.1
  ·exact znv hn.2 h
def zcv(C:Ctx)(Bi:qV):Prop:=C.Ψ=psi Bi/\(C.st=true->zs0 Bi=true)
theorem zzM(hA:Agr S D){a:A}{ps:List Prop}{x:V}{S1:yb}{back:V->Option yb}(h:ioS (yz T) T S a=some (ps,x,S1,back))(hp:qA ps):
 ∃q D1 back1,KX D (vz D a)=some (q,x,D1,back1)/\q/\Agr S1 D1/\∀y S2,back y=some S2->Agr S2 (back1 y):=by
 cases a with
 |rf s ver p=>
  simp only[ioS]at h;split at h
  ·rename_i r hr;have ho:=yO hA hr;split at h
   ·split at h
    ·rename_i hH;simp only[za,zb]at h;obtain⟨_,rfl,rfl,rfl⟩:=h;refine⟨True,D.drp s,fun y=>D.mod s y,by simp only[vz,KX,ho];rw[if_pos hH],trivial,hA.drp,fun y S2 h2=>?_⟩;simp only[za]at h2;subst h2;exact hA.mod hr
    ·cases h
   ·rename_i i q;split at h
    ·rename_i x' qs hx;split at h
     ·rename_i hH;split at h
      ·rename_i r1 hu;simp only[za,zb]at h;obtain⟨rfl,rfl,rfl,rfl⟩:=h;obtain⟨e1,e2⟩:=uG hx hp;rcases e2 with e2|⟨e2,e3,e4,e5⟩
       ·cases e2
       have hu':=ZF _ _ _ _ _ _ e5 hp hu;subst hu'
       have hsz:(r.at (i::q)).size=1:=by
        rw[e1];revert hH;cases x'<;>simp[V.isH,V.size]
       refine⟨r.okm (i::q)/\(r.at (i::q)).isH=true,D.mod s (r.upd (i::q) (.hole 1)),fun y=>D.mod s (r.upd (i::q) y),by
        rw[e1]at hsz
        simp only[vz,KX,ho,e1,hsz],⟨e2,by rw[e1];exact hH⟩,hA.mod hr,fun y S2 h2=>?_⟩
       dsimp only at h2;split at h2
       ·rename_i r2 hu2;simp only[za]at h2;subst h2;have hu2':=ZF _ _ _ _ _ _ e5 hp hu2;subst hu2';exact hA.mod hr
       ·cases h2
      ·cases h
     ·cases h
    ·cases h
  ·cases h
 |ag s ver p fs=>
  simp only[ioS]at h;split at h
  ·rename_i r hr;have ho:=yO hA hr;split at h
   ·cases h
   ·rename_i i q;split at h
    ·rename_i gs qs hx;split at h
     ·rename_i hok;split at h
      ·rename_i r1 hu;simp only[za,zb]at h;obtain⟨rfl,rfl,rfl,rfl⟩:=h;obtain⟨e1,e2⟩:=uG hx hp;rcases e2 with e2|⟨e2,e3,e4,e5⟩
       ·cases e2
       have hu':=ZF _ _ _ _ _ _ e5 hp hu;subst hu';refine⟨r.okm (i::q),D.mod s (r.upd (i::q) (.hole (V.sizes gs))),_,by simp only[vz,KX,ho,e1];rw[if_pos hok];rfl,e2,hA.mod hr,fun y S2 h2=>?_⟩;dsimp only at h2;split at h2
       ·rename_i xs;split at h2
        ·rename_i r2 hu2;simp only[za]at h2;subst h2;have hu2':=ZF _ _ _ _ _ _ e5 hp hu2;subst hu2';exact hA.mod hr
        ·cases h2
       ·cases h2
      ·cases h
     ·cases h
    ·cases h
  ·cases h
 |_=>simp[ioS]at h
theorem znB{Bi:qV}(hT:TabOk C.P T)(hA:Agr S D)(hΦ:C.Φ=Ka B)(hΨ:zcv C Bi){o:Oper}{ps:List Prop}{S':yb}(hn:∀d,o.dst=some d->C.dst d)(h:iS (yz T) T B Bi S o=some (ps,S'))(hp:qA ps):
 ∃p D',YN C D o=some (p,D')/\p/\Agr S' D':=by
 unfold iS at h;split at h
 ·cases h
 rename_i hg;split at h
 ·rename_i k args ats hop;split at h
  ·cases h
  rename_i hBk;split at h
  ·rename_i j c hIk;split at h
   ·rename_i x hx;split at h
    ·rename_i gx a h1;split at h
     ·rename_i qs y S1 back h2;split at h
      ·rename_i rs vs br h3;split at h
       ·rename_i ts r y' h4;split at h
        ·rename_i S2 h5;split at h
         ·cases h
         rename_i hfn0;obtain⟨hfn,hwk⟩:=jh.1 hfn0;simp only[za,zb]at h;obtain⟨rfl,rfl⟩:=h;rw[zE,zE,zE,zE]at hp;obtain⟨⟨⟨⟨p1,p2⟩,p3⟩,p4⟩,p5⟩:=hp;have o1:=zN hT hA h1 (zT p1 rfl);obtain⟨q,D1,back1,t1,t2,t3,t4⟩:=zzM hA h2 p2;obtain⟨pl,l1,l2⟩:=zcf hT t3 (g:=none) rfl h3 p3
         have hpsi:C.Ψ k=some (j,false,fun args=>match c args with
          |some (ps,r,y)=>some (qA ps,r,y)
          |none=>none):=by rw[hΨ.1];simp only[psi,hIk]
         have hnf:(br&& !(r.noFz&&y'.noFz))=false:=by
          cases hb:br with
          |false=>rfl
          |true=>
           rw[hb]at p5 hfn;simp only[zcw,jh]at hfn;rw[zE]at p5;rw[zb8 r p5.1 hfn.1,zb8 y' p5.2 hfn.2];rfl
         have hwk':(jw j&& !(zbw (vz D a)&&y.bare))=false:=by
          have:zbw (vz D a)=zbw a:=by
           cases a with
           |rf s v p=>cases p<;>rfl
           |_=>rfl
          rw[this];exact hwk
         have hwj:jw j=true->C.st=false:=fun hj=>by
          cases hst:C.st with
          |false=>rfl
          |true=>rw[(znv (hΨ.2 hst) hIk).2]at hj;cases hj
         have ho1:opd C.P D 0 x=some (true,vz D a):=o1
         cases hd:o.dst with
         |none=>
          refine⟨true=true/\q/\pl/\qA ts/\(jw j=true->C.st=false),back1 y',?_,⟨rfl,t2,l2,p4,hwj⟩,t4 y' S2 h5⟩;simp only[YN,hg,hop,hpsi,hx,ho1,t1,l1,h4,hnf,hwk',hd];rw[if_neg (by simp)]
         |some d=>
          refine⟨true=true/\q/\pl/\qA ts/\(jw j=true->C.st=false),(back1 y').put d true (.val r),?_,⟨rfl,t2,l2,p4,hwj⟩,(t4 y' S2 h5).put (g:=none) rfl (fun _=>rfl)⟩;simp only[YN,hg,hop,hpsi,hx,ho1,t1,l1,h4,hnf,hwk',hd];rw[if_neg (by simp),if_pos (hn d hd)]
        ·cases h
       ·cases h
      ·cases h
     ·cases h
    ·cases h
   ·cases h
  ·cases h
 ·cases h
theorem zB6{Bi:qV}(hT:TabOk C.P T)(hA:Agr S D)(hΦ:C.Φ=Ka B)(hΨ:zcv C Bi){ops:Array Oper}{o:Oper}{ps:List Prop}{S':yb}(hn:∀d,o.dst=some d->C.dst d)(h:iS (yz T) T B Bi S o=some (ps,S'))(hp:qA ps):
 ∃p D',zeT C ops D o (p,D')/\p/\Agr S' D':=by
 obtain⟨p,D',e1,e2,e3⟩:=znB hT hA hΦ hΨ hn h hp;exact⟨p,D',.inr (.inr (.inl e1)),e2,e3⟩
theorem zse{Bi:qV}(hT:TabOk C.P T)(hA:Agr S D)(hΦ:C.Φ=Ka B)(hΨ:zcv C Bi){o:Oper}{ps:List Prop}{S':yb}(hn:∀d,o.dst=some d->C.dst d)(h:vS (yz T) T B Bi S o=some (ps,S'))(hp:qA ps):
 ∃p D',zfz C D o=some (p,D')/\p/\Agr S' D':=by
 unfold vS at h;split at h
 ·cases h
 rename_i hg;split at h
 ·rename_i k args ats hop;split at h
  ·cases h
  rename_i hBk;split at h
  ·rename_i j c hIk;split at h
   ·rename_i x hx;split at h
    ·rename_i gx a h1;split at h
     ·rename_i qs y S1 h2;split at h
      ·rename_i rs vs br h3;split at h
       ·rename_i ts r y' h4;split at h
        ·cases h
        rename_i hfn;simp only[za,zb]at h;obtain⟨rfl,rfl⟩:=h;rw[zE,zE,zE,zE]at hp;obtain⟨⟨⟨⟨p1,p2⟩,p3⟩,p4⟩,p5⟩:=hp;have o1:=zN hT hA h1 (zT p1 rfl);obtain⟨q,D1,t1,t2,t3⟩:=Zc hA h2 p2;obtain⟨pl,l1,l2⟩:=zcf hT t3 (g:=none) rfl h3 p3
        have hpsi:C.Ψ k=some (j,true,fun args=>match c args with
         |some (ps,r,y)=>some (qA ps,r,y)
         |none=>none):=by rw[hΨ.1];simp only[psi,hIk]
        have hnf:(br&& !r.noFz)=false:=by
         cases hb:br with
         |false=>rfl
         |true=>
          rw[hb]at p5 hfn;simp only[zcw]at hfn;rw[zb8 r p5 hfn];rfl
        have hst':C.st=false:=by
         cases hh:C.st with
         |false=>rfl
         |true=>exact absurd (znv (hΨ.2 hh) hIk).1 (by simp)
        have ho1:opd C.P D _ x=some (true,vz D a):=o1
        cases hd:o.dst with
        |none=>
         refine⟨true=true/\q/\pl/\qA ts/\C.st=false,D1,?_,⟨rfl,t2,l2,p4,hst'⟩,t3⟩;simp only[zfz,hg,hop,hpsi,hx,ho1,t1,l1,h4,hnf,hd];rw[if_neg (by simp)]
        |some d=>
         refine⟨true=true/\q/\pl/\qA ts/\C.st=false,D1.put d true (.val r),?_,⟨rfl,t2,l2,p4,hst'⟩,t3.put (g:=none) rfl (fun _=>rfl)⟩;simp only[zfz,hg,hop,hpsi,hx,ho1,t1,l1,h4,hnf,hd];rw[if_neg (by simp),if_pos (hn d hd)]
       ·cases h
      ·cases h
     ·cases h
    ·cases h
   ·cases h
  ·cases h
 ·cases h
theorem zCC(hT:TabOk C.P T)(hA:Agr S D){ops:Array Oper}{o:Oper}{ps:List Prop}{S':yb}(hn:∀d,o.dst=some d->C.dst d)(h:bS (yz T) T S o=some (ps,S'))(hp:qA ps):
 ∃p D',zeT C ops D o (p,D')/\p/\Agr S' D':=by
 unfold bS at h;split at h
 ·cases h
 rename_i hg;split at h
 ·rename_i t x d hop hd;split at h
  ·rename_i gx s ver p h1;split at h
   ·split at h
    ·rename_i fs hr;split at h
     ·rename_i hc;simp only[zh,yK]at hc;simp only[za,zb]at h;obtain⟨rfl,rfl⟩:=h;have o1:=zN hT hA h1 (zT hp rfl);have hos:=yO hA hr;have hsd:s≠d:=fun e=>(by subst e;rw[ZS]at hc;cases hc.1);have hA1:Agr (jU (KG s S) d none (.val (.box t (.agg fs)))) ((D.drp s).put d true (.val (.box t (.agg fs)))):=hA.drp.put (g:=none) rfl (fun _=>rfl)
      have hA2:Agr (jU (jU (KG s S) d none (.val (.box t (.agg fs)))) s none (.ag d 0 [0] fs)) (((D.drp s).put d true (.val (.box t (.agg fs)))).put s true (.ag d (((D.drp s) d).ver+1) [0] fs)):=
       hA1.put (g:=none) (by cases hh:kQ d s with
        |false=>exact hh
        |true=>exact absurd (qX hh).symm hsd) (fun _=>by simp[vz,Env.put])
      simp only[vz]at o1
      have hb:zpe C D o=some (true=true,((D.drp s).put d true (.val (.box t (.agg fs)))).put s true (.ag d (((D.drp s) d).ver+1) [0] fs)):=by
       simp only[zpe,hg,hop,hd,o1,hos];rw[if_pos ⟨hn d hd,hsd,hc.2⟩]
      exact⟨true=true,_,.inr (.inr (.inr (.inl hb))),rfl,hA2⟩
     ·cases h
    ·cases h
   ·cases h
  ·cases h
 ·cases h
theorem zfe(hT:TabOk C.P T){ty:Nat->TypeId}:∀(parts:List (Nat×Operand)) (S S1:yb) (D:Env) (ps:List Prop) (vs:List (Nat×V)),Agr S D->zfQ (yz T) T ty S parts=some (ps,vs,S1)->qA ps->
 ∃p D1,Kn C ty D parts=some (p,vs,D1)/\p/\Agr S1 D1
 |[],S,S1,D,ps,vs,hA,h,_=>by
  simp only[zfQ,za,zb]at h;obtain⟨_,rfl,rfl⟩:=h;exact⟨True,D,rfl,trivial,hA⟩
 |(i,x)::xs,S,S1,D,ps,vs,hA,h,hp=>by
  simp only[zfQ]at h;split at h
  ·rename_i gx a h1;split at h
   ·rename_i qs y S2 h2;split at h
    ·cases h
    rename_i hnh;split at h
    ·rename_i rs vs' S3 h3;simp only[za,zb]at h;obtain⟨rfl,rfl,rfl⟩:=h;rw[zE,zE]at hp;obtain⟨⟨p1,p2⟩,p3⟩:=hp;have o1:=zN hT hA h1 (zT p1 rfl);obtain⟨q,D1,t1,t2,t3⟩:=Zc hA h2 p2;obtain⟨p,D2,u1,u2,u3⟩:=zfe hT xs S2 _ D1 rs vs' t3 h3 p3;refine⟨true=true/\q/\p,D2,?_,⟨rfl,t2,u2⟩,u3⟩;have o2:opd C.P D (ty i) x=some (true,vz D a):=o1;simp only[Kn,o2,t1,u1];rw[if_neg (by simp[hnh])]
    ·cases h
   ·cases h
  ·cases h
theorem ztc(hT:TabOk C.P T)(hA:Agr S D){o:Oper}{ps:List Prop}{S':yb}(hn:∀d,o.dst=some d->C.dst d)(h:mS (yz T) T S o=some (ps,S'))(hp:qA ps):
 ∃p D',zdx C D o=some (p,D')/\p/\Agr S' D':=by
 unfold mS at h;split at h
 ·cases h
 rename_i hg;split at h
 ·rename_i t parts d hop hd;split at h
  ·rename_i fts c zs ht;split at h
   ·rename_i qs vs S1 hv;split at h
    ·rename_i fs hfs;simp only[za,zb]at h;obtain⟨rfl,rfl⟩:=h;have hst:zcy C.P t=some zs:=congrArg Got.struct (hT.got ht)
     have hty:(fun i=>((Ku C.P t i).map (·.2)).getD 0)=zp1 fts:=by
      funext i
      rw[zhJ (hT.fields (t:=t) (fs:=fts) (by simp[Jn,ht]))];unfold zp1;cases zgw fts i<;>rfl
     obtain⟨p,D1,u1,u2,u3⟩:=zfe (C:=C) hT _ _ _ D _ _ hA hv hp;refine⟨p,_,?_,u2,u3.put (g:=none) rfl (fun _=>rfl)⟩;simp only[zdx,hg,hop,hd,hst,hty,u1,hfs];rw[if_pos (hn d hd)];rfl
    ·cases h
   ·cases h
  ·cases h
 ·rename_i t n parts d hop hd;split at h
  ·rename_i e he;split at h
   ·rename_i ti qs vs S1 ht hv;split at h
    ·rename_i hle;simp only[zh]at hle;split at h
     ·rename_i es hes;simp only[za,zb]at h;obtain⟨rfl,rfl⟩:=h;obtain⟨p,D1,u1,u2,u3⟩:=zfe (C:=C) hT _ _ _ D _ _ hA hv hp
      have hc:n*C.P.cellsOf e<=2^20/\0<C.P.cellsOf e/\0<n:=by
       have:=(zf2 hT he).2;rw[hT.cells ht]at this ⊢;exact⟨km hle.1,by omega,km hle.2⟩
      refine⟨p,_,?_,u2,u3.put (g:=none) rfl (fun _=>rfl)⟩;simp only[zdx,hg,hop,hd,hT.elem he,hT.zero ht,u1];rw[if_pos hc,hes];dsimp only;rw[if_pos (hn d hd)];rfl
     ·cases h
    ·cases h
   ·cases h
  ·cases h
 ·cases h
theorem zBX(hT:TabOk C.P T)(hA:Agr S D){ops:Array Oper}{o:Oper}{ps:List Prop}{S':yb}(hn:∀d,o.dst=some d->C.dst d)(h:mS (yz T) T S o=some (ps,S'))(hp:qA ps):
 ∃p D',zeT C ops D o (p,D')/\p/\Agr S' D':=by
 obtain⟨p,D',h1,h2,h3⟩:=ztc hT hA hn h hp;exact⟨p,D',.inr (.inr (.inr (.inr (.inl h1)))),h2,h3⟩
theorem zCh(hT:TabOk C.P T)(hA:Agr S D){ops:Array Oper}{o:Oper}{ps:List Prop}{S':yb}(hn:∀d,o.dst=some d->C.dst d)(hst:YV T C.lo C.st o=true)(h:fS (yz T) T S o=some (ps,S'))(hp:qA ps):
 ∃p D',zeT C ops D o (p,D')/\p/\Agr S' D':=by
 unfold fS at h;split at h
 ·cases h
 rename_i hg;split at h
 ·rename_i st x lo hi mx d hop hd;split at h
  ·rename_i gx s ver p h1;split at h
   ·split at h
    ·rename_i e dd es hr;split at h
     ·rename_i e' he;split at h
      ·rename_i hc;simp only[zh,yK,jg]at hc;obtain⟨⟨hc1,hc2⟩,hc3⟩:=hc;have:=qX hc1;subst this;split at h
       ·rename_i gl l gh hh gm m hl hhi hmx;simp only[za,zb]at h;obtain⟨rfl,rfl⟩:=h;simp only[zE,zp]at hp;obtain⟨⟨⟨⟨p1,p2⟩,p3⟩,p4⟩,q1,q2,q3,q4,_⟩:=hp;have o1:=zN hT hA h1 (zT p1 rfl);have hos:=yO hA hr;simp only[vz]at o1
        have hst':C.st=false:=by
         cases hh:C.st with
         |false=>rfl
         |true=>simp[YV,hh,hop]at hst
        obtain⟨pl,b1,b2⟩:=QR (g:=none) hT hA hl rfl p2;obtain⟨ph,c1,c2⟩:=QR (g:=none) hT hA hhi rfl p3;obtain⟨pm,d1,d2⟩:=QR (g:=none) hT hA hmx rfl p4;have c1:kP C.P D true (es.length:Int) hi=some (ph,hh):=c1;have d1:kP C.P D true (es.length:Int) mx=some (pm,m):=d1;have hds:d≠s:=fun e=>(by subst e;rw[ZS]at hc2;cases hc2);have hA1:=(hA.drp (d:=s)).put (d:=s) (g:=none) (a:=.val (.slc false e dd.frz (V.frzs es))) (a':=.val (.slc false e dd.frz (V.frzs es))) rfl (fun _=>rfl);have hA2:=hA1.put (d:=d) (g:=none) (a:=.val (.slc false e dd.frz (((V.frzs es).take hh.toNat).drop l.toNat))) (a':=.val (.slc false e dd.frz (((V.frzs es).take hh.toNat).drop l.toNat))) rfl (fun _=>rfl);refine⟨true=true/\pl/\ph/\pm/\0<=l/\l<=hh/\hh<=m/\m<=(es.length:Int)/\C.st=false,_,.inr (.inr (.inr (.inr (.inr (.inl ?_))))),⟨rfl,b2,c2,d2,q1,q2,q3,q4,hst'⟩,hA2⟩
        have hcc:e=e/\C.P.cellsOf e≠0/\C.dst d/\(mx.isSome=true->hi.isSome=true):=⟨rfl,(zf2 hT he).2,hn d hd,fun h=>by
         rcases hc3 with h'|h'
         ·exact h'
         ·rw[h]at h';cases h'⟩
        simp only[zr0,hg,hop,hd,o1,hos,hT.elem he,b1,c1,d1];rw[if_pos ⟨trivial,hcc.2⟩];rfl
       ·cases h
      ·cases h
     ·cases h
    ·cases h
   ·cases h
  ·cases h
 ·cases h
theorem zn8{Bi:qV}(hT:TabOk C.P T)(hA:Agr S D)(hΦ:C.Φ=Ka B)(hΨ:zcv C Bi){ops:Array Oper}{o:Oper}(hst:YV T C.lo C.st o=true){ps:List Prop}{S':yb}(h:zxW (yz T) T B Bi C.nt ops.toList S o=some (ps,S'))(hp:qA ps):
 ∃p D',zeT C ops D o (p,D')/\p/\Agr S' D':=by
 unfold zxW at h
 have viaW:(∀d,o.dst=some d->C.dst d)->(match wS (yz T) T S o with
  |some r=>some r
  |none=>match iS (yz T) T B Bi S o with
   |some r=>some r
   |none=>match bS (yz T) T S o with
    |some r=>some r
    |none=>match mS (yz T) T S o with
     |some r=>some r
     |none=>match fS (yz T) T S o with
      |some r=>some r
      |none=>vS (yz T) T B Bi S o)=some (ps,S')->∃p D',zeT C ops D o (p,D')/\p/\Agr S' D':=by
  intro hn hw;split at hw
  ·rename_i r hr;simp only[za]at hw;subst hw;obtain⟨p,D',e1,e2,e3,_⟩:=zcx hT hA hn hst hr hp;exact⟨p,D',.inr (.inl e1),e2,e3⟩
  ·split at hw
   ·rename_i r hr;simp only[za]at hw;subst hw;exact zB6 hT hA hΦ hΨ hn hr hp
   ·split at hw
    ·rename_i r hr;simp only[za]at hw;subst hw;exact zCC hT hA hn hr hp
    ·split at hw
     ·rename_i r hr;simp only[za]at hw;subst hw;exact zBX hT hA hn hr hp
     ·split at hw
      ·rename_i r hr;simp only[za]at hw;subst hw;exact zCh hT hA hn hst hr hp
      ·obtain⟨p,D',e1,e2,e3⟩:=zse hT hA hΦ hΨ hn hw hp;exact⟨p,D',.inr (.inr (.inr (.inr (.inr (.inr e1))))),e2,e3⟩
 split at h
 ·rename_i g hgd;have hg1:=ze1 hA hgd;split at h
  ·rename_i d hd;split at h
   ·rename_i hn
    have hdn:C.dst d:=⟨by
     simp only[YV,hd,zh]at hst
     exact km hst.1,km hn⟩
    split at h
    ·rename_i qs a hlop;split at h
     ·cases h
     ·rename_i ha1;simp only[za,zb]at h;obtain⟨rfl,rfl⟩:=h
      have main:∃p a',qH C ops D o=some (p,D.put d (gb g) a')/\p/\(gb g=true->a'=vz D a):=by
       cases hgb:gb g with
       |true=>
        obtain⟨p,e1,e2⟩:=zbB hT hA hΦ hgb hlop hp;refine⟨p,vz D a,?_,e2,fun _=>rfl⟩;unfold qH;rw[hg1,hgb,hd];dsimp only;rw[e1];dsimp only;rw[if_pos hdn]
       |false=>
        refine⟨True,.val (.hole 0),?_,trivial,fun h=>by cases h⟩;unfold qH;rw[hg1,hgb,hd];dsimp only;rw[if_pos hdn]
      obtain⟨p,a',e1,e2,e3⟩:=main;exact⟨p,_,.inl e1,e2,hA.put ha1 e3⟩
    ·exact viaW (fun d' hd'=>by rw[hd]at hd';simp only[za]at hd';subst hd';exact hdn) h
   ·cases h
  ·rename_i hd;exact viaW (fun d' hd'=>by rw[hd]at hd';cases hd') h
 ·cases h
theorem zyk(hT:TabOk C.P T)(hA:Agr S D){o:Oper}{d:Nat}{ps:List Prop}{es:List V}{xx ng:Bool}(hlo:C.lo<=d)(h:zyl (yz T) T S C.nt o=some (d,ps,es,xx,ng))(hp:qA ps):∃q,zlc C D o=some (d,q,es,xx,ng)/\q:=by
 unfold zyl at h;split at h
 ·cases h
 rename_i hg;split at h
 ·rename_i bo xt x yt d' hop hd;split at h
  case h_2=>cases h
  rename_i ng' hng;split at h
  ·rename_i hn;split at h
   ·rename_i e gx a he h1;split at h
    ·rename_i o' e' dd es' qs h2;simp only[za,zb]at h;obtain⟨rfl,rfl,rfl,rfl,rfl⟩:=h;rw[zE]at hp;have o1:=zN hT hA h1 (zT hp.1 rfl);obtain⟨l1,l2,l3⟩:=zar hA h2 hp.2;have o2:opd C.P D xt x=some (true,vz D a):=o1;refine⟨true=true/\(vz D a).okA D,?_,rfl,l2⟩;simp only[zlc,hg,hop,hd,hng,hT.elem he,o2,l1,l3];rw[if_neg (by simp),if_pos ⟨hlo,km hn⟩]
    ·cases h
   ·cases h
  ·cases h
 ·cases h
theorem kq{l:List Nat}{t:Nat}:jW l t=true↔t∈l:=by
 induction l with
 |nil=>simp[jW]
 |cons x l ih=>
  simp only[jW];split
  ·rename_i h;simp[qX h]
  ·rename_i h;have:t≠x:=(by rintro rfl;rw[ZS]at h;cases h);rw[ih,zJ];simp[this]
theorem zCX{PS:List Nat}{o:Oper}(h:zM PS o=true):∃x∈PS,600<=x:=by
 unfold zM at h;split at h
 ·exact⟨_,kq.1 h,by omega⟩
 ·cases h
theorem Agr.congr{S S':yb}(hA:Agr S D)(h:∀x,x∈S'↔x∈S):Agr S' D:=
 ⟨fun t g a hx=>hA.on t g a ((h _).1 hx),fun t hx=>hA.off t (fun e he=>hx e ((h _).2 he))⟩
theorem zxS{PS:List Nat}(hz:C.st=true->∀x∈PS,x<600)(hT:TabOk C.P T)(hA:Agr S D)(hΦ:C.Φ=Ka B){ops:Array Oper}{o:Oper}(hst:YV T C.lo C.st o=true)(hzm:zM PS o=true){ps:List Prop}{S':yb}(h:zBk (yz T) T B C.nt ops.toList S o=some (ps,S'))(hp:qA ps):
 ∃p D',(zeT C ops D o (p,D')\/zeJ C ops D o=some (p,D')\/zhD C D o=some (p,D'))/\p/\Agr S' D':=by
 unfold zBk at h;split at h
 ·rename_i g hgd;have hg1:=ze1 hA hgd;split at h
  ·rename_i d hd;split at h
   ·rename_i hn
    have hdn:C.dst d:=⟨by
     simp only[YV,hd,zh]at hst
     exact km hst.1,km hn⟩
    split at h
    ·rename_i qs y hlop;split at h
     ·rename_i hown;simp only[za,zb]at h;obtain⟨rfl,rfl⟩:=h
      have hst0:C.st=false:=by
       cases hh:C.st with
       |false=>rfl
       |true=>
        obtain⟨x,hx,hx6⟩:=zCX hzm;have:=hz hh x hx;omega
      rw[YW]
      cases hgb:gb g with
      |false=>
       refine⟨True,D.put d false (.val (.hole 0)),.inl (.inl ?_),trivial,?_⟩
       ·unfold qH;rw[hg1,hgb,hd];dsimp only;rw[if_pos hdn]
       ·have h1:Agr (jU S d g (.val y.frz)) (D.put d (gb g) (.val (.hole 0))):=hA.put (g:=g) (a:=.val y.frz) rfl (fun h=>by rw[hgb]at h;cases h);rw[hgb]at h1;refine h1.congr fun x=>?_;simp only[jU,ziJ,zcU];constructor
        ·rintro(h|⟨⟨h|h,h2⟩,_⟩)
         ·exact .inl h
         ·exact absurd (by rw[h]) h2.1
         ·exact .inr h
        ·rintro(h|h)
         ·exact .inl h
         ·exact .inr ⟨⟨.inr h,h.2⟩,h.2⟩
      |true=>
       obtain⟨p,e1,e2⟩:=zbB hT hA hΦ hgb hlop hp
       have el:qH C ops D o=some (p,D.put d true (.val y)):=by
        unfold qH;rw[hg1,hgb,hd];dsimp only;rw[e1];dsimp only[vz];rw[if_pos hdn]
       have eo:(D.put d true (.val y)).own d ((D.put d true (.val y)) d).ver=some y:=Env.own_iff'.2 ⟨by simp[Env.put],rfl,by simp[Env.put],hown⟩;refine⟨p/\C.st=false,_,.inr (.inl (by unfold zeJ;rw[hd];dsimp only;rw[el];dsimp only;rw[eo])),⟨e2,hst0⟩,?_⟩;have hA1:Agr (jU S d g (.val y)) (D.put d (gb g) (.val y)):=hA.put (g:=g) (a:=.val y) rfl (fun _=>rfl);have hA2:=(hA1.drp (d:=d)).put (d:=d) (g:=g) (a:=.val y.frz) (a':=.val y.frz) rfl (fun _=>rfl);rw[hgb]at hA2;exact hA2
     ·cases h
    ·cases h
   ·cases h
  ·cases h
 ·cases h
theorem zF6{PS:List Nat}{o:Oper}(h:kZ PS o=true):∃x∈PS,600<=x:=by
 unfold kZ at h;split at h
 ·exact⟨_,kq.1 h,by omega⟩
 ·cases h
theorem zxX{PS:List Nat}(hz:C.st=true->∀x∈PS,x<600)(hT:TabOk C.P T)(hA:Agr S D){o:Oper}(hzm:kZ PS o=true){ps:List Prop}{S':yb}(h:zBo (yz T) T S o=some (ps,S'))(hp:qA ps):
 ∃p D',zhD C D o=some (p,D')/\p/\Agr S' D':=by
 have hst0:C.st=false:=by
  cases hh:C.st with
  |false=>rfl
  |true=>
   obtain⟨x,hx,hx6⟩:=zF6 hzm;have:=hz hh x hx;omega
 unfold zBo at h;split at h
 ·cases h
 rename_i hgd;split at h
 ·rename_i t x v hop hd;split at h
  ·rename_i gv av h1;split at h
   ·rename_i qs y S1 h2;split at h
    ·rename_i hfit;simp only[zh]at hfit;split at h
     ·rename_i gx s ver p h3;split at h
      ·rename_i r hr;split at h
       ·rename_i i p' z rs r' h4 h5;split at h
        ·rename_i hsz;simp only[zh]at hsz;simp only[za,zb]at h;obtain⟨rfl,rfl⟩:=h;rw[zE,zE,zE]at hp;obtain⟨⟨⟨p1,p2⟩,p3⟩,p4⟩:=hp;have o1:=zN hT hA h1 (zT p1 rfl);obtain⟨q,D1,t1,t2,t3⟩:=Zc hA h2 p2;have o2:=zN hT t3 h3 (zT p3 rfl);obtain⟨⟨e1,e1'⟩,e2,e5⟩:=zph h4 p4;have hu:=e5 _ _ h5;subst hu;have hb:0<y.size:=by have:=km hfit.2;omega
         have hc:(Zg C.P t y&&(z.size==y.size)&&y.solid&&decide (0<y.size)&& !(z.isScalar&&y.isScalar))=true:=by
          simp only[zh];exact⟨⟨⟨⟨Jx hT hfit.1.1,by simpa using qX hsz.1⟩,hfit.1.2⟩,by simpa using hb⟩,hsz.2⟩
         have hos:=yO t3 hr;refine⟨true=true/\q/\true=true/\r.okm (i::p')/\C.st=false,_,?_,⟨rfl,t2,rfl,e2,hst0⟩,t3.bmk hr⟩;simp only[vz]at o2;simp only[zhD,hgd,hop,hd,o1,t1,o2,hos,e1,e1'];rw[if_pos hc]
        ·cases h
       ·cases h
      ·cases h
     ·cases h
    ·cases h
   ·cases h
  ·cases h
 ·cases h
theorem zxU{Bi:qV}(hT:TabOk C.P T)(hA:Agr S D)(hΦ:C.Φ=Ka B)(hΨ:zcv C Bi){ops:Array Oper}{o:Oper}(hst:YV T C.lo C.st o=true){ps:List Prop}{S':yb}(h:zBm (yz T) T B Bi C.nt ops.toList S o=some (ps,S'))(hp:qA ps):
 ∃p D1 D',(zeT C ops D o (p,D1)\/zeJ C ops D o=some (p,D1)\/zhD C D o=some (p,D1)\/zma C D o=some (p,D1))/\p/\Gh D1 D'/\Agr S' D':=by
 unfold zBm at h;split at h
 ·rename_i d hop hd;split at h
  ·cases h
  rename_i hg;split at h
  ·rename_i hn;split at h
   ·rename_i e he;simp only[za,zb]at h;obtain⟨rfl,rfl⟩:=h
    have hdn:C.dst d:=⟨by
     simp only[YV,hd,zh]at hst
     exact km hst.1,km hn⟩
    refine⟨True,_,_,.inr (.inr (.inr ?_)),trivial,.inl rfl,hA.put (d:=d) (g:=none) (a:=.val (.slc true e V.nilG [])) (a':=.val (.slc true e V.nilG [])) rfl (fun _=>rfl)⟩;simp only[zma,hg,hop,hd,hT.elem he];rw[if_pos hdn];rfl
   ·cases h
  ·cases h
 ·rename_i d _ hd;split at h
  ·rename_i qs S1 hs;split at h
   ·rename_i e d0 es ho;simp only[za,zb]at h;obtain⟨rfl,rfl⟩:=h;rw[zE]at hp;obtain⟨p,D1,e1,e2,e3⟩:=zn8 hT hA hΦ hΨ hst hs hp.1
    have hne:es≠[]:=fun h0=>by
     have:=hp.2 _ (List.mem_singleton.2 rfl);rw[h0]at this;exact absurd this (by simp[yz])
    exact⟨p,D1,_,.inl e1,e2,.inr ⟨d,_,e,d0,V.nilG,es,yO e3 ho,fun _=>hne,rfl⟩,(e3.drp (d:=d)).put (d:=d) (g:=none) (a:=.val (.slc true e V.nilG es)) (a':=.val (.slc true e V.nilG es)) rfl (fun _=>rfl)⟩
   ·cases h
  ·cases h
 ·cases h
theorem zBz(hT:TabOk C.P T)(hA:Agr S D){o:Oper}(hlo:∀d,o.dst=some d->C.lo<=d){ps:List Prop}{S':yb}(h:rS C.nt S o=some (ps,S'))(hp:qA ps):∃p D',zx3 C D o=some (p,D')/\p/\Agr S' D':=by cases h
theorem zAr{PS:List Nat}(hz:C.st=true->∀x∈PS,x<600)(hT:TabOk C.P T)(hA:Agr S D){o o2:Oper}{l:List Oper}(hlo:∀d,o.dst=some d->C.lo<=d){ps:List Prop}{S':yb}(h:c2L PS C.nt S o (o2::l)=some (ps,S'))(hp:qA ps):
 ∃p D',zuA C D o o2=some (p,D')/\p/\Agr S' D':=by cases h
theorem zzC{op:Op}{x:Operand}(h:x∈zjT op):x∈op.operands:=by
 unfold zjT at h;split at h
 ·rename_i args ats;have:x∈args:=by simpa using h
  simp[Op.operands,Call.operands,this]
 ·cases h
theorem zfK{PS:List Nat}(hz:C.st=true->∀x∈PS,x<600):∀(l:List Operand) (S:yb) (D:Env),Agr S D->
 ∃m:List Nat,(m=[]\/C.st=false)/\(∀t∈m,t+800∈PS/\Operand.tmp t∈l)/\Agr (zbW (yz T) PS S l) (YE D m)
 |[],S,D,hA=>⟨[],.inl rfl,by simp,hA⟩
 |x::l,S,D,hA=>by
  have skip:zbW (yz T) PS S (x::l)=zbW (yz T) PS S l->∃m:List Nat,(m=[]\/C.st=false)/\(∀t∈m,t+800∈PS/\Operand.tmp t∈x::l)/\Agr (zbW (yz T) PS S (x::l)) (YE D m):=by
   intro e;obtain⟨m,h1,h2,h3⟩:=zfK hz l S D hA;exact⟨m,h1,fun t ht=>⟨(h2 t ht).1,zI _ (h2 t ht).2⟩,by rw[e];exact h3⟩
  cases x with
  |tmp t=>
   cases hm:jW PS (t+800)with
   |false=>exact skip (by simp only[zbW,hm])
   |true=>
    cases ho:kI S t with
    |none=>exact skip (by simp only[zbW,hm,ho])
    |some y=>
     by_cases hy:∃e d es,y=.slc true e d es
     ·obtain⟨e,d,es,rfl⟩:=hy
      have hst:C.st=false:=by
       cases hh:C.st with
       |false=>rfl
       |true=>have:=hz hh _ (kq.1 hm);omega
      have hA1:Agr (jU (KG t S) t none (.val (V.slc true e d es).frz)) ((D.drp t).put t true (.val (V.slc true e d es).frz)):=(hA.drp (d:=t)).put (d:=t) (g:=none) (a:=.val (V.slc true e d es).frz) (a':=.val (V.slc true e d es).frz) rfl (fun _=>rfl);obtain⟨m,h1,h2,h3⟩:=zfK hz l _ _ hA1;refine⟨t::m,.inr hst,fun s hs=>?_,?_⟩
      ·rcases zJ.1 hs with rfl|hs
       ·exact⟨kq.1 hm,by simp⟩
       ·exact⟨(h2 s hs).1,zI _ (h2 s hs).2⟩
      ·simp only[zbW,hm,ho,YE,yO hA ho,YW];exact h3
     ·refine skip ?_;simp only[zbW,hm,ho];split
      ·rename_i h;simp only[za]at h;exact absurd ⟨_,_,_,h⟩ hy
      ·rfl
  |_=>exact skip (by simp only[zbW])
theorem ZU{Bi:qV}{PS:List Nat}(hz:C.st=true->∀x∈PS,x<600)(hT:TabOk C.P T)(hΦ:C.Φ=Ka B)(hΨ:zcv C Bi){ops:Array Oper}{K:yb->Prop}{K':Env->Prop}(hK:∀S D,K S->Agr S D->K' D):∀(l:List Oper) (S:yb) (D:Env),zco T C.lo C.st l=true->
 evL (yz T) T B Bi PS C.nt ops.toList l S K->Agr S D->evO C ops l D K'
 |[],S,D,_,h,hA=>hK S D h hA
 |o::l,S,D,hst,h,hA=>by
  simp only[zco,zh]at hst
  have hlo0:∀d,o.dst=some d->C.lo<=d:=fun d hd=>by
   have:=hst.1;simp only[YV,hd,zh]at this;exact km this.1
  unfold evO;simp only[evL]at h;split at h
  ·rename_i d ps es xx ng hs;rw[JP]at h;obtain⟨hp,h1,h2⟩:=h
   have hd:o.dst=some d:=by
    unfold zyl at hs;split at hs
    ·cases hs
    split at hs
    ·rename_i hd;split at hs
     case h_2=>cases hs
     split at hs
     ·split at hs
      ·split at hs
       ·simp only[za,zb]at hs;obtain⟨rfl,_⟩:=hs;exact hd
       ·cases hs
      ·cases hs
     ·cases hs
    ·cases hs
   have hlo:C.lo<=d:=by
    have:=hst.1;simp only[YV,hd,zh]at this;exact km this.1
   obtain⟨q,e1,e2⟩:=zyk hT hA hlo hs hp;refine .inr (.inr (.inl ⟨d,q,es,xx,ng,e1,e2,fun b hb hx=>?_⟩))
   cases b with
   |true=>
    have:es=[]:=by
     cases es with
     |nil=>rfl
     |cons x l=>exact absurd (hb (by simp)) (by simp)
    subst this;exact ZU hz hT hΦ hΨ hK l _ _ hst.2 (h1 rfl) (hA.put (g:=none) (a:=.val (.bool (!ng))) (a':=.val (.bool (true !=ng))) (by cases ng<;>rfl) (fun _=>by cases ng<;>rfl))
   |false=>
    cases xx with
    |false=>exact ZU hz hT hΦ hΨ hK l _ _ hst.2 h2 (hA.put (g:=none) (a:=.val (.bool ng)) (a':=.val (.bool (false !=ng))) (by cases ng<;>rfl) (fun _=>by cases ng<;>rfl))
    |true=>
     have hne:es≠[]:=fun e=>(by cases hx rfl e);refine ZU hz hT hΦ hΨ hK l _ _ hst.2 (h2 ?_) (hA.put (g:=none) (a:=.val (.bool ng)) (a':=.val (.bool (false !=ng))) (by cases ng<;>rfl) (fun _=>by cases ng<;>rfl));have:es.length≠0:=fun e=>hne (yS e);simp[yz];simpa using hne
  ·split at h
   ·rename_i b ps S1 S0 hs;unfold giS at hs;split at hs
    ·cases hs
    split at hs
    ·rename_i b' d hgd hd;split at hs
     ·rename_i hn;split at hs
      ·rename_i ps' S1' hi;split at hs
       ·rename_i r hl;simp only[za,zb]at hs;obtain⟨rfl,rfl,rfl,rfl⟩:=hs
        have hdn:C.dst d:=⟨by
         have:=hst.1;simp only[YV,hd,zh]at this
         exact km this.1,km hn⟩
        have hg1:=ze1 hA hgd
        cases b' with
        |true=>
         have h1:=h.1 rfl;rw[JP]at h1
         obtain⟨p,D',e1,e2,e3⟩:=znB hT hA hΦ hΨ (fun d' hd'=>by
          have:o.dst=some d':=hd'
          rw[hd]at this;simp only[za]at this;subst this;exact hdn) hi h1.1
         refine .inr (.inl ⟨p,D',?_,e2,ZU hz hT hΦ hΨ hK l _ _ hst.2 h1.2 e3⟩);unfold zoS;rw[hg1];exact e1
        |false=>
         have h2:=h.2 rfl;refine .inl ⟨D,True,D.put d false (.val (.hole 0)),_,FzR.refl,.inl (.inl ?_),trivial,.inl rfl,ZU hz hT hΦ hΨ hK l _ _ hst.2 h2 (hA.put (g:=some false) (a:=.val r) rfl (fun h=>by cases h))⟩;unfold qH;rw[hg1,hd];dsimp only[gb];rw[if_pos hdn]
       ·cases hs
      ·cases hs
     ·cases hs
    ·cases hs
   split at h
   ·rename_i ps S' hs;rw[JP]at h
    cases l with
    |nil=>exact h.2.elim
    |cons o2 l2=>
     simp only[zco,zh]at hst;obtain⟨p,D',e1,e2,e3⟩:=zAr hz hT hA hlo0 hs h.1;exact .inr (.inr (.inr (.inr ⟨p,D',e1,e2,ZU hz hT hΦ hΨ hK l2 S' D' hst.2.2 h.2 e3⟩)))
   split at h
   ·rename_i ps S' hs;rw[JP]at h;split at hs
    ·obtain⟨p,D',e1,e2,e3⟩:=zBz hT hA hlo0 hs h.1;exact .inr (.inr (.inr (.inl ⟨p,D',e1,e2,ZU hz hT hΦ hΨ hK l S' D' hst.2 h.2 e3⟩)))
    split at hs
    ·rename_i hkz;obtain⟨p,D',e1,e2,e3⟩:=zxX hz hT hA hkz hs h.1;exact .inl ⟨D,p,D',D',FzR.refl,.inr (.inr (.inl e1)),e2,.inl rfl,ZU hz hT hΦ hΨ hK l S' D' hst.2 h.2 e3⟩
    split at hs
    ·rename_i hzm;obtain⟨p,D',e1,e2,e3⟩:=zxS hz hT hA hΦ hst.1 hzm hs h.1;exact .inl ⟨D,p,D',D',FzR.refl,e1.imp id (Or.imp id .inl),e2,.inl rfl,ZU hz hT hΦ hΨ hK l S' D' hst.2 h.2 e3⟩
    split at hs
    ·obtain⟨p,D1,D',e1,e2,e3,e4⟩:=zxU hT hA hΦ hΨ hst.1 hs h.1;exact .inl ⟨D,p,D1,D',FzR.refl,e1,e2,e3,ZU hz hT hΦ hΨ hK l S' D' hst.2 h.2 e4⟩
    obtain⟨m,m1,_,m3⟩:=zfK hz (zjT o.op) S D hA;obtain⟨p,D',e1,e2,e3⟩:=zn8 hT m3 hΦ hΨ hst.1 hs h.1;exact .inl ⟨_,p,D',D',⟨m,m1,rfl⟩,.inl e1,e2,.inl rfl,ZU hz hT hΦ hΨ hK l S' D' hst.2 h.2 e3⟩
   ·exact h.elim
def znN:List Nat->Env->Env
 |[],D=>D
 |t::l,D=>znN l (D.drp t)
theorem zz6{a:Act}{w:World}:∀(l:List Nat) (D:Env),G C D a w->G C (znN l D) a w
 |[],_,h=>h
 |t::l,D,⟨F,O,hI⟩=>zz6 l _ ⟨F,_,(hI.drop t).lessZ (fun _ h=>h.elim)⟩
theorem ziV:∀(l:List Nat) (D:Env) (t:Nat),t∉l->znN l D t=D t
 |[],_,_,_=>rfl
 |s::l,D,t,h=>by
  simp only[zJ,not_or]at h;rw[znN,ziV l _ t h.2];simp[Env.drp,h.1]
theorem zwC:∀(l:List Nat) (D:Env) (t:Nat),t∈l->(znN l D t).owner=false
 |s::l,D,t,h=>by
  by_cases ht:t∈l
  ·exact zwC l _ t ht
  ·rw[znN,ziV l _ t ht];rcases zJ.1 h with rfl|h
   ·simp[Env.drp,E.owner]
   ·exact absurd h ht
theorem zFd{a:A}{ks:List Nat}(h:a.in0 ks=true){s:Nat}(hs:a.at0 s=true):s∈ks:=by
 cases a with
 |rf t v p=>have:=qX hs;subst this;exact kq.1 h
 |ad t v p=>have:=qX hs;subst this;exact kq.1 h
 |ag t v p fs=>have:=qX hs;subst this;exact kq.1 h
 |_=>simp[A.at0]at hs
theorem Agr.keep(hA:Agr S D)(ks:List Nat):Agr (Yt ks S) (znN ((S.map (·.1)).filter (fun t=> !jW ks t)) D):=by
 have hin:∀t,t∈ks->t∉(S.map (·.1)).filter (fun t=> !jW ks t):=by
  intro t ht h;have:=(jJ.1 h).2;rw[kq.2 ht]at this;cases this
 refine⟨fun t g a h=>?_,fun t h=>?_⟩
 ·obtain⟨h1,h2,h3⟩:=zgy.1 h;have h2':t∈ks:=kq.1 h2;rw[zec (D:=D) (fun s hs=>by rw[ziV _ _ _ (hin s (zFd h3 hs))])];rw[ziV _ _ _ (hin t h2')];exact hA.on t g a h1
 ·by_cases hm:t∈(S.map (·.1)).filter (fun t=> !jW ks t)
  ·exact zwC _ _ _ hm
  ·rw[ziV _ _ _ hm];by_cases hx:∃e,(t,e)∈S
   ·obtain⟨⟨g,b⟩,hx⟩:=hx
    have hk:jW ks t=true:=by
     cases hh:jW ks t with
     |true=>rfl
     |false=>exact absurd (jJ.2 ⟨List.mem_map.2 ⟨_,hx,rfl⟩,by simp[hh]⟩) hm
    cases hb:b.in0 ks with
    |true=>exact absurd (zgy.2 ⟨hx,hk,hb⟩) (h (g,b))
    |false=>
     have:∃d,b.at0 d=true:=by
      cases b with
      |rf s v p=>exact⟨s,ZS s⟩
      |ad s v p=>exact⟨s,ZS s⟩
      |ag s v p fs=>exact⟨s,ZS s⟩
      |_=>simp[A.in0]at hb
     obtain⟨d,hd⟩:=this;exact hA.ref_off hx hd
   ·exact hA.off t (fun e he=>hx ⟨e,he⟩)
theorem zsd{PS:List Nat}(hA:Agr S D){x:Operand}(h:zn2 PS S x=true):KJ PS D x=true:=by
 cases x with
 |tmp t=>
  simp only[zn2]at h;split at h
  ·rename_i v hl;have h3:(D t).a=.val v:=(hA.on _ _ _ (kr hl)).2.2 rfl;simp only[KJ,h3];simp only[jg]at h ⊢;refine h.imp id (fun h=>?_);simpa using kq.1 h
  ·cases h
 |const v=>rfl
 |func f=>rfl
 |global g=>simp[zn2]at h
theorem zkw{PS:List Nat}(hA:Agr S D):∀{l:List Operand},zlT PS S l=true->zij PS D l=true
 |[],_=>rfl
 |x::l,h=>by
  simp only[zlT,zh]at h;have h2:=zkw hA h.2;unfold zij at h2 ⊢;simp only[List.all_cons,zh];exact⟨zsd hA h.1,h2⟩
theorem zpx:∀l:List (Nat×Operand),zsk l=l.map (·.2)
 |[]=>rfl
 |(_,x)::l=>by simp[zsk,zpx l]
theorem zDR{o:Op}{l:List Operand}(h:zBT o=some l):l=o.operands.toList:=by
 unfold zBT at h;split at h
 ·simp only[za]at h;subst h;rfl
 ·simp only[za]at h;subst h;simp[zpx,Op.operands]
 ·simp only[za]at h;subst h;simp[zpx,Op.operands]
 ·simp only[za]at h;subst h;simp[Op.operands,Call.operands]
 ·cases h
theorem zow(hA:Agr S D){l:List Operand}(h:zk8 S l=true):zel D l=true:=by
 unfold zk8 at h;split at h
 ·rename_i x y;unfold zel
  cases y with
  |tmp t=>
   simp only[zzz]at h;split at h
   ·rename_i z hl;have h3:(D t).a=.val z:=(hA.on _ _ _ (kr hl)).2.2 rfl;simp only[zfG,h3];exact h
   ·cases h
  |_=>rfl
 ·cases h
theorem zvp{P:Program}(hT:TabOk P T){e:TypeId}(h:zaB T e=true):zcm P e=true:=by
 unfold zaB at h;unfold zcm;split at h
 ·rename_i k c z ht;rw[hT.kind (by unfold zhF;rw[ht])];rfl
 ·rename_i c z ht;rw[hT.bool (by unfold zfT;rw[ht])];simp
 ·rename_i c z ht;rw[hT.str (by unfold zdA;rw[ht])];simp
 ·cases h
theorem zrI(hT:TabOk C.P T)(hA:Agr S D){l:List Operand}{ts:List TypeId}(h:zpQ T S l ts=true):zeY C D l ts=true:=by
 unfold zpQ at h;split at h
 ·rename_i v u t t';simp only[zh]at h;obtain⟨⟨h1,h2⟩,h3⟩:=h;simp only[zeY,zh];refine⟨⟨?_,?_⟩,?_⟩
  ·split at h1
   ·rename_i z hl;have h4:(D u).a=.val z:=(hA.on _ _ _ (kr hl)).2.2 rfl;rw[h4];exact h1
   ·cases h1
  ·simp only[yK]at h2
   have:v≠u:=fun e=>by
    rw[e]at h2;simp[kQ]at h2
   simpa using this
  ·split at h3
   ·rename_i e he;rw[hT.elem he];exact zvp hT h3
   ·cases h3
 ·cases h
theorem zBS{PS:List Nat}(hT:TabOk C.P T)(hA:Agr S D){o:Oper}(hst:YV T C.lo C.st o=true){ps:List Prop}{S':yb}(hn:∀d,o.dst=some d->C.dst d)(h:pS (yz T) T PS S o=some (ps,S'))(hp:qA ps):
 ∃p D',Yq C PS D o=some (p,D')/\p/\Agr S' D':=by
 unfold pS at h;split at h
 ·rename_i l hl;split at h
  ·rename_i hw;have hw':=zkw hA hw;rw[zDR hl]at hw';split at h
   ·cases h
   rename_i hg;split at h
   ·rename_i x d hop hd;split at h
    ·rename_i gx a h1;split at h
     ·rename_i qs y S1 h2;split at h
      ·cases h
      rename_i hnh;simp only[za,zb]at h;obtain⟨rfl,rfl⟩:=h;rw[zE]at hp;have o1:=zN hT hA h1 (zT hp.1 rfl);obtain⟨q,D1,t1,t2,t3⟩:=Zc hA h2 hp.2;refine⟨true=true/\q,_,?_,⟨rfl,t2⟩,t3.put (d:=d) (g:=none) (a:=.val y) (a':=.val y) rfl (fun _=>rfl)⟩;unfold Yq;rw[hw',if_pos rfl];simp only[hg,hop,hd,o1,t1];rw[if_pos (by simp[hn d hd,hnh])];rfl
     ·cases h
    ·cases h
   ·rename_i args ats d hop hd;split at h
    ·rename_i hpl;obtain⟨p,D',h1,h2,h3,_⟩:=zcx hT hA hn hst h hp;refine⟨p,D',?_,h2,h3⟩;unfold Yq;rw[hw',if_pos rfl];simp only[hg,hop,hd];rw[if_pos (by rw[jg];rw[jg]at hpl;exact hpl.imp (zow hA) (zrI hT hA))];exact h1
    ·cases h
   ·rename_i hna hnb;obtain⟨p,D',h1,h2,h3⟩:=ztc hT hA hn h hp;refine⟨p,D',?_,h2,h3⟩;unfold Yq;rw[hw',if_pos rfl];split
    ·rename_i x d _ hop hd;exact absurd hd (hna x d hop)
    ·rename_i args ats d _ hop hd;exact absurd hd (hnb args ats d hop)
    ·exact h1
  ·cases h
 ·cases h
theorem zmM{PS:List Nat}{a:A}(h:zrP PS a=false){s ver:Nat}(hr:(vz D a).refs=some (s,ver)):s∉PS:=by
 intro hs;have:=kq.2 hs;cases a<;>simp_all [zrP,vz,A.refs]
theorem zGm{T:kH}{PS:List Nat}{o:Oper}(h:zM PS o=true):kM T PS o=true:=by
 have h':=h;unfold zM at h;split at h
 ·rename_i f ats args d hop hd;unfold kM;rw[hop];simp[h']
 ·cases h
theorem zmI{Bi:qV}{PS:List Nat}(hT:TabOk C.P T)(hA:Agr S D)(hΦ:C.Φ=Ka B)(hΨ:zcv C Bi){ops:Array Oper}{o:Oper}(hst:YV T C.lo C.st o=true)(has:∀x,o.op=.assign x->∀d,o.dst=some d->d∉PS)(hz:C.st=true->∀x∈PS,x<600)(hlb:ZX PS o=false){ps:List Prop}{S':yb}(h:zrL (yz T) T B Bi PS C.nt ops.toList S o=some (ps,S'))(hp:qA ps):
 ∃p D',zdZ C ops PS (kM T PS o) D o p D'/\p/\Agr S' D':=by
 have nlb:∀{p:Prop},ZX PS o=true->p:=fun h=>by rw[hlb]at h;cases h
 unfold zrL at h;split at h
 ·rename_i g hgd;have hg1:=ze1 hA hgd;split at h
  ·rename_i d hd;split at h
   ·rename_i hn
    have hdn:C.dst d:=⟨by
     simp only[YV,hd,zh]at hst
     exact km hst.1,km hn⟩
    split at h
    ·rename_i qs a hlop;split at h
     ·rename_i hzm;split at h
      ·rename_i y;split at h
       ·rename_i hown;simp only[za,zb]at h;obtain⟨rfl,rfl⟩:=h
        have hst0:C.st=false:=by
         cases hh:C.st with
         |false=>rfl
         |true=>
          obtain⟨x,hx,hx6⟩:=zCX hzm;have:=hz hh x hx;omega
        obtain⟨p,e1,e2⟩:=zbB hT hA hΦ (g:=none) rfl hlop hp
        have el:qH C ops D o=some (p,D.put d true (.val y)):=by
         unfold qH;rw[hg1,hd];dsimp only[gb];rw[e1];dsimp only[vz];rw[if_pos hdn]
        have eo:(D.put d true (.val y)).own d ((D.put d true (.val y)) d).ver=some y:=Env.own_iff'.2 ⟨by simp[Env.put],rfl,by simp[Env.put],hown⟩;refine⟨p/\C.st=false,_,.inl ⟨zGm hzm,.inr (.inr (.inr (.inl (by unfold zeJ;rw[hd];dsimp only;rw[el];dsimp only;rw[eo])))),nlb⟩,⟨e2,hst0⟩,?_⟩;have hA1:Agr (jU S d none (.val y)) (D.put d true (.val y)):=hA.put (g:=none) (a:=.val y) rfl (fun _=>rfl);rw[YW];exact(hA1.drp (d:=d)).put (d:=d) (g:=none) (a:=.val y.frz) (a':=.val y.frz) rfl (fun _=>rfl)
       ·cases h
      ·cases h
     split at h
     ·cases h
     ·rename_i hat
      simp only[jh]at hat
      obtain⟨⟨ha1,ha3⟩,ha2⟩:=hat
      simp only[za,zb]at h;obtain⟨rfl,rfl⟩:=h
      have main:∃p a',qH C ops D o=some (p,D.put d (gb g) a')/\p/\(gb g=true->a'=vz D a)/\(∀s ver,a'.refs=some (s,ver)->s∉PS):=by
       cases hgb:gb g with
       |true=>
        obtain⟨p,e1,e2⟩:=zbB hT hA hΦ hgb hlop hp;refine⟨p,vz D a,?_,e2,fun _=>rfl,fun s ver hr=>zmM ha3 hr⟩;unfold qH;rw[hg1,hgb,hd];dsimp only;rw[e1];dsimp only;rw[if_pos hdn]
       |false=>
        refine⟨True,.val (.hole 0),?_,trivial,fun h=>(by cases h),fun s ver hr=>by simp[A.refs]at hr⟩;unfold qH;rw[hg1,hgb,hd];dsimp only;rw[if_pos hdn]
      obtain⟨p,a',e1,e2,e3,e4⟩:=main
      have hro:Kk PS (D.put d (gb g) a') o:=by
       intro d' hd' s ver hr;rw[hd]at hd';simp only[za]at hd';subst hd';simp only[Env.put,if_true]at hr;exact e4 s ver hr
      refine⟨p,_,?_,e2,hA.put ha1 e3⟩
      cases hk:kM T PS o with
      |true=>exact .inl ⟨rfl,.inl ⟨e1,hro⟩,nlb⟩
      |false=>
       rw[hk]at ha2;have:znu (look S d)=false:=(by simpa using ha2);exact .inr ⟨rfl,d,hd,zfH hA this,.inl ⟨e1,hro⟩,nlb⟩
    ·split at h
     ·rename_i hk;have hdd:∀d',o.dst=some d'->C.dst d':=fun d' hd'=>(by rw[hd]at hd';simp only[za]at hd';subst hd';exact hdn);split at h
      ·rename_i r hr;simp only[za]at h;subst h;obtain⟨p,D',e1,e2,e3,_⟩:=zcx hT hA hdd hst hr hp;exact⟨p,D',.inl ⟨hk,.inr (.inl ⟨e1,has⟩),nlb⟩,e2,e3⟩
      ·obtain⟨p,D',e1,e2,e3⟩:=zse hT hA hΦ hΨ hdd h hp;exact⟨p,D',.inl ⟨hk,.inr (.inr (.inl e1)),nlb⟩,e2,e3⟩
     ·rename_i hk;split at h
      ·cases h
      ·rename_i how;obtain⟨p,D',e1,e2,e3⟩:=zBS hT hA hst (fun d' hd'=>by rw[hd]at hd';simp only[za]at hd';subst hd';exact hdn) h hp;exact⟨p,D',.inr ⟨by simpa using hk,d,hd,zfH hA how,.inr e1,nlb⟩,e2,e3⟩
   ·cases h
  ·rename_i hd;obtain⟨p,D',e1,e2,e3,_,_,e6⟩:=zcx hT hA (fun d' hd'=>by rw[hd]at hd';cases hd') hst h hp
   have hk:kM T PS o=true:=by
    unfold kM;split
    ·rename_i t hop;split
     ·exfalso;unfold qQ at e1;rw[hop,hd]at e1;cases hg:o.guard<;>simp[hg]at e1
     ·exact e6 hd
    ·rename_i args ats hop;have:=e6 hd;split
     ·rename_i hd2;rw[hd]at hd2;cases hd2
     ·exact this
    ·rename_i k args ats hop;have:=e6 hd;simp[kO,kT,hop]at this
    ·exact e6 hd
   exact⟨p,D',.inl ⟨hk,.inr (.inl ⟨e1,has⟩),nlb⟩,e2,e3⟩
 ·cases h
theorem zsZ{PS:List Nat}(hA:Agr S D){t:Nat}(h:zoH PS S (.tmp t)=true):(∀s v,(D t).a.refs=some (s,v)->s+800∉PS)/\∀x,(D t).a=.val x->x.owned=true->t+800∉PS:=by
 have nm:∀{k:Nat},(!jW PS k)=true->k∉PS:=fun h hm=>by rw[kq.2 hm]at h;cases h
 simp only[zoH]at h;split at h
 ·rename_i x hl;obtain⟨_,_,e3⟩:=hA.on _ _ _ (kr hl);have e:=e3 rfl;simp only[vz]at e;rw[e];refine⟨fun s v hr=>by simp[A.refs]at hr,fun y hy ho=>?_⟩;simp only[A.val.injEq]at hy;subst hy;rw[ho]at h;exact nm (by simpa using h)
 ·rename_i x hl;obtain⟨_,_,e3⟩:=hA.on _ _ _ (kr hl);have e:=e3 rfl;simp only[vz]at e;rw[e];exact⟨fun s v hr=>by simp[A.refs]at hr,fun y hy=>by cases hy⟩
 ·rename_i s0 v0 p0 hl;obtain⟨_,_,e3⟩:=hA.on _ _ _ (kr hl);have e:=e3 rfl;simp only[vz]at e;rw[e];refine⟨fun s v hr=>?_,fun y hy=>by cases hy⟩;simp only[A.refs,za,zb]at hr;rw[<-hr.1];exact nm h
 ·rename_i s0 v0 p0 hl;obtain⟨_,_,e3⟩:=hA.on _ _ _ (kr hl);have e:=e3 rfl;simp only[vz]at e;rw[e];refine⟨fun s v hr=>?_,fun y hy=>by cases hy⟩;simp only[A.refs,za,zb]at hr;rw[<-hr.1];exact nm h
 ·cases h
theorem zoF{PS:List Nat}:∀{l:List Operand},zoG PS S l=true->∀x∈l,zoH PS S x=true
 |[],_,x,hx=>by cases hx
 |y::l,h,x,hx=>by
  simp only[zoG,zh]at h;rcases zJ.1 hx with rfl|hx
  ·exact h.1
  ·exact zoF h.2 x hx
theorem zrJ{PS:List Nat}(hA:Agr S D){o:Oper}(hg:o.guard=none)(hd:o.dst=none)(h:zpU PS S o=true):zlP PS D o:=by
 unfold zpU at h;split at h
 ·rename_i t tx tv hop;split at h
  ·rename_i y hly;simp only[zh,yK]at h;obtain⟨hy,h⟩:=h;obtain⟨_,_,y3⟩:=hA.on _ _ _ (kr hly);have ey:=y3 rfl;simp only[vz]at ey;split at h
   ·rename_i s v p hlx;simp only[zh]at h;obtain⟨h1,h2⟩:=h;obtain⟨_,_,x3⟩:=hA.on _ _ _ (kr hlx);have ex:=x3 rfl;simp only[vz]at ex;split at h2
    ·rename_i r hr;exact⟨t,tx,tv,s,(D s).ver,p,r,y,hg,hd,hop,.inl ex,yO hA hr,kq.1 h1,ey,hy⟩
    ·cases h2
   ·rename_i s v p hlx;simp only[zh]at h;obtain⟨h1,h2⟩:=h;obtain⟨_,_,x3⟩:=hA.on _ _ _ (kr hlx);have ex:=x3 rfl;simp only[vz]at ex;split at h2
    ·rename_i r hr;exact⟨t,tx,tv,s,(D s).ver,p,r,y,hg,hd,hop,.inr (.inl ex),yO hA hr,kq.1 h1,ey,hy⟩
    ·cases h2
   ·rename_i x hlx;simp only[zh]at h;obtain⟨h1,h2⟩:=h;split at h2
    ·rename_i r hr;exact⟨t,tx,tv,tx,(D tx).ver,[],r,y,hg,hd,hop,.inr (.inr ⟨rfl,rfl⟩),yO hA hr,kq.1 h1,ey,hy⟩
    ·cases h2
   ·cases h
  ·cases h
 ·cases h
theorem zvC{PS:List Nat}(hT:TabOk C.P T)(hA:Agr S D){o:Oper}(hg:o.guard=none)(h:zyt T PS S o=true):zpo C PS D o:=by
 unfold zyt at h;split at h
 ·rename_i args ats hop;split at h
  ·rename_i tx ty t t' hargs hats;split at h
   ·rename_i s v i q z hlx hly;simp only[zh,yK]at h;obtain⟨⟨⟨h1,h2⟩,h4⟩,h3⟩:=h;obtain⟨_,_,x3⟩:=hA.on _ _ _ (kr hlx);obtain⟨_,_,y3⟩:=hA.on _ _ _ (kr hly);have ex:=x3 rfl;have ey:=y3 rfl;simp only[vz]at ex ey
    have hr:∃r,kI S s=some r/\∀fs,r≠.tup fs:=by
     split at h1
     ·rename_i hh;exact⟨_,hh,fun fs e=>by cases e⟩
     ·rename_i hh;exact⟨_,hh,fun fs e=>by cases e⟩
     ·rename_i hh;exact⟨_,hh,fun fs e=>by cases e⟩
     ·cases h1
    obtain⟨r,hr1,hr2⟩:=hr;refine⟨args,ats,tx,ty,t,t',s,(D s).ver,i,q,r,z,hg,hop,hargs,hats,fun e he=>?_,ex,yO hA hr1,hr2,fun e=>(by subst e;rw[ZS]at h2;cases h2),ey,kq.1 h4⟩;split at h3
    ·rename_i e' he';have hee:=hT.elem he';rw[he]at hee;simp only[za]at hee;subst hee
     obtain⟨te,hte⟩:∃te,jb T e=some te:=by
      unfold zaB at h3
      cases hh:jb T e with
      |none=>rw[hh]at h3;cases h3
      |some te=>exact⟨te,rfl⟩
     have hsc:zcm C.P e=zaB T e:=by
      have hg:=hT.got hte;have i1:zaz C.P e=(zfy te).int:=congrArg Got.int hg;have i2:Kg C.P e=(zfy te).str:=congrArg Got.str hg;have i3:zhO C.P e=(zfy te).bool:=congrArg Got.bool hg;unfold zcm zaB;rw[i1,i2,i3,hte];obtain⟨k,c,z⟩:=te;cases k<;>rfl
     rw[hsc,h3]
    ·cases h3
   ·cases h
  ·cases h
 ·cases h
theorem zf8(hA:Agr S D):∀{l:List Operand},zeV S l=true->∀t,Operand.tmp t∈l->∃z,(D t).a=.val z
 |[],_,t,ht=>by cases ht
 |x::l,h,t,ht=>by
  have hl:zeV S l=true:=by
   cases x with
   |tmp u=>simp only[zeV,zh]at h;exact h.2
   |_=>simpa only[zeV]using h
  rcases zJ.1 ht with e|ht
  ·subst e;simp only[zeV,zh]at h;have h1:=h.1;split at h1
   ·rename_i z hz;obtain⟨_,_,x3⟩:=hA.on _ _ _ (kr hz);have ex:=x3 rfl;simp only[vz]at ex;exact⟨z,ex⟩
   ·cases h1
  ·exact zf8 hA hl t ht
theorem zrK{Bi:qV}{PS:List Nat}(hA:Agr S D)(hΨ:zcv C Bi){o:Oper}{d:Nat}(hg:o.guard=none)(hd:o.dst=some d)(h:zpV Bi PS S o=true):zcj C PS D o:=by
 unfold zpV at h;split at h
 ·rename_i k args ats hop;split at h
  ·rename_i j c hIk;split at h
   ·rename_i x hx;simp only[zh]at h;obtain⟨h1,h3⟩:=h
    obtain⟨c',hc'⟩:∃c',C.Ψ k=some (j,false,c'):=⟨fun args=>match c args with
     |some (ps,r,y)=>some (qA ps,r,y)
     |none=>none,by rw[hΨ.1];simp only[psi,hIk]⟩
    split at h1
    ·rename_i z hz;simp only[zh]at h1;obtain⟨_,_,x3⟩:=hA.on _ _ _ (kr hz);have ex:=x3 rfl;simp only[vz]at ex;exact⟨k,args,ats,j,_,x,(D x).g,x,(D x).ver,d,hg,hop,hd,hc',hx,by simp only[opd,ex];rw[if_pos h1.1],kq.1 h1.2,zf8 hA h3⟩
    ·rename_i s v hz;obtain⟨_,_,x3⟩:=hA.on _ _ _ (kr hz);have ex:=x3 rfl;simp only[vz]at ex;exact⟨k,args,ats,j,_,x,(D x).g,s,(D s).ver,d,hg,hop,hd,hc',hx,by simp only[opd,ex],kq.1 h1,zf8 hA h3⟩
    ·cases h1
   ·cases h
  ·cases h
 ·cases h
theorem zxV{Bi:qV}{PS:List Nat}(hT:TabOk C.P T)(hA:Agr S D)(hΦ:C.Φ=Ka B)(hΨ:zcv C Bi){ops:Array Oper}{o:Oper}(hst:YV T C.lo C.st o=true)(has:∀x,o.op=.assign x->∀d,o.dst=some d->d∉PS)(hz:C.st=true->∀x∈PS,x<600){ps:List Prop}{S':yb}(h:zBn (yz T) T B Bi PS C.nt ops.toList S o=some (ps,S'))(hp:qA ps):
 ∃p D',zdZ C ops PS (kM T PS o) D o p D'/\p/\Agr S' D':=by
 unfold zBn at h;split at h
 ·rename_i d hd;split at h
  ·rename_i hm;unfold zEN at h;split at h
   ·rename_i hg hn
    have hdn:C.dst d:=⟨by
     simp only[YV,hd,zh]at hst
     exact km hst.1,km hn⟩
    split at h
    ·rename_i hk;split at h
     ·rename_i hls;obtain⟨p,D',e1,e2,e3,_⟩:=zcx hT hA (fun d' hd'=>by rw[hd]at hd';simp only[za]at hd';subst hd';exact hdn) hst h hp;exact⟨p,D',.inl ⟨hk,.inr (.inl ⟨e1,has⟩),fun _=>.inl ⟨e1,.inl (zvC hT hA hg hls)⟩⟩,e2,e3⟩
     ·split at h
      ·rename_i hls;obtain⟨m,m1,m2,m3⟩:=zfK hz (zjT o.op) S D hA;obtain⟨p,D',e1,e2,e3⟩:=znB hT m3 hΦ hΨ (fun d' hd'=>by rw[hd]at hd';simp only[za]at hd';subst hd';exact hdn) h hp;have hl:=zrK m3 hΨ hg hd hls;have hio:ze6 C PS D o p D':=⟨m,m1,fun t ht=>⟨(m2 t ht).1,zzC (m2 t ht).2⟩,e1,hl⟩;exact⟨p,D',.inl ⟨hk,.inr (.inr (.inr (.inr hio))),fun _=>.inr hio⟩,e2,e3⟩
      ·cases h
    ·rename_i hk;split at h
     ·rename_i hnr;split at h
      ·rename_i qs a hlop;split at h
       ·cases h
       ·rename_i hat
        simp only[jh]at hat
        obtain⟨⟨ha1,ha3⟩,ha2⟩:=hat
        simp only[za,zb]at h;obtain⟨rfl,rfl⟩:=h;obtain⟨p,e1,e2⟩:=zbB hT hA hΦ (g:=none) rfl hlop hp
        have el:qH C ops D o=some (p,D.put d true (vz D a)):=by
         unfold qH;have:gd ops D o=some true:=(by unfold gd;rw[hg]);rw[this,hd];dsimp only;rw[e1];dsimp only;rw[if_pos hdn]
        have hro:Kk PS (D.put d true (vz D a)) o:=by
         intro d' hd' s ver hr;rw[hd]at hd';simp only[za]at hd';subst hd';simp only[Env.put,if_true]at hr;exact zmM ha3 hr
        refine⟨p,_,.inr ⟨by simpa using hk,d,hd,zfH hA ha2,.inl ⟨el,hro⟩,fun _=>⟨⟨hg,fun t ht=>zsZ hA (zoF hnr _ (by simpa using ht))⟩,el,hro⟩⟩,e2,hA.put (g:=none) ha1 (fun _=>rfl)⟩
      ·cases h
     ·cases h
   ·cases h
  ·rename_i hm;refine zmI hT hA hΦ hΨ hst has hz ?_ h hp;unfold ZX;rw[hd];dsimp only
   cases hc:PS.contains (d+800)with
   |false=>rfl
   |true=>
    have:=kq.2 (show d+800∈PS by simpa using hc);rw[this]at hm;cases hm
 ·rename_i hd;split at h
  ·rename_i hm;split at h
   ·rename_i hg hk;simp only[zh]at hk;obtain⟨p,D',e1,e2,e3,_⟩:=zcx hT hA (fun d' hd'=>by rw[hd]at hd';cases hd') hst h hp;exact⟨p,D',.inl ⟨hk.1,.inr (.inl ⟨e1,has⟩),fun _=>.inl ⟨e1,.inr (zrJ hA hg hd hk.2)⟩⟩,e2,e3⟩
   ·cases h
  ·rename_i hm;refine zmI hT hA hΦ hΨ hst has hz ?_ h hp;unfold ZX;rw[hd];dsimp only
   cases hc:PS.contains 998 with
   |false=>rfl
   |true=>
    have:=kq.2 (show 998∈PS by simpa using hc);rw[this]at hm;cases hm
def zkm(PS:List Nat):List Oper->Bool
 |[]=>true
 |o::l=>(match o.op,o.dst with
  | .assign _,some d=> !jW PS d
  |_,_=>true)&&zkm PS l
theorem zrl{Bi:qV}{PS:List Nat}(hT:TabOk C.P T)(hΦ:C.Φ=Ka B)(hΨ:zcv C Bi){ops:Array Oper}{K:yb->Prop}{K':Env->Prop}(hK:∀S D,K S->Agr S D->K' D)(hz:C.st=true->∀x∈PS,x<600):∀(l:List Oper) (S:yb) (D:Env),zco T C.lo C.st l=true->zkm PS l=true->evP (yz T) T B Bi PS C.nt ops.toList l S K->Agr S D->evM C ops PS l (l.map (kM T PS)) D K'
 |[],S,D,_,_,h,hA=>hK S D h hA
 |o::l,S,D,hst,has,h,hA=>by
  simp only[zco,zh]at hst;simp only[zkm,zh]at has;simp only[evP]at h;split at h
  ·rename_i ps S' hs;rw[JP]at h
   obtain⟨p,D',e1,e2,e3⟩:=zxV hT hA hΦ hΨ hst.1 (fun x hop d hd hm=>by
    have:=has.1;rw[hop,hd]at this
    simp[kq.2 hm]at this) hz hs h.1
   exact⟨p,D',e1,e2,zrl hT hΦ hΨ hK hz l S' D' hst.2 has.2 h.2 e3⟩
  ·exact h.elim
theorem zlb{lo:Nat}{st:Bool}:∀{l:List Oper},zco T lo st l=true↔∀o∈l,YV T lo st o=true
 |[]=>by simp[zco]
 |x::l=>by simp only[zco,zh,zlb (l:=l),zJ,forall_eq_or_imp]
def zGA(PS:List Nat)(o:Oper):Bool:=match o.op,o.dst with
 | .assign _,some d=> !jW PS d
 |_,_=>true
theorem zlI{PS:List Nat}:∀{l:List Oper},zkm PS l=true↔∀o∈l,zGA PS o=true
 |[]=>by simp[zkm]
 |x::l=>by
  simp only[zkm,zh,zlI (l:=l),zJ,forall_eq_or_imp];exact Iff.rfl
theorem zhA{ops:List Oper}:∀{H:List Nat} {o:Oper},o∈uf ops H->o∈ops
 |[],o,h=>by simp[uf]at h
 |i::H,o,h=>by
  simp only[uf]at h;split at h
  ·rename_i x hx;rcases zJ.1 h with rfl|h
   ·exact yo hx
   ·exact zhA h
  ·exact zhA h
theorem ztl{PS:List Nat}{ops:Array Oper}:∀{H:List Nat} {l:Array Bool},zgQ ops H l=true->(uf ops.toList H).map (kM T PS)=(uf ops.toList H).map (fun _=>false)
 |[],_,_=>rfl
 |i::H,l,hc=>by
  simp only[zgQ,zh]at hc;have ih:=ztl (PS:=PS) hc.2;have h1:=hc.1.1.1
  cases ho:ops[i]? with
  |none=>rw[ho]at h1;cases h1
  |some o=>
   rw[ho]at h1;simp only[zh]at h1;have ho':ops.toList[i]? =some o:=(by simpa using ho);simp only[uf,ho',qo,ih];congr 1;have hm:=h1.1;unfold kM;cases hop:o.op<;>simp[zll,hop]at hm;simp[kO,kT,hop]
theorem zwk{PS:List Nat}{ops:Array Oper}:∀(R:List Nat),(∀i∈R,i<ops.size)->(uf ops.toList R).map (kM T PS)=R.map fun i=>(ops.toList.map (kM T PS)).getD i true
 |[],_=>rfl
 |i::R,hr=>by
  have hi:i<ops.size:=hr i (by simp);have ho:ops.toList[i]? =some ops[i]:=by simp[hi]
  simp only[uf,ho,qo,zwk R (fun j hj=>hr j (by simp[hj]))];congr 1;simp[List.getD_eq_getElem?_getD,zK,hi]
theorem zwO:∀a b:List Oper,appS a b=a++b
 |[],_=>rfl
 |x::a,b=>by simp[appS,zwO a b]
theorem zwd:∀(l:List Oper) (i:Nat),zh9 l i=l[i]?
 |[],_=>by simp[zh9]
 |_::_,0=>rfl
 |_::l,i+1=>by simp[zh9,zwd l i]
theorem zsX(ops:List Oper):∀H:List Nat,zoE ops H=uf ops H
 |[]=>rfl
 |i::H=>by
  simp only[zoE,uf,zwd,zsX ops H];all_goals (cases ops[i]? <;>rfl)
theorem zsD(H:List Nat):∀(l:List Oper) (i:Nat) (ops:List Oper),(∀j,l[j]? =ops[i+j]?)->zhv H i l=uf ops (((List.range l.length).map (i+ ·)).filter fun k=> !H.contains k)
 |[],i,ops,_=>by simp[zhv,uf]
 |o::l,i,ops,h=>by
  have e:(List.range (o::l).length).map (i+ ·)=i::(List.range l.length).map (i+1+ ·):=by
   rw[zj,JS];simp only[qo,List.map_map,Nat.add_zero,List.cons.injEq,true_and];apply List.map_congr_left;intro j _;simp only[Function.comp];omega
  have ih:=zsD H l (i+1) ops (fun j=>by have:=h (j+1);simpa [Nat.add_assoc,Nat.add_comm 1 j]using this);have hi:ops[i]? =some o:=by simpa using(h 0).symm
  rw[e];simp only[zhv,List.filter_cons]
  cases hm:jW H i with
  |true=>
   have:H.contains i=true:=(by simpa using kq.1 hm);rw[this];exact ih
  |false=>
   have:H.contains i=false:=by
    cases hh:H.contains i with
    |false=>rfl
    |true=>rw[kq.2 (by simpa using hh)]at hm;cases hm
   rw[this];simp only[Bool.not_false,if_true,uf,hi];rw[ih]
theorem zDP(ops:Array Oper)(H:List Nat):zE6 ops.toList H=uf ops.toList H++uf ops.toList (zbx ops.size H):=by
 have h0:(List.range ops.toList.length).map (0+ ·)=List.range ops.size:=by simp
 have h1:=zsD H ops.toList 0 ops.toList (fun j=>by simp);rw[h0]at h1
 cases H with
 |nil=>
  have h2:∀(l:List Oper) (i:Nat),zhv [] i l=l:=by
   intro l
   induction l with
   |nil=>intro i;rfl
   |cons o l ih=>intro i;simp[zhv,jW,ih]
  rw[h2]at h1;exact h1
 |cons i H=>
  show appS _ _=_;rw[zwO,zsX,h1];rfl
theorem zlJ:∀{l:List Nat},zpm l S=true->Agr S D->∀s∈l,(D s).owner=false
 |[],_,_,s,hs=>by cases hs
 |t::l,h,hA,s,hs=>by
  simp only[zpm,zh]at h;rcases zJ.1 hs with rfl|hs
  ·have h1:=h.1;split at h1
   ·rename_i hl;exact hA.off _ (zra hl)
   ·cases h1
  ·exact zlJ h.2 hA s hs
def kv(T:kH)(ks:List Nat)(lo:Nat)(st:Bool):Code->Bool
 | .region id ops draw=>(!draw||(match zk6 ks id,zln ks id with
  |[],[]=>chk ops (ops.toList.map (kO T))
  |ps,hs=>zqf ops ps (ops.toList.map (kM T ps)) hs&&zyJ ops ps&&zkm ps ops.toList&&Region.noSelect ops&&zgQ ops hs (Array.replicate ops.size false)&&kQ ((zbx ops.size hs).length+hs.length) ops.size&&(!st||ps.all fun x=>KR x 600)))&&zco T lo st ops.toList&&(!st||((znG ks id).isEmpty&&(zk6 ks id).all fun x=>KR x 600))
 | .seq x y=>kv T ks lo st x&&kv T ks lo st y
 | .cond _ x y=>kv T ks lo st x&&kv T ks lo st y
 | .block _ c=>kv T ks lo st c
 | .loop c=>kv T ks lo st c
 |_=>true
def GS(C:Ctx)(S:yb)(a:Act)(w:World):Prop:=∃D,Agr S D/\G C D a w
def zyh(C:Ctx)(Q:Yw):Exit->Act->World->Prop:=fun e a w=>∃S,Q e S/\GS C S a w
def SW(C:Ctx)(c:Code)(Q:Yw)(S:yb):Prop:=∀a w,GS C S a w->c.wp C.P (zyh C Q) a w
theorem GS.keep{a:Act}{w:World}(h:GS C S a w)(ks:List Nat):GS C (Yt ks S) a w:=by
 obtain⟨D,hA,hG⟩:=h;exact⟨_,hA.keep ks,zz6 _ _ hG⟩
theorem Inv.frzBox{F:Nat->Prop}{O:Nat->Nat->Prop}{a:Act}{w:World}(hI:Inv C F O (fun _=>False) D a w)(hst:C.st=false){s ver:Nat}{e:TypeId}{c:V}(hr:D.own s ver=some (.box e c)):
 ∃F' O',Inv C F' O' (fun _=>False) ((D.drp s).put s true (.val (.box e c.frz))) a w:=by
 obtain⟨hgs,_,ha⟩:=Env.own_elim hr;have hnew:∀b,O s b->C.w0.heap.size<=b\/(C.st=false/\C.X b):=fun b hb=>(hI.ofr s b hb).imp id (fun hx=>⟨hst,hx⟩);obtain⟨cs,e1,e2,e3,e4⟩:=hI.takeAll hgs ha
 cases e2 with
 |box _ _ b cur cs' Oc _ hb hcs hO hOs hrc=>
  have hf:=e4.freezeZ (Zf:=Oc) (fun b' hb'=>.inr (hOs b' hb').1) (fun b' hb'=>hnew b' (hOs b' hb').1);have hrep:Rep C.cz w (fun b=>F b\/Oc b) (.box e c.frz) [.pointer (some ⟨b,0,none⟩)] (fun x=>x=b):=.box e c.frz b cur cs' (fun _=>False) _ hb hcs rfl (fun _ h=>h.elim) hrc.frz;have hreg:(V.box e c.frz).reg [.pointer (some ⟨b,0,none⟩)] (a.tmps.getD s undef):=e1;have h1:=hf.putVal (d:=s) (g:=true) (x:=.box e c.frz) (v:=a.tmps.getD s undef) (On:=fun x=>x=b) e3 (.inr rfl) (fun _=>⟨hreg,hrep⟩) (fun x hx=>by subst hx;exact⟨.inr hO,fun h=>(hOs _ h).2 rfl⟩) (by simp);rw[KQ rfl e3]at h1;exact⟨_,_,h1.lessZ (fun _ h=>h.elim)⟩
theorem GS.fz1(hst:C.st=false){a:Act}{w:World}(h:GS C S a w)(s:Nat):GS C (fz1 (yz T) S s) a w:=by
 unfold Go.Ax.fz1;split
 ·rename_i e d es ho;obtain⟨D,hA,F,O,hI⟩:=h;obtain⟨F',O',h1⟩:=hI.frz1 hst (yO hA ho);exact⟨_,(hA.drp (d:=s)).put (d:=s) (g:=none) (a:=.val (.slc false e d.frz (V.frzs es))) (a':=.val (.slc false e d.frz (V.frzs es))) rfl (fun _=>rfl),F',O',h1⟩
 ·rename_i e c ho;obtain⟨D,hA,F,O,hI⟩:=h;obtain⟨F',O',h1⟩:=hI.frzBox hst (yO hA ho);rw[YW];exact⟨_,(hA.drp (d:=s)).put (d:=s) (g:=none) (a:=.val (.box e c.frz)) (a':=.val (.box e c.frz)) rfl (fun _=>rfl),F',O',h1⟩
 ·exact h
theorem GS.fz2(hst:C.st=false){a:Act}{w:World}(h:GS C S a w)(s:Nat):GS C (fz2 (yz T) S s) a w:=by
 unfold Go.Ax.fz2;split
 ·rename_i e c ho;obtain⟨D,hA,F,O,hI⟩:=h;obtain⟨F',O',h1⟩:=hI.frzG hst (yO hA ho);rw[YW];exact⟨_,(hA.drp (d:=s)).put (d:=s) (g:=none) (a:=.val (.fn 1000000000 [c.frz])) (a':=.val (.fn 1000000000 [c.frz])) rfl (fun _=>rfl),F',O',h1⟩
 ·exact h
theorem zrf(d:V):(ghN d).isBox=false:=by
 cases d<;>rfl
theorem GS.gh1{a:Act}{w:World}(h:GS C S a w)(s:Nat):GS C (gh1 S s) a w:=by
 unfold Go.Ax.gh1;split
 ·rename_i e d es ho;obtain⟨D,hA,F,O,hI⟩:=h;obtain⟨F',O',h1⟩:=hI.ghost (d':=ghN d) (yO hA ho) (fun h=>by rw[zrf]at h;cases h);exact⟨_,(hA.drp (d:=s)).put (d:=s) (g:=none) (a:=.val (.slc true e (ghN d) es)) (a':=.val (.slc true e (ghN d) es)) rfl (fun _=>rfl),F',O',h1⟩
 ·exact h
theorem GS.gh2{a:Act}{w:World}(h:GS C S a w)(s:Nat):GS C (gh2 S s) a w:=by
 unfold Go.Ax.gh2;split
 ·rename_i e e' d es fs ho;obtain⟨D,hA,F,O,hI⟩:=h;obtain⟨F',O',h1⟩:=hI.ghost2 (d':=ghN d) (yO hA ho) (fun h=>by rw[zrf]at h;cases h);exact⟨_,(hA.drp (d:=s)).put (d:=s) (g:=none) (a:=.val (.box e (.agg (.slc true e' (ghN d) es::fs)))) (a':=.val (.box e (.agg (.slc true e' (ghN d) es::fs)))) rfl (fun _=>rfl),F',O',h1⟩
 ·exact h
theorem GS.fzL{a:Act}{w:World}:∀(l:List Nat) {S:yb},(C.st=true->l.isEmpty=true)->GS C S a w->GS C (fzL (yz T) l S) a w
 |[],_,_,h=>h
 |s::l,S,hst,h=>by
  have h0:C.st=false:=by
   cases hh:C.st with
   |false=>rfl
   |true=>have:=hst hh;simp at this
  unfold Go.Ax.fzL;split
  ·exact GS.fzL l (fun h1=>by rw[h0]at h1;cases h1) (h.fz2 h0 _)
  split
  ·exact GS.fzL l (fun h1=>by rw[h0]at h1;cases h1) (h.gh2 _)
  split
  ·exact GS.fzL l (fun h1=>by rw[h0]at h1;cases h1) (h.gh1 _)
  ·exact GS.fzL l (fun h1=>by rw[h0]at h1;cases h1) (h.fz1 h0 s)
theorem zeU{Bi:qV}(hC:Yy C)(hIO:IOk C)(hT:TabOk C.P T)(hΦ:C.Φ=Ka B)(hΨ:zcv C Bi)(hm:C.P.follows .mixedOrders=true){ks:List Nat}{lp:YQ}(hlp:∀c Q S,kv T ks C.lo C.st c=true->lp c Q S->SW C (.loop c) Q S):
 ∀(c:Code) (Q:Yw) (S:yb),kv T ks C.lo C.st c=true->Zq (yz T) T lp B Bi C.nt ks c Q S->SW C c Q S:=by
 intro c
 induction c with
 |skip=>intro Q S _ h a w hG;exact wp_skip ⟨S,h,hG⟩
 |seq x y ihx ihy=>
  intro Q S hc h a w hG;simp only[kv,zh]at hc;simp only[Zq]at h;refine wp_seq (Code.wp_mono (fun e a' w' hq=>?_) (ihx _ _ hc.1 h a w hG));obtain⟨S',hq1,hq2⟩:=hq
  cases e with
  |normal=>exact ihy Q S' hc.2 hq1 a' w' hq2
  |_=>exact⟨S',hq1,hq2⟩
 |region id ops draw=>
  intro Q S hc h a w hG;simp only[kv,zh]at hc;simp only[Zq]at h
  have hcfz:C.st=true->(znG ks id).isEmpty=true:=by
   intro hh;have:=hc.2;rw[hh]at this;simp only[uL,zan,zh]at this;exact this.1
  have hcz:C.st=true->∀x∈zk6 ks id,x<600:=by
   intro hh x hx;have:=hc.2;rw[hh]at this;simp only[uL,zan,zh]at this;exact km (List.all_eq_true.1 this.2 x hx)
  obtain⟨D,hA,hG⟩:=(hG.keep ks).fzL (T:=T) (znG ks id) hcfz;have hK:∀D a w,(∃S',Q .normal S'/\Agr S' D)->G C D a w->zyh C Q .normal a w:=fun D a w ⟨S',h1,h2⟩ h3=>⟨S',h1,D,h2,h3⟩
  cases draw with
  |false=>
   have hev:=ZU hcz (K':=fun D'=>∃S',Q .normal S'/\Agr S' D') hT hΦ hΨ (fun S D h1 h2=>⟨S,h1,h2⟩) ops.toList _ D hc.1.2 h hA;exact zvs hC hIO hG hev hK
  |true=>
   have hc1:=hc.1.1;simp only[uL,zan]at hc1;dsimp only at h;split at h
   ·rename_i hps hhs;rw[hps,hhs]at hc1;have hev:=zrk (K':=fun D'=>∃S',Q .normal S'/\Agr S' D') hT hΦ (fun S D h1 h2=>⟨S,h1,h2⟩) ops.toList _ D hc.1.2 h hA;exact zx5 hC hm hc1 hG hev hK
   ·rename_i hne;split at hc1
    ·rename_i hps hhs;exact(hne hps hhs).elim
    simp only[zh]at hc1;obtain⟨⟨⟨⟨⟨⟨k1,k2⟩,k3⟩,k4⟩,k5⟩,k6⟩,k7⟩:=hc1
    have hz:C.st=true->∀x∈zk6 ks id,x<600:=fun hh x hx=>by
     rw[hh]at k7;simp only[uL,zan]at k7;exact km (List.all_eq_true.1 k7 x hx)
    split at h
    ·rename_i hoff;rw[zDP]at h;have hsub:∀o∈uf ops.toList (zln ks id)++uf ops.toList (zbx ops.size (zln ks id)),o∈ops.toList:=fun o ho=>(List.mem_append.1 ho).elim zhA zhA;have hev:=zrl (K':=fun D'=>∃S',Q .normal S'/\Agr S' D') hT hΦ hΨ (fun S D h1 h2=>⟨S,h1,h2⟩) hz _ _ D (zlb.2 fun o ho=>zlb.1 hc.1.2 o (hsub o ho)) (zlI.2 fun o ho=>zlI.1 k3 o (hsub o ho)) h hA
     have hts:(uf ops.toList (zln ks id)++uf ops.toList (zbx ops.size (zln ks id))).map (kM T (zk6 ks id))=(uf ops.toList (zln ks id)).map (fun _=>false)++(zbx ops.size (zln ks id)).map fun i=>(ops.toList.map (kM T (zk6 ks id))).getD i true:=by
      rw[List.map_append,ztl k5,zwk _ (fun i hi=>by
       have:=(jJ.1 hi).1
       simpa using this)]
     rw[hts]at hev;exact zvt hC hIO hm k1 k2 k4 k5 (qX k6) hG (zlJ hoff hA) hev hK
    ·exact h.elim
 |cond c x y ihx ihy=>
  intro Q S hc h a w hG;simp only[kv,zh]at hc;simp only[Zq]at h;split at h
  ·rename_i b hb;have h':(b=true->Zq (yz T) T lp B Bi C.nt ks x Q (Yt ks S))/\(b=false->Zq (yz T) T lp B Bi C.nt ks y Q (Yt ks S)):=h;have hG':=hG.keep ks;obtain⟨D,hA,F,O,hI⟩:=hG;have o1:=zN hT hA hb rfl;have:=zbE (zX hI o1 rfl).1;refine wp_cond_split this (fun hb=>ihx Q _ hc.1 (h'.1 hb) a w hG') (fun hb=>ihy Q _ hc.2 (h'.2 hb) a w hG')
  ·exact h.elim
 |block id c ih=>
  intro Q S hc h a w hG;simp only[Zq]at h;refine wp_block (Code.wp_mono (fun e a' w' hq=>?_) (ih _ _ hc h a w hG));obtain⟨S',hq1,hq2⟩:=hq
  cases e with
  |exit id'=>
   simp only[zAt]at hq1;simp only[Exit.inBlock];split at hq1
   ·rename_i hid;rw[if_pos (qX hid)];exact⟨S',hq1,hq2⟩
   ·rename_i hid;rw[if_neg (fun e=>by subst e;rw[ZS]at hid;cases hid)];exact⟨S',hq1,hq2⟩
  |_=>exact⟨S',hq1,hq2⟩
 |loop c ih=>
  intro Q S hc h a w hG;exact hlp c Q _ hc h a w (hG.keep ks)
 |exit id=>intro Q S _ h a w hG;exact wp_exit ⟨S,h,hG⟩
 |ret=>intro Q S _ h a w hG;exact wp_ret ⟨S,h,hG⟩
 |_=>intro Q S _ h;exact h.elim
end
open Go.RowKit
section
variable {C:Ctx}{T:kH}{S:yb}{D:Env}{B:kn}
mutual
def _root_.Go.Ax.V.lenOk:V->Prop
 | .slc _ _ _ es=>es.length<=9223372036854775807/\V.lenOks es
 | .agg fs=>V.lenOks fs
 | .tup fs=>V.lenOks fs
 | .box _ c=>c.lenOk
 |_=>True
def _root_.Go.Ax.V.lenOks:List V->Prop
 |[]=>True
 |x::l=>x.lenOk/\V.lenOks l
end
theorem zyq{l:List V}:V.lenOks l↔∀x∈l,x.lenOk:=by
 induction l with
 |nil=>simp[V.lenOks]
 |cons x l ih=>simp[V.lenOks,ih]
theorem zhC{l:List V}(h:∀(i:Nat) (x:V),l[i]? =some x->x.lenOk):V.lenOks l:=by
 rw[zyq];intro x hx;obtain⟨i,hi⟩:=List.mem_iff_getElem?.1 hx;exact h i x hi
theorem Rep.lenOk{cz:TypeId->Nat}{w:World}{F O:Nat->Prop}{x:V}{cs:List Value}(h:Rep cz w F x cs O):x.lenOk:=by
 induction h with
 |int=>trivial
 |bool=>trivial
 |str=>trivial
 |hole=>trivial
 |fz0=>exact⟨by simp,trivial⟩
 |fz e d es b off len cap cs O hl hc hm hF hcs hr ih=>exact⟨by have:maxLen=9223372036854775807:=rfl;omega,zhC ih⟩
 |own0=>exact⟨by simp,trivial⟩
 |own e d es b len cap cur cs Os O hb hsz hl hc hm hO hOs hdis hcs hr hd9 ih=>exact⟨by have:maxLen=9223372036854775807:=rfl;omega,zhC ih⟩
 |agg fs cs Os O hn hOs hdis hr ih=>exact zhC ih
 |box e c b cur cs Oc O hb hcs hO hOs hr ih=>exact ih
 |tup fs vs cs Os O hn hOs hdis hv hr ih=>exact zhC ih
 |fb=>trivial
 |fn=>trivial
def Qu:yb->Prop
 |[]=>True
 |(_,none,.val x)::l=>x.lenOk/\Qu l
 |_::l=>Qu l
theorem zkb{a:Act}{w:World}:∀{S:yb},(∀t x,(t,none,.val x)∈S->∃w:World,∃F O cs,Rep C.cz w F x cs O)->Qu S
 |[],_=>trivial
 |(t,some g,b)::l,h=>zkb (a:=a) (w:=w) (S:=l) (fun t x hx=>h t x (zI _ hx))
 |(t,none,.val x)::l,h=>⟨by obtain⟨w,F,O,cs,hr⟩:=h t x (by simp);exact hr.lenOk,zkb (a:=a) (w:=w) (S:=l) (fun t x hx=>h t x (zI _ hx))⟩
 |(t,none,.rf _ _ _)::l,h=>zkb (a:=a) (w:=w) (S:=l) (fun t x hx=>h t x (zI _ hx))
 |(t,none,.ad _ _ _)::l,h=>zkb (a:=a) (w:=w) (S:=l) (fun t x hx=>h t x (zI _ hx))
 |(t,none,.fz _)::l,h=>zkb (a:=a) (w:=w) (S:=l) (fun t x hx=>h t x (zI _ hx))
 |(t,none,.ag _ _ _ _)::l,h=>zkb (a:=a) (w:=w) (S:=l) (fun t x hx=>h t x (zI _ hx))
theorem GS.facts{a:Act}{w:World}(h:GS C S a w):Qu S:=by
 obtain⟨D,hA,F,O,hI⟩:=h;refine zkb (C:=C) (a:=a) (w:=w) (fun t x hx=>?_);obtain⟨e1,_,e3⟩:=hA.on _ _ _ hx;obtain⟨_,h2,_⟩:=hI.slot t e1;obtain⟨cs,_,hr⟩:=h2 x (e3 rfl);exact⟨w,F,_,cs,hr⟩
def QV(L:Alg)(T:kH)(B:kn)(Bi:qV)(n:Nat)(ks:List Nat)(lp:YQ):Prop:=
 ∀(α:Type) (c:Code) (Q:Yw) (S0:yb) (kl:List Nat) (st:α->yb) (Inv:α->Prop) (m:α->Nat) (x0:α),Yt kl S0=st x0->Inv x0->
  (∀x,Inv x->Qu (st x)->∀ag:yb->Prop,(∀x',Inv x'->m x'<m x->ag (st x'))->Zq L T lp B Bi n ks c (zcl (fun S'=>ag (Yt kl S')) Q) (st x))->lp c Q S0
def zic(T:kH)(ks:List Nat)(C:Ctx):YQ:=fun c Q S=>kv T ks C.lo C.st c=true->SW C (.loop c) Q S
theorem zoN{Bi:qV}(hC:Yy C)(hIO:IOk C)(hT:TabOk C.P T)(hΦ:C.Φ=Ka B)(hΨ:zcv C Bi)(hm:C.P.follows .mixedOrders=true)(ks:List Nat):QV (yz T) T B Bi C.nt ks (zic T ks C):=by
 intro α c Q S0 kl st Inv m x0 h0 hi round hc
 have key:∀(n:Nat) (x:α),Inv x->m x<n->∀a w,GS C (st x) a w->Code.rounds C.P c (zyh C Q) n a w:=by
  intro n
  induction n with
  |zero=>intro x _ h;exact absurd h (zhU _)
  |succ n ih=>
   intro x hx hn a w hG;rw[rounds_succ];have hw:=zeU hC hIO hT hΦ hΨ hm (lp:=zic T ks C) (fun c Q S h1 h2=>h2 h1) c _ (st x) hc (round x hx hG.facts (fun S'=>∃x',S'=st x'/\Inv x'/\m x'<m x) (fun x' h1 h2=>⟨x',rfl,h1,h2⟩)) a w hG;refine Code.wp_mono (fun e a' w' hq=>?_) hw;obtain⟨S',q1,q2⟩:=hq
   cases e with
   |normal=>
    obtain⟨x',e1,e2,e3⟩:=q1;have q3:=q2.keep kl;rw[e1]at q3;exact ih x' e2 (by omega) a' w' q3
   |_=>exact⟨S',q1,q2⟩
 intro a w hG;have hG':=hG.keep kl;rw[h0]at hG';exact wp_loop_rounds (m x0+1) (key _ x0 hi (zab _) a w hG')
def zk2(tmps:Array Value):ResultVar->Sem Value
 | .tmp t=>pure (tmps.getD t undef)
 | .cell a t=>do loadVar t (<-asAddr (tmps.getD a undef))
theorem zeK{fn:Func}(tmps:Array Value)(P:Program)(w:World)(vs:Nat->Value)(h:∀(i:Nat) (x:ResultVar),fn.results.toList[i]? =some x->(zk2 tmps x).run P w=.ok (vs i) w):
 ∃va:Array Value,va.size=fn.results.size/\(∀i,i<va.size->va.getD i undef=vs i)/\(results fn tmps).run P w=.ok (if h:va.size=1 then va[0]else .tuple va) w:=by
 have key:∀(f:ResultVar->Sem Value),(∀x,f x=zk2 tmps x)->∀(l:List ResultVar) (vs:Nat->Value),(∀(i:Nat) (x:ResultVar),l[i]? =some x->(zk2 tmps x).run P w=.ok (vs i) w)->(l.mapM f).run P w=.ok ((List.range l.length).map vs) w:=by
  intro f hf l
  induction l with
  |nil=>intro vs _;simp
  |cons x l ih=>
   intro vs h;rw[List.mapM_cons];have h0:=h 0 x rfl;simp only[Sem.run_bind,hf,h0,Result.andThen_ok,Sem.run_pure];rw[ih (fun i=>vs (i+1)) (fun i x hx=>h (i+1) x (by simpa using hx))];simp only[Result.andThen_ok];rw[zj,JS];simp[Function.comp_def]
 refine⟨((List.range fn.results.toList.length).map vs).toArray,by simp,fun i hi=>?_,?_⟩
 ·simp only[List.size_toArray,List.length_map,List.length_range]at hi;have hi':i<fn.results.size:=by simpa using hi
  simp[zD,List.getElem?_range hi']
 ·unfold results;rw[Sem.run_bind,Array.mapM_eq_mapM_toList];simp only[Sem.run_map];rw[key _ ?hf fn.results.toList vs h]
  case hf=>intro x;cases x<;>rfl
  rfl
theorem zdq(hT:TabOk C.P T):∀(l:List ResultVar) (S:yb) (D:Env) (F:Nat->Prop) (O:Nat->Nat->Prop) (Z:Nat->Prop) (a:Act) (w:World) (ps:List Prop) (ys:List V),Inv C F O Z D a w->Agr S D->YU (yz T) T l S=some (ps,ys)->qA ps->
 ys.length=l.length/\∃(vs:Nat->Value) (css:Nat->List Value) (Ons:Nat->Nat->Prop),(∀(i:Nat) (x:ResultVar),l[i]? =some x->(zk2 a.tmps x).run C.P w=.ok (vs i) w)/\
  (∀(i:Nat) (y:V),ys[i]? =some y->y.reg (css i) (vs i)/\Rep C.cz w F y (css i) (Ons i))/\
  (∀i b,Ons i b->¬Z b)/\(∀i j b,i≠j->Ons i b->¬Ons j b)/\(∀i b,Ons i b->(C.w0.heap.size<=b\/C.X b)/\b<w.heap.size/\¬F b)
 |[],S,D,F,O,Z,a,w,ps,ys,hI,hA,h,hp=>by
  simp only[YU,za,zb]at h;obtain⟨_,rfl⟩:=h;exact⟨rfl,fun _=>undef,fun _=>[],fun _ _=>False,fun i x hx=>by simp at hx,fun i y hy=>by simp at hy,fun _ _ h=>h.elim,fun _ _ _ _ h=>h.elim,fun _ _ h=>h.elim⟩
 |x0::l,S,D,F,O,Z,a,w,ps,ys,hI,hA,h,hp=>by
  have step:∃(p1 p2:List Prop) (y:V) (ys':List V) (S1:yb) (D1:Env) (v:Value) (cs:List Value) (On:Nat->Prop),ps=p1++p2/\ys=y::ys'/\YU (yz T) T l S1=some (p2,ys')/\Agr S1 D1/\(zk2 a.tmps x0).run C.P w=.ok v w/\y.reg cs v/\Rep C.cz w F y cs On/\(∀b,On b->¬Z b)/\
   ∃O',Inv C F O' (fun b=>Z b\/On b) D1 a w:=by
   cases x0 with
   |tmp t=>
    simp only[YU]at h;split at h
    ·rename_i gx A h1;split at h
     ·rename_i qs y S1 h2;split at h
      ·rename_i rs ys' h3;simp only[za,zb]at h;obtain⟨rfl,rfl⟩:=h;rw[zE,zE]at hp;obtain⟨⟨p1,p2⟩,p3⟩:=hp;have o1:=zN hT hA h1 (zT p1 rfl);obtain⟨q,D1,t1,t2,t3⟩:=Zc hA h2 p2;obtain⟨cs,On,e1,e2⟩:=ZD hI (zX hI o1 rfl).1 t1 t2;exact⟨_,rs,y,ys',S1,D1,_,cs,On,rfl,rfl,h3,t3,rfl,e1,e2.rep,e2.new,e2.inv⟩
      ·cases h
     ·cases h
    ·cases h
   |cell t ty=>
    simp only[YU]at h;split at h
    ·rename_i e c h1;split at h
     ·rename_i hfit;split at h
      ·rename_i rs ys' h3;simp only[za,zb]at h;obtain⟨rfl,rfl⟩:=h;have ho:=yO hA h1;obtain⟨hg,_,ha⟩:=Env.own_elim ho;obtain⟨cs,e1,e2,e3,e4⟩:=hI.takeAll hg ha
       cases e2 with
       |box _ _ b cur cs' Oc _ hb hcs hO hOs hr=>
        have hcells:qK w b 0 cs':=by
         intro j v hj;rw[<-hcs,jO]at hj;simp only[World.cell?,hb,Option.isSome_none,Bool.false_eq_true,if_false,jB];exact hj
        obtain⟨v,f1,f2⟩:=zcb (C:=C) (Jx hT hfit) hcells hr;refine⟨[],rs,c,ys',KG t S,D.drp t,v,cs',Oc,rfl,rfl,h3,hA.drp,?_,f2,hr,fun b' hb' hz=>hI.oz t b' (hOs b' hb').1 hz,_,e4.lessZ (fun b' hb'=>hb'.imp id (fun h=>(hOs b' h).1))⟩;have hreg:a.tmps.getD t undef=.pointer (some ⟨b,0,none⟩):=e1;simp only[zk2,Sem.run_bind,hreg,asAddr,Sem.run_pure,Result.andThen_ok];exact f1
      ·cases h
     ·cases h
    ·cases h
  obtain⟨p1,p2,y,ys',S1,D1,v,cs,On,rfl,rfl,h3,t3,hrun,e1,e2,e3,O',hI'⟩:=step;rw[zE]at hp;obtain⟨f2,vs,css,Ons,f1,f3,f4,f5,f6⟩:=zdq hT l S1 D1 F O' _ a w p2 ys' hI' t3 h3 hp.2;refine⟨by simp[f2],fun i=>if i=0 then v else vs (i-1),fun i=>if i=0 then cs else css (i-1),fun i=>if i=0 then On else Ons (i-1),fun i x hx=>?_,fun i z hz=>?_,fun i b hb=>?_,fun i j b hij hb=>?_,fun i b hb=>?_⟩
  ·cases i with
   |zero=>
    simp at hx;subst hx;exact hrun
   |succ i=>
    have:=f1 i x (by simpa using hx);simpa using this
  ·cases i with
   |zero=>
    simp at hz;subst hz;exact⟨e1,e2⟩
   |succ i=>
    have:=f3 i z (by simpa using hz);exact⟨by simpa using this.1,by simpa using this.2⟩
  ·dsimp only at hb;split at hb
   ·exact e3 b hb
   ·exact fun hz=>f4 _ b hb (.inl hz)
  ·dsimp only at hb ⊢;split at hb
   ·split
    ·omega
    ·exact fun hb'=>f4 _ b hb' (.inr hb)
   ·split
    ·exact fun hb'=>f4 _ b hb (.inr hb')
    ·exact f5 _ _ b (by omega) hb
  ·dsimp only at hb;split at hb
   ·exact⟨hI'.zfr b (.inr hb),hI'.zlt b (.inr hb),hI'.zf b (.inr hb)⟩
   ·exact f6 _ b hb
end
def yM(P:Program)(k:FuncId)(f:zO):Prop:=∀args ps r,f args=some (ps,r)->qA ps->zeH P k args r
def Yd(P:Program)(B:kn):Prop:=∀k f,zdV B k=some f->yM P k f
def zew:zO:=fun _=>some ([False],.hole 0)
theorem ziE{P:Program}{k:FuncId}:yM P k zew:=fun args ps r h hp=>by
 simp only[zew,za,zb]at h;obtain⟨rfl,rfl⟩:=h;exact((zp.1 hp).1).elim
theorem zF{P:Program}:Yd P []:=fun k f h=>by simp[zdV]at h
theorem zm{P:Program}{B:kn}{k:FuncId}{f:zO}(h:yM P k f)(hB:Yd P B):Yd P ((k,f)::B):=by
 intro k' f' h';simp only[zdV]at h';split at h'
 ·rename_i hk;simp only[za]at h';subst h';rw[<-qX hk];exact h
 ·exact hB k' f' h'
theorem zox{C:Ctx}{B:kn}(hG:GlC C)(hΦ:C.Φ=Ka B)(hB:Yd C.P B):Yy C:=by
 refine⟨hG,?_⟩;intro k args q r h hq;rw[hΦ]at h;unfold Ka at h;split at h
 ·rename_i f hf;split at h
  ·rename_i ps r' hr;simp only[za,zb,and_true]at h;obtain⟨rfl,rfl⟩:=h;exact hB k f hf args ps r' hr hq
  ·cases h
 ·cases h
def zbX(P:Program)(k j:Nat)(f:kj):Prop:=∀args ps r y,f args=some (ps,r,y)->qA ps->zhc P k j args r y
def zCG(P:Program)(k j:Nat)(f:kj):Prop:=∀args ps r y,f args=some (ps,r,y)->qA ps->zy0 P k j args r
def uQ(P:Program)(Bi:qV):Prop:=∀k j m f,zfm Bi k=some (j,m,f)->match m with
 |false=>zbX P k j f
 |true=>zCG P k j f
theorem zA{P:Program}:uQ P []:=fun k j m f h=>by simp[zfm]at h
theorem yE{P:Program}{Bi:qV}{k j:Nat}{f:kj}(h:zbX P k j f)(hB:uQ P Bi):uQ P ((k,j,false,f)::Bi):=by
 intro k' j' m' f' h';simp only[zfm]at h';split at h'
 ·rename_i hk;simp only[za,zb]at h';obtain⟨rfl,rfl,rfl⟩:=h';rw[<-qX hk];exact h
 ·exact hB k' j' m' f' h'
theorem zrs{P:Program}{Bi:qV}{k j:Nat}{f:kj}(h:zCG P k j f)(hB:uQ P Bi):uQ P ((k,j,true,f)::Bi):=by
 intro k' j' m' f' h';simp only[zfm]at h';split at h'
 ·rename_i hk;simp only[za,zb]at h';obtain⟨rfl,rfl,rfl⟩:=h';rw[<-qX hk];exact h
 ·exact hB k' j' m' f' h'
theorem zov{C:Ctx}{Bi:qV}(hG:GlC C)(hΨ:C.Ψ=psi Bi)(hB:uQ C.P Bi):IOk C:=by
 refine⟨hG,?_⟩;intro k j m c args q r y h hc hq;rw[hΨ]at h;unfold psi at h;split at h
 ·rename_i j' m' f hf;simp only[za,zb]at h;obtain⟨rfl,rfl,rfl⟩:=h;dsimp only at hc;split at hc
  ·rename_i ps r' y' hr;simp only[za,zb]at hc;obtain⟨rfl,rfl,rfl⟩:=hc;have:=hB k _ _ f hf
   cases m' with
   |false=>exact this args ps _ _ hr hq
   |true=>exact this args ps _ _ hr hq
  ·cases hc
 ·cases h
theorem zgV:∀(l:List V) (i:Nat) (t:Nat) (g:Option Bool) (a:A),(t,g,a)∈kJ i l->∃j x,t=i+j/\l[j]? =some x/\g=none/\a=.val x
 |[],i,t,g,a,h=>by simp[kJ]at h
 |x::l,i,t,g,a,h=>by
  simp only[kJ,zJ]at h;rcases h with h|h
  ·simp only[zb]at h;obtain⟨rfl,rfl,rfl⟩:=h;exact⟨0,x,rfl,rfl,rfl,rfl⟩
  ·obtain⟨j,y,e1,e2,e3,e4⟩:=zgV l (i+1) t g a h;exact⟨j+1,y,by omega,by simpa using e2,e3,e4⟩
theorem zgz:∀(l:List V) (i j:Nat) (x:V),l[j]? =some x->(i+j,none,.val x)∈kJ i l
 |[],i,j,x,h=>by simp at h
 |y::l,i,0,x,h=>by simp at h;subst h;simp[kJ]
 |y::l,i,j+1,x,h=>by
  simp only[kJ,zJ];right;have:=zgz l (i+1) j x (by simpa using h);rw[show i+(j+1)=i+1+j from by omega];exact this
theorem znJ{P:Program}{T:kH}{B:kn}{Bi:qV}{k:FuncId}{fn:Func}{body:Code}{args:List V}{R:V->Prop}{Qr:Yw}{n:Nat}(ks:List Nat)(hf:P.funcs[k]? =some fn)(hb:fn.body=some body)(hn:fn.ntmps=n)(hname:(fn.name== "runtime.NumGoroutine")=false)
 (hl:args.length<=n) (hm:P.follows .mixedOrders=true) (hT:TabOk P T) (hB:Yd P B) (hBi:uQ P Bi) (hck:kv T ks 0 false body=true)
 (hQ:∀e S,Qr e S->(e=.normal\/e=.ret)/\(match YU (yz T) T fn.results.toList S with
  |some (ps,l)=>ZW ps (R (Jg l))
  |none=>False))
 (h:∀lp:YQ,Qu (kJ 0 args)->QV (yz T) T B Bi n ks lp->Zq (yz T) T lp B Bi n ks body Qr (kJ 0 args)):
 zcP P k/\
 ∀(ym:Array Value) (w:World) (F:Nat->Prop),ym.size=args.length->(∀(i:Nat) (x:V),args[i]? =some x->∃cs,x.reg cs (ym.getD i undef)/\Rep P.cellsOf w F x cs (fun _=>False))->(∀b,F b->b<w.heap.size)->Gl P w F->
  Calls P k ym w (fun e w'=>∃c,R c/\∃(v:Value) (cs:List Value) (On Fr:Nat->Prop),e=.returned v/\c.reg cs v/\Rep P.cellsOf w' (fun b=>F b\/Fr b) c cs On/\(∀b,On b\/Fr b->w.heap.size<=b/\b<w'.heap.size)/\(∀b,On b->¬Fr b)/\BelowD w.heap.size w w'):=by
 refine⟨⟨fn,hf,hname,by rw[hb];rfl⟩,fun ym w F hsz hv hF hG=>?_⟩;refine calls_of_wp hf hb ?_
 let C:Ctx:={P:=P,Φ:=Ka B,w0:=w,X:=fun _=>False,F0:=F,nt:=n,Ψ:=psi Bi,lo:=0,t0:= #[],st:=false}
 have hGC:GlC C:=⟨hG,fun b hb=>⟨hF b hb,fun h=>h⟩⟩;have hC:Yy C:=zox (C:=C) hGC rfl hB;have hIO:IOk C:=zov (C:=C) hGC rfl hBi
 let D:Env:=fun t=>if t<args.length then⟨true,true,0,.val (args.getD t (.hole 0))⟩else⟨false,true,0,.val (.hole 0)⟩
 have hts:(ym++Array.replicate (fn.ntmps-ym.size) undef).size=n:=by
  simp only[zb2,zaf];omega
 have hgl:∀t,t<args.length->(ym++Array.replicate (fn.ntmps-ym.size) undef).getD t undef=ym.getD t undef:=by
  intro t ht;simp only[zD];rw[Zp (by omega)]
 have hgr:∀t,¬t<args.length->(ym++Array.replicate (fn.ntmps-ym.size) undef).getD t undef=undef:=by
  intro t ht;simp only[zD];rw[uZ (by omega)];by_cases h:t-ym.size<fn.ntmps-ym.size
  ·simp[h]
  ·simp[h]
 have hA:Agr (kJ 0 args) D:=by
  refine⟨fun t g a h=>?_,fun t h=>?_⟩
  ·obtain⟨j,x,e1,e2,e3,e4⟩:=zgV _ _ _ _ _ h;subst e3;subst e4;simp only[jB]at e1;subst e1;have hlt:t<args.length:=(zq.1 e2).1;simp only[D,if_pos hlt,gb,vz,jR e2];exact⟨trivial,trivial,fun _=>trivial⟩
  ·by_cases hlt:t<args.length
   ·exact absurd (by have:=zgz args 0 t _ (yH (.hole 0) hlt);simpa using this) (h (none,.val (args.getD t (.hole 0))))
   ·simp[D,hlt,E.owner]
 have hI:Inv C F (fun _ _=>False) (fun _=>False) D {tmps:=ym++Array.replicate (fn.ntmps-ym.size) undef,defers:=[]} w:=by
  refine⟨fun t hg=>?_,fun _ _ _ _ h=>h.elim,fun _ _ h=>h.elim,fun _ _ h=>h.elim,fun _ h=>h.elim,fun _ _ h=>h.elim,fun _ h=>h.elim,hF,fun _ _ h=>h.elim,fun _ h=>h.elim,fun _ h=>h,fun _ h=>.inl h,fun _ _ _=>rfl,zw _,rfl,rfl,Kz.refl _,rfl,fun t s ver hr=>?_,fun t hg hu=>?_,hts,fun _ h=>absurd h (zhU _),fun h=>by cases h⟩
  ·have hlt:t<args.length:=by
    by_cases hlt:t<args.length
    ·exact hlt
    ·simp[D,hlt]at hg
   refine⟨by rw[hts];omega,fun x hx=>?_,fun hn=>absurd (by simp only[D,if_pos hlt]) (hn (args.getD t (.hole 0)))⟩;simp only[D,if_pos hlt,A.val.injEq]at hx;subst hx;rw[hgl t hlt];exact hv t _ (yH (.hole 0) hlt)
  ·simp only[D]at hr;split at hr<;>simp[A.refs]at hr
  ·have hlt:¬t<args.length:=by
    intro hlt;simp[D,hlt]at hg
   exact hgr t hlt
 have hGS:GS C (kJ 0 args) {tmps:=ym++Array.replicate (fn.ntmps-ym.size) undef,defers:=[]} w:=⟨D,hA,F,_,hI⟩;have hw:=zeU (C:=C) hC hIO hT rfl ⟨rfl,fun h=>by cases h⟩ hm (lp:=zic T ks C) (fun c Q S h1 h2=>h2 h1) body _ _ hck (h (zic T ks C) hGS.facts (zoN hC hIO hT rfl ⟨rfl,fun h=>by cases h⟩ hm ks)) _ w hGS;refine Code.wp_mono (fun e a' w' hq=>?_) hw;obtain⟨S',q1,D',hA',F',O',hI'⟩:=hq
 have fin:(match YU (yz T) T fn.results.toList S' with
  |some (ps,l)=>ZW ps (R (Jg l))
  |none=>False)->a'.defers=[]/\∃v,(results fn a'.tmps).run P w'=.ok v w'/\∃(c:V),R c/\∃(v':Value) (cs:List Value) (On Fr:Nat->Prop),Ending.returned v=.returned v'/\c.reg cs v'/\Rep P.cellsOf w' (fun b=>F b\/Fr b) c cs On/\(∀b,On b\/Fr b->w.heap.size<=b/\b<w'.heap.size)/\(∀b,On b->¬Fr b)/\BelowD w.heap.size w w':=by
  intro hq;split at hq
  ·rename_i ps l hres;rw[JP]at hq;obtain⟨f2,vf,css,Ons,f1,f3,f4,f5,f6⟩:=zdq (C:=C) hT _ _ _ _ _ _ _ _ _ _ hI' hA' hres hq.1;obtain⟨vs,g0,g1,g2⟩:=zeK (fn:=fn) a'.tmps P w' vf f1;refine⟨hI'.defers,_,g2,?_⟩;have hbelow:BelowD w.heap.size w w':=⟨hI'.os,hI'.tape,hI'.output,hI'.size,fun k hk=>hI'.old k hk (fun h=>h)⟩;have hFr:∀b,F' b->F b\/(F' b/\w.heap.size<=b):=fun b hb=>(hI'.ffr b hb).imp id (fun h=>⟨hb,h.resolve_right (fun h=>h.2)⟩);have hOn:∀i b,Ons i b->w.heap.size<=b/\b<w'.heap.size/\¬F' b:=fun i b hb=>⟨(f6 i b hb).1.elim id (fun h=>h.elim),(f6 i b hb).2⟩
   have hsz:vs.size=l.length:=by
    rw[g0,f2,jm]
   by_cases h1:vs.size=1
   ·rw[dif_pos h1]
    have:∃y,l=[y]:=by
     match l,(by omega:l.length=1)with
     |[y],_=>exact⟨y,rfl⟩
    obtain⟨y,rfl⟩:=this;have hr:R y:=hq.2;obtain⟨e1,e2⟩:=f3 0 y rfl
    have hv0:vs[0]=vf 0:=by
     rw[<-g1 0 (by omega)];simp[zD,h1]
    refine⟨y,hr,_,css 0,Ons 0,fun b=>F' b/\w.heap.size<=b,rfl,by rw[hv0];exact e1,e2.mono hFr (fun _ h=>h),fun b hb=>?_,fun b hb hf=>(hOn 0 b hb).2.2 hf.1,hbelow⟩;rcases hb with hb|hb
    ·exact⟨(hOn 0 b hb).1,(hOn 0 b hb).2.1⟩
    ·exact⟨hb.2,hI'.flt b hb.1⟩
   ·rw[dif_neg h1]
    have hr:R (.tup l):=by
     have:=hq.2;unfold Jg at this;split at this
     ·rename_i x;exact absurd (by simpa using hsz) h1
     ·exact this
    refine⟨_,hr,_,[.tuple vs],fun b=>∃i,Ons i b,fun b=>F' b/\w.heap.size<=b,rfl,rfl,?_,fun b hb=>?_,fun b hb hf=>?_,hbelow⟩
    ·refine .tup l vs css Ons _ hsz (fun i b hb=>⟨i,hb⟩) f5 (fun i x hx=>?_) (fun i x hx=>((f3 i x hx).2).mono hFr (fun _ h=>h));have hil:=(zq.1 hx).1;rw[g1 i (by omega)];exact(f3 i x hx).1
    ·rcases hb with⟨i,hb⟩|hb
     ·exact⟨(hOn i b hb).1,(hOn i b hb).2.1⟩
     ·exact⟨hb.2,hI'.flt b hb.1⟩
    ·obtain⟨i,hb⟩:=hb;exact(hOn i b hb).2.2 hf.1
  ·exact hq.elim
 obtain⟨q0,q2⟩:=hQ _ _ q1;rcases q0 with rfl|rfl
 ·exact fin q2
 ·exact fin q2
theorem ztH{P:Program}{T:kH}{B:kn}{Bi:qV}{k:FuncId}{fn:Func}{body:Code}{args:List V}{r:V}{n:Nat}(ks:List Nat)(hf:P.funcs[k]? =some fn)(hb:fn.body=some body)(hn:fn.ntmps=n)(hname:(fn.name== "runtime.NumGoroutine")=false)
 (hl:args.length<=n) (hm:P.follows .mixedOrders=true) (hT:TabOk P T) (hB:Yd P B) (hBi:uQ P Bi) (hck:kv T ks 0 false body=true)
 (h:∀(L:Alg) (lp:YQ) (rr:V),L=yz T->rr=r->Qu (kJ 0 args)->QV L T B Bi n ks lp->Zq L T lp B Bi n ks body (zsA L T fn.results.toList rr) (kJ 0 args)):zeH P k args r:=by
 obtain⟨h1,h2⟩:=znJ (R:=fun c=>c=r) (Qr:=zsA (yz T) T fn.results.toList r) ks hf hb hn hname hl hm hT hB hBi hck (fun e S hq=>by
  cases e with
  |normal=>exact⟨.inl rfl,hq⟩
  |ret=>exact⟨.inr rfl,hq⟩
  |_=>exact hq.elim) (fun lp h1 h2=>h (yz T) lp r rfl rfl h1 h2)
 refine⟨h1,fun ym w F hsz hv hF hG=>?_⟩;refine Calls.mono (h2 ym w F hsz hv hF hG) (fun e w' hq=>?_);obtain⟨c,rfl,hq⟩:=hq;exact hq
def zsC(L:Alg)(T:kH)(res:List ResultVar)(r:V):Yw:=fun e S=>match e with
 | .ret=>match YU L T res S with
   |some (ps,l)=>ZW ps (zbV L (Jg l)=r)
   |none=>False
 | .normal=>match YU L T res S with
   |some (ps,l)=>ZW ps (zbV L (Jg l)=r)
   |none=>False
 |_=>False
theorem zCc{P:Program}{T:kH}{B:kn}{Bi:qV}{k:FuncId}{fn:Func}{body:Code}{args:List V}{r:V}{n:Nat}(ks:List Nat)(hf:P.funcs[k]? =some fn)(hb:fn.body=some body)(hn:fn.ntmps=n)(hname:(fn.name== "runtime.NumGoroutine")=false)
 (hl:args.length<=n) (hm:P.follows .mixedOrders=true) (hT:TabOk P T) (hB:Yd P B) (hBi:uQ P Bi) (hck:kv T ks 0 false body=true)
 (h:∀(L:Alg) (lp:YQ) (rr:V),L=yz T->rr=r->Qu (kJ 0 args)->QV L T B Bi n ks lp->Zq L T lp B Bi n ks body (zsC L T fn.results.toList rr) (kJ 0 args)):zeH P k args r:=by
 obtain⟨h1,h2⟩:=znJ (R:=fun c=>c.frz=r) (Qr:=zsC (yz T) T fn.results.toList r) ks hf hb hn hname hl hm hT hB hBi hck (fun e S hq=>by
  cases e with
  |normal=>simp only[zsC,YW]at hq;exact⟨.inl rfl,hq⟩
  |ret=>simp only[zsC,YW]at hq;exact⟨.inr rfl,hq⟩
  |_=>exact hq.elim) (fun lp h1 h2=>h (yz T) lp r rfl rfl h1 h2)
 refine⟨h1,fun ym w F hsz hv hF hG=>?_⟩;refine Calls.mono (h2 ym w F hsz hv hF hG) (fun e w' hq=>?_);obtain⟨c,rfl,v,cs,On,Fr,e1,e2,e3,e4,e5,e6⟩:=hq
 exact⟨v,cs,fun _=>False,fun b=>Fr b\/On b,e1,V.frz_reg e2,e3.frz.mono (fun b hb=>by
  rcases hb with(hb|hb)|hb
  ·exact .inl hb
  ·exact .inr (.inl hb)
  ·exact .inr (.inr hb)) (fun _ h=>h),fun b hb=>e4 b (by
  rcases hb with hb|hb|hb
  ·exact hb.elim
  ·exact .inr hb
  ·exact .inl hb),fun b hb=>hb.elim,e6⟩
theorem zfX{P:Program}{T:kH}{B:kn}{k:FuncId}{fn:Func}{body:Code}{args:List V}{r:V}{n:Nat}(ks:List Nat)(hf:P.funcs[k]? =some fn)(hb:fn.body=some body)(hn:fn.ntmps=n)(hname:(fn.name== "runtime.NumGoroutine")=false)
 (hl:args.length<=n) (hm:P.follows .mixedOrders=true) (hT:TabOk P T) (hB:Yd P B) (hck:kv T ks 0 false body=true)
 (h:∀(L:Alg) (lp:YQ) (rr:V),L=yz T->rr=r->Qu (kJ 0 args)->QV L T B [] n ks lp->Zq L T lp B [] n ks body (zsA L T fn.results.toList rr) (kJ 0 args)):zeH P k args r:=
 ztH ks hf hb hn hname hl hm hT hB zA hck h
open Go.ChangeShapes Go.WideShapes Go.RowKit
inductive Wt (T:kH):TypeId->V->Prop
 |int (t:TypeId) (ti:TI) (k:IntKind) (n:Int) (h:jb T t=some ti) (hk:ti.k=.int k) (hn:(Lit.int k n).wf=true):Wt T t (.int k n)
 |bool (t:TypeId) (ti:TI) (b:Bool) (h:jb T t=some ti) (hk:ti.k=.bool):Wt T t (.bool b)
 |str (t:TypeId) (ti:TI) (s:ByteArray) (h:jb T t=some ti) (hk:ti.k=.str) (hs:s.size<=maxLen):Wt T t (.str s)
 |slc (t:TypeId) (ti:TI) (e:TypeId) (es:List V) (h:jb T t=some ti) (hk:ti.k=.slc e) (hl:es.length<=maxLen) (he:∀(i:Nat) (y:V),es[i]? =some y->Wt T e y):Wt T t (.slc false e (dZ ti.zero).frz es)
 |agg (t:TypeId) (ti:TI) (fts:List (Nat×TypeId)) (fs:List V) (h:jb T t=some ti) (hk:ti.k=.agg fts) (hl:fs.length=fts.length)
  (he:∀(i:Nat) (o:Nat) (ft:TypeId) (y:V),fts[i]? =some (o,ft)->fs[i]? =some y->Wt T ft y):Wt T t (.agg fs)
section
variable {P:Program}{T:kH}
theorem zpS:∀(fts:List (Nat×TypeId)) (n m:Nat) (fs:List V),zcp T fts n=some m->fs.length=fts.length->
 (∀(i:Nat) (o:Nat) (ft:TypeId) (y:V),fts[i]? =some (o,ft)->fs[i]? =some y->y.size=ub T ft)->
 n+V.sizes fs=m/\∀(i:Nat) (o:Nat) (ft:TypeId),fts[i]? =some (o,ft)->o=n+V.offs fs i
 |[],n,m,fs,h,hl,_=>by
  simp only[zcp,za]at h;subst h;have:fs=[]:=yS hl;subst this;exact⟨by simp[V.sizes],fun i o ft h=>by simp at h⟩
 |(o,t)::fts,n,m,[],h,hl,_=>by simp at hl
 |(o,t)::fts,n,m,y::fs,h,hl,hs=>by
  simp only[zcp]at h;split at h
  ·rename_i ti hti;split at h
   ·rename_i hc;obtain⟨ho,_⟩:=hc;subst ho
    have hy:y.size=ti.cells:=by
     have:=hs 0 o t y rfl rfl;simp only[ub,hti]at this;exact this
    obtain⟨h1,h2⟩:=zpS fts (o+ti.cells) m fs h (by simpa using hl) (fun i o ft y a b=>hs (i+1) o ft y (by simpa using a) (by simpa using b));refine⟨by simp only[V.sizes];omega,fun i o' ft hi=>?_⟩
    cases i with
    |zero=>
     simp only[qa,za,zb]at hi;obtain⟨rfl,rfl⟩:=hi;simp[V.offs,V.sizes]
    |succ i=>
     have:=h2 i o' ft (by simpa using hi);simp only[V.offs,List.take_succ_cons,V.sizes]at this ⊢;omega
   ·cases h
  ·cases h
theorem zD2{T:kH}{t:TypeId}{ti:TI}{k:IntKind}(h:jb T t=some ti)(hk:ti.k=.int k):zhF T t=some k:=by
 obtain⟨tk,tc,tz⟩:=ti;simp only at hk;subst hk;simp[zhF,h]
theorem zEn{T:kH}{t:TypeId}{ti:TI}(h:jb T t=some ti)(hk:ti.k=.bool):zfT T t=true:=by
 obtain⟨tk,tc,tz⟩:=ti;simp only at hk;subst hk;simp[zfT,h]
theorem zEM{T:kH}{t:TypeId}{ti:TI}(h:jb T t=some ti)(hk:ti.k=.str):zdA T t=true:=by
 obtain⟨tk,tc,tz⟩:=ti;simp only at hk;subst hk;simp[zdA,h]
theorem zEd{T:kH}{t e:TypeId}{ti:TI}(h:jb T t=some ti)(hk:ti.k=.slc e):Qm T t=some e:=by
 obtain⟨tk,tc,tz⟩:=ti;simp only at hk;subst hk;simp[Qm,h]
theorem zzY{T:kH}{t:TypeId}{ti:TI}{fs:List (Nat×TypeId)}(h:jb T t=some ti)(hk:ti.k=.agg fs):Jn T t=some fs:=by
 obtain⟨tk,tc,tz⟩:=ti;simp only at hk;subst hk;simp[Jn,h]
theorem Wt.size(hT:TabOk P T){t:TypeId}{x:V}(h:Wt T t x):x.size=ub T t/\x.owned=false:=by
 induction h with
 |int t ti k n h hk hn=>
  have hc:=hT.c h;simp only[Yu,hk,decide_eq_true_eq]at hc;exact⟨by simp[V.size,ub,h,hc],rfl⟩
 |bool t ti b h hk=>
  have hc:=hT.c h;simp only[Yu,hk,decide_eq_true_eq]at hc;exact⟨by simp[V.size,ub,h,hc],rfl⟩
 |str t ti s h hk hs=>
  have hc:=hT.c h;simp only[Yu,hk,decide_eq_true_eq]at hc;exact⟨by simp[V.size,ub,h,hc],rfl⟩
 |slc t ti e es h hk hl he ih=>
  have hc:=hT.c h;simp only[Yu,hk,zh,decide_eq_true_eq]at hc;exact⟨by simp[V.size,ub,h,hc.1],rfl⟩
 |agg t ti fts fs h hk hl he ih=>
  have hc:=hT.c h;simp only[Yu,hk,decide_eq_true_eq]at hc;obtain⟨h1,_⟩:=zpS fts 0 ti.cells fs hc hl (fun i o ft y a b=>(ih i o ft y a b).1);refine⟨by simp only[V.size,ub,h];omega,?_⟩;simp only[V.owned,V.owneds_eq,List.any_eq_false];intro y hy;obtain⟨i,hi⟩:=List.getElem?_of_mem hy
  have hil:i<fts.length:=by
   have:=(zq.1 hi).1;omega
  rw[(ih i (fts[i]'hil).1 (fts[i]'hil).2 y (ze hil) hi).2];simp
section
variable {H:Type}{enc:TypeId×Value->H}{w:World}{base:Nat}{spare:Nat->Bool}{held:Bool}
theorem zCw{w:World}{base:Nat}{a:Addr}{n:Nat}{cs:List Value}(h:w.cells? base a n=some cs)(hs:a.spot=none):cs.length=n/\qK w a.block a.off cs:=by
 obtain⟨_,h1,h2⟩:=World.cells?_some h;refine⟨h1,fun j v hj=>?_⟩
 have hjn:j<n:=by
  have:=(zq.1 hj).1;omega
 rw[<-hj,<-h2 j hjn];congr 1;unfold Addr.add;split
 ·rename_i h0;subst h0;cases a;simp_all
 ·rfl
theorem zDw(hT:TabOk P T):∀(fuel:Nat) (t:TypeId) (ti:TI) (cs:List Value) (x:DataW H×List MemPlace),jb T t=some ti->ti.k≠.oth->
 (∀t ti,jb T t=some ti->ti.k≠.oth)->
 DataW.trod enc P w base spare held fuel t cs=some x->∃y,Wt T t y/\Rep P.cellsOf w (fun b=>b<w.heap.size) y cs (fun _=>False):=by
 intro fuel
 induction fuel with
 |zero=>intro t ti cs x _ _ _ h;simp[DataW.trod]at h
 |succ fuel ih=>
  intro t ti cs x ht hk hno h;have hg:=hT.got ht
  cases hkk:ti.k with
  |int k=>
   have hu:P.underlying t=some (.int k):=by
    have:zaz P t=some k:=hT.kind (zD2 ht hkk);unfold zaz at this;split at this
    ·rename_i heq;simp only[za]at this;rw[heq,this]
    ·cases this
   obtain⟨n,rfl,_,hw⟩:=DataW.trod_int hu h;exact⟨.int k n,.int t ti k n ht hkk hw,.int k n _⟩
  |bool=>
   have hu:P.underlying t=some .bool:=by
    have:zhO P t=true:=hT.bool (zEn ht hkk);unfold zhO at this;split at this
    ·rename_i heq;exact heq
    ·cases this
   obtain⟨b,rfl,_⟩:=DataW.trod_bool hu h;exact⟨.bool b,.bool t ti b ht hkk,.bool b _⟩
  |str=>
   have hu:P.underlying t=some .string:=by
    have:Kg P t=true:=hT.str (zEM ht hkk);unfold Kg at this;split at this
    ·rename_i heq;exact heq
    ·cases this
   obtain⟨s,rfl,_,hs⟩:=DataW.trod_string hu h;exact⟨.str s,.str t ti s ht hkk hs,.str s _⟩
  |slc e=>
   have hu:P.underlying t=some (.slice e):=by
    have:ul P t=some e:=hT.elem (zEd ht hkk);unfold ul at this;split at this
    ·rename_i heq;simp only[za]at this;rw[heq,this]
    ·cases this
   have hc:=hT.c ht;simp only[Yu,hkk,zh,decide_eq_true_eq]at hc;rcases DataW.trod_slice hu h with⟨rfl,_⟩|⟨a,len,cap,elems,rest,n,hn,rfl,_,hb,hl,hm,hlen,hel,hsA,hsB⟩
   ·exact⟨.slc false e (dZ ti.zero).frz [],.slc t ti e [] ht hkk (Nat.zero_le _) (fun i y h=>by simp at h),.fz0 e _ _ _ _⟩
   ·obtain rfl:n=fuel:=by omega
    cases hte:jb T e with
    |none=>rw[hte]at hc;simp at hc
    |some te=>
     rw[hte]at hc;simp only[decide_eq_true_eq]at hc;have hce:P.cellsOf e=te.cells:=hT.cells hte;by_cases h0:len=0
     ·subst h0;exact⟨.slc false e (dZ ti.zero).frz [],.slc t ti e [] ht hkk (Nat.zero_le _) (fun i y h=>by simp at h),.fz0 e _ _ _ _⟩
     ·have hspot:a.spot=none/\a.block<w.heap.size:=by
       have h1:=hel 0 (by omega);obtain⟨y0,hy0⟩:∃y,elems[0]? =some y:=⟨_,ze (by omega)⟩;rw[hy0,Option.bind_eq_some_iff]at h1;obtain⟨cs',hcs,_⟩:=h1;obtain⟨_,h2,h3⟩:=World.cells?_some hcs;have h4:=h3 0 (by omega);rw[Nat.zero_mul]at h4;have hp:0<cs'.length:=(by omega);rw[ze hp]at h4;have hadd:(a.add 0).add 0=a:=(by simp[Addr.add]);rw[hadd]at h4;unfold World.cell? at h4;split at h4
       ·rename_i heq;refine⟨?_,(yU.1 heq).1⟩
        cases hsp:a.spot with
        |none=>rfl
        |some s=>simp[hsp]at h4
       ·cases h4
      have each:∀i,i<len->∃y cs',Wt T e y/\Rep P.cellsOf w (fun b=>b<w.heap.size) y cs' (fun _=>False)/\cs'.length=P.cellsOf e/\qK w a.block (a.off+i*P.cellsOf e) cs':=by
       intro i hi;have h1:=hel i hi;obtain⟨y0,hy0⟩:∃y,elems[i]? =some y:=⟨_,ze (by omega)⟩;rw[hy0,Option.bind_eq_some_iff]at h1;obtain⟨cs',hcs,htr⟩:=h1;obtain⟨y,hy1,hy2⟩:=ih e te cs' y0 hte (hno e te hte) hno htr
       have hadd:(a.add (i*P.cellsOf e)).spot=none/\(a.add (i*P.cellsOf e)).block=a.block/\(a.add (i*P.cellsOf e)).off=a.off+i*P.cellsOf e:=by
        unfold Addr.add;split
        ·rename_i h0;exact⟨hspot.1,rfl,by omega⟩
        ·exact⟨rfl,rfl,rfl⟩
       obtain⟨c1,c2⟩:=zCw hcs hadd.1;rw[hadd.2.1,hadd.2.2]at c2;exact⟨y,cs',hy1,hy2,c1,c2⟩
      have:∃(es:List V) (cf:Nat->List Value),es.length=len/\∀i y,es[i]? =some y->Wt T e y/\Rep P.cellsOf w (fun b=>b<w.heap.size) y (cf i) (fun _=>False)/\(cf i).length=P.cellsOf e/\qK w a.block (a.off+i*P.cellsOf e) (cf i):=by
       clear hel hlen hl hm h0 h hsA hsB
       induction len with
       |zero=>exact⟨[],fun _=>[],rfl,fun i y h=>by simp at h⟩
       |succ len ihl=>
        obtain⟨es,cf,e1,e2⟩:=ihl (fun i hi=>each i (by omega));obtain⟨y,cs',q1,q2,q3,q4⟩:=each len (by omega);refine⟨es++[y],fun i=>if i=len then cs' else cf i,by simp[e1],fun i z hz=>?_⟩;by_cases hi:i<es.length
        ·rw[yA hi]at hz;simp only[if_neg (show ¬i=len by omega)];exact e2 i z hz
        ·rw[yr (by omega)]at hz;have hil:=(zq.1 hz).1;simp only[zj,List.length_nil]at hil;obtain rfl:i=len:=(by omega);have:i-es.length=0:=(by omega);rw[this]at hz;simp only[qa,za]at hz;subst hz;simp only[if_true];exact⟨q1,q2,q3,q4⟩
      obtain⟨es,cf,e1,e2⟩:=this;have ha:(some a)=some ⟨a.block,a.off,none⟩:=(by rw[<-hspot.1]);rw[ha]
      exact⟨.slc false e (dZ ti.zero).frz es,.slc t ti e es ht hkk (by omega) (fun i y hi=>(e2 i y hi).1),
       .fz e _ es a.block a.off len cap cf _ e1.symm (by omega) hm hspot.2 (fun i hi=>by
        obtain⟨y,hy⟩:∃y,es[i]? =some y:=⟨_,ze hi⟩
        exact⟨(e2 i y hy).2.2.1,(e2 i y hy).2.2.2⟩) (fun i y hi=>(e2 i y hi).2.1)⟩
  |agg fts=>
   have hf:zet P t=some fts:=hT.fields (zzY ht hkk)
   have hu:∃fs:Array Field,P.underlying t=some (.struct fs)/\fts=fs.toList.map fun x=>(x.offset,x.type):=by
    unfold zet at hf;split at hf
    ·rename_i fs heq;simp only[za]at hf;exact⟨fs,heq,hf.symm⟩
    ·cases hf
   obtain⟨fa,hu,rfl⟩:=hu;have hc:=hT.c ht;simp only[Yu,hkk,decide_eq_true_eq]at hc;obtain⟨xs,n,hn,_,hcl,hxl,hxs⟩:=DataW.trod_struct hu h;obtain rfl:n=fuel:=by omega
   have hmem:∀(i o:Nat) (ft:TypeId),(fa.toList.map fun x=>(x.offset,x.type))[i]? =some (o,ft)->∃te,jb T ft=some te:=by
    intro i o ft hi
    have key:∀(l:List (Nat×TypeId)) (n m:Nat),zcp T l n=some m->∀(i:Nat) (o:Nat) (ft:TypeId),l[i]? =some (o,ft)->∃te,jb T ft=some te:=by
     intro l
     induction l with
     |nil=>intro n m _ i o ft h;simp at h
     |cons z l ihl=>
      intro n m hh i o ft hz;obtain⟨o',t'⟩:=z;simp only[zcp]at hh;split at hh
      ·rename_i te hte;split at hh
       ·cases i with
        |zero=>
         simp only[qa,za,zb]at hz;obtain⟨rfl,rfl⟩:=hz;exact⟨te,hte⟩
        |succ i=>exact ihl _ _ hh i o ft (by simpa using hz)
       ·cases hh
      ·cases hh
    exact key _ _ _ hc i o ft hi
   have each:∀(i:Nat) (f:Field),fa[i]? =some f->∃y,Wt T f.type y/\Rep P.cellsOf w (fun b=>b<w.heap.size) y ((cs.drop f.offset).take (P.cellsOf f.type)) (fun _=>False):=by
    intro i f hi;have h1:=hxs i f hi
    have hil:i<xs.length:=by
     have:=(yU.1 hi).1;omega
    rw[ze hil]at h1;obtain⟨te,hte⟩:=hmem i f.offset f.type (by rw[zK,jO,hi];rfl);exact ih f.type te _ _ hte (hno _ _ hte) hno h1
   have:∃ys:List V,ys.length=fa.size/\∀(i:Nat) (f:Field) (y:V),fa[i]? =some f->ys[i]? =some y->Wt T f.type y/\Rep P.cellsOf w (fun b=>b<w.heap.size) y ((cs.drop f.offset).take (P.cellsOf f.type)) (fun _=>False):=by
    have key:∀m,m<=fa.size->∃ys:List V,ys.length=m/\∀(i:Nat) (f:Field) (y:V),fa[i]? =some f->ys[i]? =some y->Wt T f.type y/\Rep P.cellsOf w (fun b=>b<w.heap.size) y ((cs.drop f.offset).take (P.cellsOf f.type)) (fun _=>False):=by
     intro m
     induction m with
     |zero=>intro _;exact⟨[],rfl,fun i f y _ h=>by simp at h⟩
     |succ m ihm=>
      intro hm;obtain⟨ys,e1,e2⟩:=ihm (by omega);obtain⟨y,q1,q2⟩:=each m (fa[m]'(by omega)) (qn (by omega));refine⟨ys++[y],by simp[e1],fun i f z hf hz=>?_⟩;by_cases hi:i<ys.length
      ·rw[yA hi]at hz;exact e2 i f z hf hz
      ·rw[yr (by omega)]at hz;have hil:=(zq.1 hz).1;simp only[zj,List.length_nil]at hil;obtain rfl:i=m:=(by omega);have:i-ys.length=0:=(by omega);rw[this]at hz;simp only[qa,za]at hz;subst hz;rw[qn (by omega)]at hf;simp only[za]at hf;subst hf;exact⟨q1,q2⟩
    exact key fa.size (zw _)
   obtain⟨ys,e1,e2⟩:=this
   have hw:∀(i:Nat) (o:Nat) (ft:TypeId) (y:V),(fa.toList.map fun x=>(x.offset,x.type))[i]? =some (o,ft)->ys[i]? =some y->Wt T ft y:=by
    intro i o ft y hi hy;rw[zK,jO]at hi
    cases hfi:fa[i]? with
    |none=>rw[hfi]at hi;cases hi
    |some f=>
     rw[hfi]at hi;simp only[Option.map_some,za,zb]at hi;obtain⟨rfl,rfl⟩:=hi;exact(e2 i f y hfi hy).1
   have hwt:Wt T t (.agg ys):=.agg t ti _ ys ht hkk (by simp[e1]) hw;obtain⟨o1,o2⟩:=zpS _ 0 ti.cells ys hc (by simp[e1]) (fun i o ft y a b=>((hw i o ft y a b).size hT).1);refine⟨.agg ys,hwt,.agg ys cs (fun _ _=>False) _ ?_ (fun _ _ h=>h) (fun _ _ _ _ h=>h.elim) (fun i y hy=>?_)⟩
   ·rw[hcl,hT.cells ht];omega
   ·have hif:i<fa.size:=by
     have:=(zq.1 hy).1;omega
    obtain⟨w1,w2⟩:=e2 i fa[i] y (qn hif) hy;have hoff:=o2 i fa[i].offset fa[i].type (by rw[zK,jO,qn hif];rfl);rw[jB]at hoff
    have hsz:y.size=P.cellsOf fa[i].type:=by
     rw[(w1.size hT).1];obtain⟨te,hte⟩:=hmem i fa[i].offset fa[i].type (by rw[zK,jO,qn hif];rfl);rw[hT.cells hte];simp[ub,hte]
    rw[<-hoff,hsz];exact w2
  |oth=>exact absurd hkk hk
theorem zEW{t:TypeId}{ti:TI}{r:Reach}{b0:Nat}{v:Value}{y:V}(hT:TabOk P T)(ht:jb T t=some ti)(hv:Value.okWide P w r b0 t v)(hy:Wt T t y):y.reg v.cells.toList v:=by
 have hnagg:zes ti.k=false->v.cells.toList=[v]:=by
  intro hk;have hag:=hT.agg ht;rw[hk]at hag
  have hcell:∀w' r' b',Cell.okWide P w' r' b' t v->v.cells.toList=[v]:=by
   intro w' r' b' hc;unfold Cell.okWide at hc
   split at hc<;>first|rfl|skip
   unfold Cell.ok at hc
   split at hc<;>first|rfl|exact hc.elim
  unfold Value.okWide at hv;unfold zig at hag;split at hv
  ·rename_i heq;rw[heq]at hag;simp at hag
  ·rename_i heq;rw[heq]at hag;simp at hag
  ·exact hcell _ _ _ hv
 cases hy with
 |int _ ti' k n h hk hn=>rw[ht]at h;cases h;rw[hnagg (by rw[hk];rfl)];rfl
 |bool _ ti' b h hk=>rw[ht]at h;cases h;rw[hnagg (by rw[hk];rfl)];rfl
 |str _ ti' s' h hk hs=>rw[ht]at h;cases h;rw[hnagg (by rw[hk];rfl)];rfl
 |slc _ ti' e es h hk hl he=>rw[ht]at h;cases h;rw[hnagg (by rw[hk];rfl)];rfl
 |agg _ ti' fts fs h hk hl he=>
  rw[ht]at h;cases h;have hag:=hT.agg ht;rw[hk]at hag;unfold zig at hag;unfold Value.okWide at hv;split at hv
  ·obtain⟨cs,rfl,_⟩:=hv;simp[V.reg,Value.cells]
  ·obtain⟨cs,rfl,_⟩:=hv;simp[V.reg,Value.cells]
  ·rename_i h1 h2;split at hag
   ·rename_i heq;exact(h1 _ heq).elim
   ·rename_i heq;exact(h2 _ _ heq).elim
   ·simp[zes]at hag
   ·cases hag
end
end
section
variable {H:Type}{enc:TypeId×Value->H}{P:Program}{T:kH}
theorem zik:∀{ts:List TypeId} {vs:List Value} {ds:List (DataW H)} {ps:List MemPlace} {w:World} {b:Nat} {sp:Nat->Bool} {hd:Bool},DataW.TrodAll enc P w b sp hd ts vs ds ps->vs.length=ts.length/\ds.length=ts.length
 |[],[],[],_,_,_,_,_,_=>⟨rfl,rfl⟩
 |_::ts,_::vs,_::ds,_,_,_,_,_,h=>by
  obtain⟨p,q,_,h2,_⟩:=h;obtain⟨a,b⟩:=zik h2;exact⟨by simp[a],by simp[b]⟩
 |[],_::_,_,_,_,_,_,_,h=>h.elim
 |[],[],_::_,_,_,_,_,_,h=>h.elim
 |_::_,[],_,_,_,_,_,_,h=>h.elim
 |_::_,_::_,[],_,_,_,_,_,h=>h.elim
theorem zkO(hT:TabOk P T)(hno:∀t ti,jb T t=some ti->ti.k≠.oth){W:World}{r:Reach}{b0:Nat}:∀{ts:List TypeId} {vs:List Value} {ds:List (DataW H)} {ps:List MemPlace} {b:Nat} {sp:Nat->Bool} {hd:Bool},
 DataW.TrodAll enc P W b sp hd ts vs ds ps->(∀t∈ts,(jb T t).isSome=true)->(∀(j:Nat) (t:TypeId) (v:Value),ts[j]? =some t->vs[j]? =some v->Value.okWide P W r b0 t v)->
 ∃xs:List V,xs.length=ts.length/\(∀(j:Nat) (t:TypeId) (x:V),ts[j]? =some t->xs[j]? =some x->Wt T t x)/\
  ∀(j:Nat) (x:V) (v:Value),xs[j]? =some x->vs[j]? =some v->x.reg v.cells.toList v/\Rep P.cellsOf W (fun b=>b<W.heap.size) x v.cells.toList (fun _=>False)
 |[],[],[],_,_,_,_,_,_,_=>⟨[],rfl,fun j t x h=>by simp at h,fun j x v h=>by simp at h⟩
 |t::ts,v::vs,d::ds,_,_,_,_,h,ht,hv=>by
  obtain⟨p,q,⟨fuel,h1⟩,h2,_⟩:=h;obtain⟨xs,e1,e2,e3⟩:=zkO hT hno h2 (fun t ht'=>ht t (zI _ ht')) (fun j t v a b=>hv (j+1) t v (by simpa using a) (by simpa using b));obtain⟨ti,hti⟩:=Option.isSome_iff_exists.1 (ht t (by simp));obtain⟨y,y1,y2⟩:=zDw hT fuel t ti _ _ hti (hno _ _ hti) hno h1;refine⟨y::xs,by simp[e1],fun j t' x a b=>?_,fun j x v' a b=>?_⟩
  ·cases j with
   |zero=>
    simp only[qa,za]at a b;subst a;subst b;exact y1
   |succ j=>exact e2 j t' x (by simpa using a) (by simpa using b)
  ·cases j with
   |zero=>
    simp only[qa,za]at a b;subst a;subst b;exact⟨zEW hT hti (hv 0 t v rfl rfl) y1,y2⟩
   |succ j=>exact e3 j x v' (by simpa using a) (by simpa using b)
 |[],_::_,_,_,_,_,_,h,_,_=>h.elim
 |[],[],_::_,_,_,_,_,h,_,_=>h.elim
 |_::_,[],_,_,_,_,_,h,_,_=>h.elim
 |_::_,_::_,[],_,_,_,_,h,_,_=>h.elim
theorem zkx(hl:laidOutB P=true){W W':World}(hb:Below W.heap.size W W'):∀{ts:List TypeId} {vs:List Value} {ds:List (DataW H)} {ps:List MemPlace},
 (∀t∈ts,P.readableRec t=true/\t<P.types.size)->DataW.TrodAll enc P W 0 (fun _=>true) true ts vs ds ps->(∀x∈ps,x.block<W.heap.size)->
 DataW.TrodAll enc P W' 0 (fun b=>decide (b<W.heap.size)) true ts vs ds ps
 |[],[],[],_,_,h,_=>h
 |t::ts,v::vs,d::ds,_,ht,h,hlt=>by
  obtain⟨p,q,h1,h2,rfl⟩:=h
  exact⟨p,q,Below.trod hl (ht t (by simp)).1 (ht t (by simp)).2 h1 hb (fun x hx=>hlt x (List.mem_append_left _ hx)),
   zkx hl hb (fun t ht'=>ht t (zI _ ht')) h2 (fun x hx=>hlt x (List.mem_append_right _ hx)),rfl⟩
 |[],_::_,_,_,_,h,_=>h.elim
 |[],[],_::_,_,_,h,_=>h.elim
 |_::_,[],_,_,_,h,_=>h.elim
 |_::_,_::_,[],_,_,h,_=>h.elim
theorem zzK{f:Func}{k:FuncId}{s:ChangeSpec}(hl:laidOutB P=true)(hT:TabOk P T)(hno:∀t ti,jb T t=some ti->ti.k≠.oth)
 (hps:∀t∈f.params.toList,(jb T t).isSome=true/\P.readableRec t=true/\t<P.types.size) (tb:TypeId) (hres:f.resultTypes= #[tb]) (htb:P.underlying tb=some .bool)
 (hvars:s.vars=[]) (hfn:∀ds:List (DataW H),ds.length=f.params.size->s.fn H ds={results:=[.lit (.bool true)],args:=ds})
 (hok:∀xs:List V,xs.length=f.params.size->(∀(j:Nat) (t:TypeId) (x:V),f.params[j]? =some t->xs[j]? =some x->Wt T t x)->zeH P k xs (.bool true))
 {W:World} {base:Nat} {args:Array Value} {ds gs:List (DataW H)} {before:List MemPlace}
 (hval:∀(j:Nat) (t:TypeId) (v:Value),f.params[j]? =some t->args[j]? =some v->Value.okWide P W .any base t v)
 (hW:DataW.Whole enc P f.params.toList s.vars false W args.toList ds gs before) (hG:Gl P W (fun b=>b<W.heap.size):=by exact zD6 (by kernel_rfl) _ _):
 Calls P k args W (fun e W'=>∃v,e=.returned v/\s.post enc P f false true false false W args v W'):=by
 have hW':=hW;obtain⟨p,q,hA,hV,rfl,hfz,hnd⟩:=hW;rw[hvars]at hV;obtain⟨rfl,rfl⟩:=trodVars_none hV;obtain⟨xs,x1,x2,x3⟩:=zkO hT hno hA (fun t ht=>(hps t ht).1) (fun j t v a b=>hval j t v (by simpa using a) (by simpa using b));have hlen:=zik hA
 have hsz:args.size=xs.length:=by
  have:=hlen.1;simp only[jm]at this;rw[x1,this,jm]
 have hok':=hok xs (by rw[x1,jm]) (fun j t x a b=>x2 j t x (by simpa using a) b);refine(hok'.2 args W (fun b=>b<W.heap.size) hsz (fun i x hx=>?_) (fun b h=>h) hG).mono ?_
 ·have hi:i<args.size:=by
   have:=(zq.1 hx).1;omega
  have hgi:args.toList[i]? =some (args.getD i undef):=by
   rw[jO,qn hi,zD,qn hi];rfl
  exact⟨_,x3 i x _ hx hgi⟩
 ·rintro e W' ⟨v,cs,On,Fr,he,hreg,hrep,_,_,hbelow⟩
  have hv:v=.bool true:=by
   cases hrep;exact hreg
  subst hv;refine⟨_,he,?_⟩;have hold:∀p'∈p++[],(fun b=>decide (b<W.heap.size)) p'.block=true:=fun p' hp=>by simpa using hW'.lt p' hp
  have hargs:DataW.TrodAll enc P W' 0 (fun b=>decide (b<W.heap.size)) true f.params.toList args.toList ds p:=
   zkx hl hbelow.below (fun t ht=>⟨(hps t ht).2.1,(hps t ht).2.2⟩) hA (fun x hx=>hW'.lt x (List.mem_append_left _ hx))
  have hf2:=hfn ds (by rw[hlen.2,jm]);refine⟨ds,[],p++[],[],p,[],hW',?_,?_,?_,World.keptBut_mono (fun p' hp=>hp.elim) (hbelow.below.frame (fun _=>False)),fun h=>(Bool.false_ne_true h).elim⟩
  ·rw[yp,hf2,hres];exact trodAll_mk1 (shut_bool htb true)
  ·rw[yp,hf2];exact hargs
  ·rw[yp,hf2,hvars];exact rfl
end
end Go.Ax
namespace Go.Ax
open Go.RowKit
section
theorem zpW:∀(l:List V),l.length≠0->l=Kh l++[zaD l]
 |[],h=>absurd rfl h
 |[x],_=>rfl
 |x::z::l,_=>by
  have:=zpW (z::l) (by simp);simp only[Kh,zaD,yf];rw[<-this]
theorem zv4{x y:V}{cs ds:List Value}{v:Value}(h:Sh x y)(hx:x.isHole=false)(h1:x.reg cs v)(l1:cs.length=x.size)(h2:y.reg ds v)(l2:ds.length=y.size):ds=cs:=by
 have one:∀{z:V} {c:List Value},z.isHole=false->(∀fs,z≠.agg fs)->z.reg c v->c.length=z.size->c=[v]:=by
  intro z c hz hna hr hl
  have:z.size=1:=by cases z<;>first|rfl|exact absurd rfl (hna _)|cases hz
  match c,(by omega:c.length=1)with
  |[u],_=>
   have:v=u:=by cases z<;>first|exact hr|exact absurd rfl (hna _)|cases hz
   rw[this]
 by_cases ha:∃fs,x=.agg fs
 ·obtain⟨fs,rfl⟩:=ha;obtain⟨fs',rfl,_⟩:=h.facts.2.2.2.2.1 fs rfl;have e1:v=.agg cs.toArray:=h1;have e2:v=.agg ds.toArray:=h2;rw[e1]at e2;simp only[Value.agg.injEq]at e2;have:=congrArg Array.toList e2;simpa using this.symm
 ·have hy:∀fs,y≠.agg fs:=by
   intro fs hy;subst hy
   cases h with
   |refl=>exact ha ⟨_,rfl⟩
   |scal _ _ _ h'=>simp[V.isScalar]at h'
   |agg es=>exact ha ⟨_,rfl⟩
  have hyh:y.isHole=false:=by
   cases h with
   |refl=>exact hx
   |scal _ _ _ h'=>cases y<;>simp_all [V.isScalar,V.isHole]
   |slc=>rfl
   |agg=>rfl
   |box=>rfl
  rw[one hx (fun fs e=>ha ⟨fs,e⟩) h1 l1,one hyh hy h2 l2]
theorem zD8{P:Program}{T:kH}{B:kn}{Bi:qV}{k:FuncId}{fn:Func}{body:Code}{args:List V}{r x y:V}{n:Nat}(j:Nat)(ks:List Nat)(hf:P.funcs[k]? =some fn)(hb:fn.body=some body)(hn:fn.ntmps=n)(hname:(fn.name== "runtime.NumGoroutine")=false)
 (hl:args.length<=n) (hm:P.follows .mixedOrders=true) (hT:TabOk P T) (hB:Yd P B) (hBi:uQ P Bi) (hck:kv T ks (j+1) true body=true) (hnm:zs0 Bi=true) (hj:args[j]? =some x) (hnh:x.isHole=false) (hsh:Sh x y) (hro:r.owned=false)
 (h9:Nat.blt j 1000=true) (h:∀(L:Alg) (lp:YQ) (rr yy:V),L=yz T->rr=r->yy=y->Qu (kJ 0 args)->QV L T B Bi n ks lp->Zq L T lp B Bi n ks body (zBw L T fn.results.toList j rr yy) (kJ 0 args)):zhc P k j args r y:=by
 have h9':j<1000:=by simpa [zkr]using h9
 unfold zhc;rw[Nat.mod_eq_of_lt h9'];refine⟨⟨fn,hf,hname,by rw[hb];rfl⟩,⟨x,hj,hsh,fun h=>absurd h (Nat.not_le.2 h9')⟩,fun ym w F Oj css0 hsz hv hF hOj hG=>?_⟩;have hjl:j<args.length:=(zq.1 hj).1;refine calls_of_wp hf hb ?_
 let C:Ctx:={P:=P,Φ:=Ka B,w0:=w,X:=Oj,F0:=F,nt:=n,Ψ:=psi Bi,lo:=j+1,t0:=ym++Array.replicate (fn.ntmps-ym.size) undef,st:=true}
 have hGC:GlC C:=⟨hG,fun b hb=>⟨hF b hb,fun h=>(hOj b h).2 hb⟩⟩;have hC:Yy C:=zox (C:=C) hGC rfl hB;have hIO:IOk C:=zov (C:=C) hGC rfl hBi
 let D:Env:=fun t=>if t<args.length then⟨true,true,0,.val (args.getD t (.hole 0))⟩else⟨false,true,0,.val (.hole 0)⟩
 have hts:(ym++Array.replicate (fn.ntmps-ym.size) undef).size=n:=by
  simp only[zb2,zaf];omega
 have hgl:∀t,t<args.length->(ym++Array.replicate (fn.ntmps-ym.size) undef).getD t undef=ym.getD t undef:=by
  intro t ht;simp only[zD];rw[Zp (by omega)]
 have hgr:∀t,¬t<args.length->(ym++Array.replicate (fn.ntmps-ym.size) undef).getD t undef=undef:=by
  intro t ht;simp only[zD];rw[uZ (by omega)];by_cases h:t-ym.size<fn.ntmps-ym.size
  ·simp[h]
  ·simp[h]
 have hA:Agr (kJ 0 args) D:=by
  refine⟨fun t g a h=>?_,fun t h=>?_⟩
  ·obtain⟨j,x,e1,e2,e3,e4⟩:=zgV _ _ _ _ _ h;subst e3;subst e4;simp only[jB]at e1;subst e1;have hlt:t<args.length:=(zq.1 e2).1;simp only[D,if_pos hlt,gb,vz,jR e2];exact⟨trivial,trivial,fun _=>trivial⟩
  ·by_cases hlt:t<args.length
   ·exact absurd (by have:=zgz args 0 t _ (yH (.hole 0) hlt);simpa using this) (h (none,.val (args.getD t (.hole 0))))
   ·simp[D,hlt,E.owner]
 have hI:Inv C F (fun t=>if t=j then Oj else fun _=>False) (fun _=>False) D {tmps:=ym++Array.replicate (fn.ntmps-ym.size) undef,defers:=[]} w:=by
  have hO:∀s b,(if s=j then Oj else fun _=>False) b->s=j/\Oj b:=by
   intro s b hb;split at hb
   ·rename_i e;exact⟨e,hb⟩
   ·exact hb.elim
  refine⟨fun t hg=>?_,fun s t b hst hb hb'=>hst ((hO s b hb).1.trans (hO t b hb').1.symm),fun s b hb=>(hOj b (hO s b hb).2).2,fun _ _ _ h=>h,fun _ h=>h.elim,fun s b hb=>(hOj b (hO s b hb).2).1,fun _ h=>h.elim,hF,fun s b hb=>.inr (hO s b hb).2,fun _ h=>h.elim,fun _ h=>h,fun _ h=>.inl h,fun _ _ _=>rfl,zw _,rfl,rfl,Kz.refl _,rfl,fun t s ver hr=>?_,fun t hg hu=>?_,hts,fun _ _=>rfl,fun _ _ _ _ _ _ h=>h⟩
  ·have hlt:t<args.length:=by
    by_cases hlt:t<args.length
    ·exact hlt
    ·simp[D,hlt]at hg
   refine⟨by rw[hts];omega,fun x hx=>?_,fun hn=>absurd (by simp only[D,if_pos hlt]) (hn (args.getD t (.hole 0)))⟩;simp only[D,if_pos hlt,A.val.injEq]at hx;subst hx;rw[hgl t hlt];obtain⟨v1,v2⟩:=hv t _ (yH (.hole 0) hlt);exact⟨_,v1,v2⟩
  ·simp only[D]at hr;split at hr<;>simp[A.refs]at hr
  ·have hlt:¬t<args.length:=by
    intro hlt;simp[D,hlt]at hg
   exact hgr t hlt
 have hGS:GS C (kJ 0 args) {tmps:=ym++Array.replicate (fn.ntmps-ym.size) undef,defers:=[]} w:=⟨D,hA,F,_,hI⟩;have hw:=zeU (C:=C) hC hIO hT rfl ⟨rfl,fun _=>hnm⟩ hm (lp:=zic T ks C) (fun c Q S h1 h2=>h2 h1) body _ _ hck (h (yz T) (zic T ks C) r y rfl rfl rfl hGS.facts (zoN hC hIO hT rfl ⟨rfl,fun _=>hnm⟩ hm ks)) _ w hGS;refine Code.wp_mono (fun e a' w' hq=>?_) hw;obtain⟨S',q1,D',hA',F',O',hI'⟩:=hq
 have fin:(match YU (yz T) T (fn.results.toList++[.tmp j]) S' with
  |some (ps,l)=>ZW ps (Jg (Kh l)=r/\zaD l=y)
  |none=>False)->a'.defers=[]/\∃v,(results fn a'.tmps).run P w'=.ok v w'/\∃(v':Value) (cs:List Value) (On Fr Xn:Nat->Prop),Ending.returned v=.returned v'/\r.reg cs v'/\Rep P.cellsOf w' (fun b=>F b\/Fr b) r cs On/\
   y.reg (css0 j) (ym.getD j undef)/\Rep P.cellsOf w' (fun b=>F b\/Fr b) y (css0 j) Xn/\Chg w w' Oj On Fr Xn (j<1000):=by
  intro hq;split at hq
  ·rename_i ps l hres;rw[JP]at hq;obtain⟨f2,vf,css,Ons,f1,f3,f4,f5,f6⟩:=zdq (C:=C) hT _ _ _ _ _ _ _ _ _ _ hI' hA' hres hq.1;have hlast:l=Kh l++[zaD l]:=zpW l (by rw[f2];simp);obtain⟨hq1,hq2,hq3⟩:=hq;generalize Kh l=l0 at hlast hq2;rw[hq3]at hlast;subst hlast;have hl0:l0.length=fn.results.size:=by simpa using f2
   obtain⟨vs,g0,g1,g2⟩:=zeK (fn:=fn) a'.tmps P w' vf (fun i x hx=>f1 i x (by
    rw[yA (zq.1 hx).1];exact hx))
   refine⟨hI'.defers,_,g2,?_⟩;have hFr:∀b,F' b->F b\/(F' b/\w.heap.size<=b):=fun b hb=>(hI'.ffr b hb).imp id (fun h=>⟨hb,h.resolve_right (fun h=>by cases h.1)⟩);have hsz:vs.size=l0.length:=(by rw[g0,hl0]);obtain⟨y1,y2⟩:=f3 l0.length y (by simp)
   have hvj:vf l0.length=ym.getD j undef:=by
    have:=f1 l0.length (.tmp j) (by rw[yr (by simp[hl0])];simp[hl0]);simp only[zk2,Sem.run_pure,Result.ok.injEq,and_true]at this;rw[<-this,hI'.kp j (zab j)];exact hgl j hjl
   rw[hvj]at y1;obtain⟨x1,x2⟩:=hv j x hj;have hcs:css l0.length=css0 j:=zv4 hsh hnh x1 x2.length y1 y2.length;rw[hcs]at y1 y2
   have hchg:∀Fr:Nat->Prop,(∀b,Fr b->F' b/\w.heap.size<=b)->Chg w w' Oj (fun _=>False) Fr (Ons l0.length) (j<1000):=fun Fr hfr=>
    ⟨hI'.size,hI'.os,hI'.tape,hI'.output,fun k hk hx=>hI'.old k hk hx,fun b hb=>hb.elim False.elim (fun hb=>⟨(hfr b hb).2,hI'.flt b (hfr b hb).1⟩),
     fun b hb=>(f6 _ b hb).1.elim (fun h=>.inr ⟨h,(f6 _ b hb).2.1⟩) .inl,fun _ h=>h.elim,fun b hb=>⟨fun h=>h,fun h=>(f6 _ b hb).2.2 (hfr b h).1⟩,
     fun _ k off u hk hu h0=>hI'.hx rfl k off u hk hu h0⟩
   by_cases h1:vs.size=1
   ·rw[dif_pos h1]
    have:∃z,l0=[z]:=by
     match l0,(by omega:l0.length=1)with
     |[z],_=>exact⟨z,rfl⟩
    obtain⟨z,rfl⟩:=this;have hr:z=r:=hq2;subst hr;obtain⟨e1,e2⟩:=f3 0 z rfl
    have hv0:vs[0]=vf 0:=by
     rw[<-g1 0 (by omega)];simp[zD,h1]
    exact⟨_,css 0,fun _=>False,fun b=>F' b/\w.heap.size<=b,_,rfl,by rw[hv0];exact e1,(e2.unowned hro).mono hFr (fun _ h=>h),y1,y2.mono hFr (fun _ h=>h),hchg _ (fun _ h=>h)⟩
   ·rw[dif_neg h1]
    have hr: .tup l0=r:=by
     have:=hq2;unfold Jg at this;split at this
     ·rename_i x;exact absurd (by simpa using hsz) h1
     ·exact this
    subst hr
    have hun:∀z∈l0,z.owned=false:=by
     simpa [V.owned,V.owneds_eq]using hro
    refine⟨_,[.tuple vs],fun _=>False,fun b=>F' b/\w.heap.size<=b,_,rfl,rfl,?_,y1,y2.mono hFr (fun _ h=>h),hchg _ (fun _ h=>h)⟩;refine .tup l0 vs css (fun _ _=>False) _ hsz (fun i b hb=>hb) (fun _ _ _ _ h=>h.elim) (fun i x hx=>?_) (fun i x hx=>?_)
    ·have hil:=(zq.1 hx).1;rw[g1 i (by omega)];exact(f3 i x (by rw[yA hil];exact hx)).1
    ·have hil:=(zq.1 hx).1;exact(((f3 i x (by rw[yA hil];exact hx)).2).unowned (hun x (yo hx))).mono hFr (fun _ h=>h)
  ·exact hq.elim
 cases e with
 |normal=>exact fin q1
 |ret=>exact fin q1
 |_=>exact q1.elim
theorem znK{R:V->Prop}{Qr:Yw}{P:Program}{T:kH}{B:kn}{Bi:qV}{k:FuncId}{fn:Func}{body:Code}{args:List V}{y c:V}{ty:TypeId}{n:Nat}(j:Nat)(ks:List Nat)(hf:P.funcs[k]? =some fn)(hb:fn.body=some body)(hn:fn.ntmps=n)(hname:(fn.name== "runtime.NumGoroutine")=false)
 (hl:args.length<=n) (hm:P.follows .mixedOrders=true) (hT:TabOk P T) (hB:Yd P B) (hBi:uQ P Bi) (hck:kv T ks (j+1) false body=true) (hj:args[j]? =some (.box ty c)) (hco:c.owned=false) (hsh:Sh (.box ty c) y)
 (h9:Nat.blt j 1000=true)
 (hQ:∀e S,Qr e S->(e=.normal\/e=.ret)/\(match YU (yz T) T (fn.results.toList++[.tmp j]) S with
  |some (ps,l)=>ZW ps (R (Jg (Kh l))/\zaD l=y)
  |none=>False))
 (h:∀lp:YQ,Qu (kJ 0 args)->QV (yz T) T B Bi n ks lp->Zq (yz T) T lp B Bi n ks body Qr (kJ 0 args)):
 zcP P k/\(∃x,args[j]? =some x/\Sh x y/\x.bare=true)/\
 ∀(ym:Array Value) (w:World) (F Oj:Nat->Prop) (css:Nat->List Value),ym.size=args.length->
  (∀(i:Nat) (x:V),args[i]? =some x->x.reg (css i) (ym.getD i undef)/\Rep P.cellsOf w F x (css i) (if i=j then Oj else fun _=>False))->
  (∀b,F b->b<w.heap.size)->(∀b,Oj b->b<w.heap.size/\¬F b)->Gl P w F->
  Calls P k ym w (fun e w'=>∃r,R r/\∃(v:Value) (cs:List Value) (On Fr Xn:Nat->Prop),e=.returned v/\r.reg cs v/\Rep P.cellsOf w' (fun b=>F b\/Fr b) r cs On/\
   y.reg (css j) (ym.getD j undef)/\Rep P.cellsOf w' (fun b=>F b\/Fr b) y (css j) Xn/\Chg w w' Oj On Fr Xn (1000+j<1000)):=by
 refine⟨⟨fn,hf,hname,by rw[hb];rfl⟩,⟨_,hj,hsh,by simp[V.bare,hco]⟩,fun ym w F Oj css0 hsz hv hF hOj hG=>?_⟩;have hx0:=(hv j _ hj).2;rw[if_pos rfl]at hx0
 obtain⟨b0,hb0,hrep0,hcs0⟩:∃b0,Oj b0/\Rep P.cellsOf w F (.box ty c) (css0 j) (fun z=>z=b0)/\css0 j=[.pointer (some ⟨b0,0,none⟩)]:=by
  generalize css0 j=cc at hx0
  cases hx0 with
  |box _ _ b cur cs Oc O hb hcs hO hOs hr=>exact⟨b,hO,.box ty c b cur cs (fun _=>False) _ hb hcs rfl (fun x hx=>hx.elim) (hr.unowned hco),rfl⟩
 let OB:Nat->Prop:=fun z=>z=b0
 have hOB:∀b,OB b->b<w.heap.size/\¬F b:=fun b h=>hOj b (by rw[show b=b0 from h];exact hb0);have hjl:j<args.length:=(zq.1 hj).1;refine calls_of_wp hf hb ?_
 let C:Ctx:={P:=P,Φ:=Ka B,w0:=w,X:=OB,F0:=F,nt:=n,Ψ:=psi Bi,lo:=j+1,t0:=ym++Array.replicate (fn.ntmps-ym.size) undef,st:=false}
 have hGC:GlC C:=⟨hG,fun b hb=>⟨hF b hb,fun h=>(hOB b h).2 hb⟩⟩;have hC:Yy C:=zox (C:=C) hGC rfl hB;have hIO:IOk C:=zov (C:=C) hGC rfl hBi
 let D:Env:=fun t=>if t<args.length then⟨true,true,0,.val (args.getD t (.hole 0))⟩else⟨false,true,0,.val (.hole 0)⟩
 have hts:(ym++Array.replicate (fn.ntmps-ym.size) undef).size=n:=by
  simp only[zb2,zaf];omega
 have hgl:∀t,t<args.length->(ym++Array.replicate (fn.ntmps-ym.size) undef).getD t undef=ym.getD t undef:=by
  intro t ht;simp only[zD];rw[Zp (by omega)]
 have hgr:∀t,¬t<args.length->(ym++Array.replicate (fn.ntmps-ym.size) undef).getD t undef=undef:=by
  intro t ht;simp only[zD];rw[uZ (by omega)];by_cases h:t-ym.size<fn.ntmps-ym.size
  ·simp[h]
  ·simp[h]
 have hA:Agr (kJ 0 args) D:=by
  refine⟨fun t g a h=>?_,fun t h=>?_⟩
  ·obtain⟨j,x,e1,e2,e3,e4⟩:=zgV _ _ _ _ _ h;subst e3;subst e4;simp only[jB]at e1;subst e1;have hlt:t<args.length:=(zq.1 e2).1;simp only[D,if_pos hlt,gb,vz,jR e2];exact⟨trivial,trivial,fun _=>trivial⟩
  ·by_cases hlt:t<args.length
   ·exact absurd (by have:=zgz args 0 t _ (yH (.hole 0) hlt);simpa using this) (h (none,.val (args.getD t (.hole 0))))
   ·simp[D,hlt,E.owner]
 have hI:Inv C F (fun t=>if t=j then OB else fun _=>False) (fun _=>False) D {tmps:=ym++Array.replicate (fn.ntmps-ym.size) undef,defers:=[]} w:=by
  have hO:∀s b,(if s=j then OB else fun _=>False) b->s=j/\OB b:=by
   intro s b hb;split at hb
   ·rename_i e;exact⟨e,hb⟩
   ·exact hb.elim
  refine⟨fun t hg=>?_,fun s t b hst hb hb'=>hst ((hO s b hb).1.trans (hO t b hb').1.symm),fun s b hb=>(hOB b (hO s b hb).2).2,fun _ _ _ h=>h,fun _ h=>h.elim,fun s b hb=>(hOB b (hO s b hb).2).1,fun _ h=>h.elim,hF,fun s b hb=>.inr (hO s b hb).2,fun _ h=>h.elim,fun _ h=>h,fun _ h=>.inl h,fun _ _ _=>rfl,zw _,rfl,rfl,Kz.refl _,rfl,fun t s ver hr=>?_,fun t hg hu=>?_,hts,fun _ _=>rfl,fun h=>by cases h⟩
  ·have hlt:t<args.length:=by
    by_cases hlt:t<args.length
    ·exact hlt
    ·simp[D,hlt]at hg
   refine⟨by rw[hts];omega,fun x hx=>?_,fun hn=>absurd (by simp only[D,if_pos hlt]) (hn (args.getD t (.hole 0)))⟩;simp only[D,if_pos hlt,A.val.injEq]at hx;subst hx;rw[hgl t hlt];obtain⟨v1,v2⟩:=hv t _ (yH (.hole 0) hlt);refine⟨_,v1,?_⟩;by_cases ht:t=j
   ·subst ht;rw[if_pos rfl,jR hj];exact hrep0
   ·rw[if_neg ht]at v2 ⊢;exact v2
  ·simp only[D]at hr;split at hr<;>simp[A.refs]at hr
  ·have hlt:¬t<args.length:=by
    intro hlt;simp[D,hlt]at hg
   exact hgr t hlt
 have hGS:GS C (kJ 0 args) {tmps:=ym++Array.replicate (fn.ntmps-ym.size) undef,defers:=[]} w:=⟨D,hA,F,_,hI⟩;have hw:=zeU (C:=C) hC hIO hT rfl ⟨rfl,fun h=>by cases h⟩ hm (lp:=zic T ks C) (fun c Q S h1 h2=>h2 h1) body _ _ hck (h (zic T ks C) hGS.facts (zoN hC hIO hT rfl ⟨rfl,fun h=>by cases h⟩ hm ks)) _ w hGS;refine Code.wp_mono (fun e a' w' hq=>?_) hw;obtain⟨S',q1,D',hA',F',O',hI'⟩:=hq
 have fin:(match YU (yz T) T (fn.results.toList++[.tmp j]) S' with
  |some (ps,l)=>ZW ps (R (Jg (Kh l))/\zaD l=y)
  |none=>False)->a'.defers=[]/\∃v,(results fn a'.tmps).run P w'=.ok v w'/\∃r,R r/\∃(v':Value) (cs:List Value) (On Fr Xn:Nat->Prop),Ending.returned v=.returned v'/\r.reg cs v'/\Rep P.cellsOf w' (fun b=>F b\/Fr b) r cs On/\
   y.reg (css0 j) (ym.getD j undef)/\Rep P.cellsOf w' (fun b=>F b\/Fr b) y (css0 j) Xn/\Chg w w' Oj On Fr Xn (1000+j<1000):=by
  intro hq;split at hq
  ·rename_i ps l hres;rw[JP]at hq;obtain⟨f2,vf,css,Ons,f1,f3,f4,f5,f6⟩:=zdq (C:=C) hT _ _ _ _ _ _ _ _ _ _ hI' hA' hres hq.1;have hlast:l=Kh l++[zaD l]:=zpW l (by rw[f2];simp);obtain⟨hq1,hq2,hq3⟩:=hq;generalize Kh l=l0 at hlast hq2;rw[hq3]at hlast;subst hlast;have hl0:l0.length=fn.results.size:=by simpa using f2
   obtain⟨vs,g0,g1,g2⟩:=zeK (fn:=fn) a'.tmps P w' vf (fun i x hx=>f1 i x (by
    rw[yA (zq.1 hx).1];exact hx))
   refine⟨hI'.defers,_,g2,?_⟩;have hsz:vs.size=l0.length:=(by rw[g0,hl0]);obtain⟨y1,y2⟩:=f3 l0.length y (by simp)
   have hvj:vf l0.length=ym.getD j undef:=by
    have:=f1 l0.length (.tmp j) (by rw[yr (by simp[hl0])];simp[hl0]);simp only[zk2,Sem.run_pure,Result.ok.injEq,and_true]at this;rw[<-this,hI'.kp j (zab j)];exact hgl j hjl
   rw[hvj]at y1;obtain⟨x1,x2⟩:=hv j _ hj;have hcs:css l0.length=css0 j:=zv4 hsh rfl x1 x2.length y1 y2.length;rw[hcs]at y1 y2
   have hyb:Ons l0.length b0:=by
    obtain⟨c',rfl⟩:∃c',y=.box ty c':=by
     cases hsh with
     |refl=>exact⟨_,rfl⟩
     |scal _ _ h1 h2=>cases h1
     |box _ _ c' h=>exact⟨c',rfl⟩
    rw[hcs0]at y2
    cases y2 with
    |box _ _ b cur cs Oc O hb hcs hO hOs hr=>exact hO
   have hFr:∀b,F' b->F b\/(F' b/\w.heap.size<=b):=fun b hb=>(hI'.ffr b hb).imp id (fun h=>⟨hb,h.resolve_right (fun h=>(f6 _ b0 hyb).2.2 (by rw[show b=b0 from h.2]at hb;exact hb))⟩);have hnew:∀i b,i≠l0.length->Ons i b->w.heap.size<=b/\b<w'.heap.size:=fun i b hi hb=>⟨(f6 i b hb).1.elim id (fun h=>(f5 i _ b hi hb (by rw[show b=b0 from h];exact hyb)).elim),(f6 i b hb).2.1⟩
   have hchg:∀On Fr:Nat->Prop,(∀b,On b->∃i,i≠l0.length/\Ons i b)->(∀b,Fr b->F' b/\w.heap.size<=b)->Chg w w' Oj On Fr (Ons l0.length) (1000+j<1000):=fun On Fr hon hfr=>
    ⟨hI'.size,hI'.os,hI'.tape,hI'.output,fun k hk hx=>hI'.old k hk (fun he=>hx (by rw[show k=b0 from he];exact hb0)),fun b hb=>hb.elim (fun hb=>by obtain⟨i,h1,h2⟩:=hon b hb;exact hnew i b h1 h2) (fun hb=>⟨(hfr b hb).2,hI'.flt b (hfr b hb).1⟩),
     fun b hb=>(f6 _ b hb).1.elim (fun h=>.inr ⟨h,(f6 _ b hb).2.1⟩) (fun h=>.inl (by rw[show b=b0 from h];exact hb0)),fun b hb hf=>by(obtain⟨i,h1,h2⟩:=hon b hb;exact(f6 i b h2).2.2 (hfr b hf).1),
     fun b hb=>⟨fun h=>by(obtain⟨i,h1,h2⟩:=hon b h;exact f5 i _ b h1 h2 hb),fun h=>(f6 _ b hb).2.2 (hfr b h).1⟩,
     fun h=>absurd h (by omega)⟩
   by_cases h1:vs.size=1
   ·rw[dif_pos h1]
    have:∃z,l0=[z]:=by
     match l0,(by omega:l0.length=1)with
     |[z],_=>exact⟨z,rfl⟩
    obtain⟨z,rfl⟩:=this;have hr:R z:=hq2;obtain⟨e1,e2⟩:=f3 0 z rfl
    have hv0:vs[0]=vf 0:=by
     rw[<-g1 0 (by omega)];simp[zD,h1]
    exact⟨z,hr,_,css 0,Ons 0,fun b=>F' b/\w.heap.size<=b,_,rfl,by rw[hv0];exact e1,e2.mono hFr (fun _ h=>h),y1,y2.mono hFr (fun _ h=>h),hchg _ _ (fun b hb=>⟨0,by simp,hb⟩) (fun _ h=>h)⟩
   ·rw[dif_neg h1]
    have hr:R (.tup l0):=by
     have:=hq2;unfold Jg at this;split at this
     ·rename_i x;exact absurd (by simpa using hsz) h1
     ·exact this
    refine⟨.tup l0,hr,_,[.tuple vs],fun b=>∃i,i<l0.length/\Ons i b,fun b=>F' b/\w.heap.size<=b,_,rfl,rfl,?_,y1,y2.mono hFr (fun _ h=>h),hchg _ _ (fun b hb=>by obtain⟨i,h1,h2⟩:=hb;exact⟨i,by omega,h2⟩) (fun _ h=>h)⟩;refine .tup l0 vs css (fun i b=>i<l0.length/\Ons i b) _ hsz (fun i b hb=>⟨i,hb.1,hb.2⟩) (fun i j b hne h h2=>f5 i j b hne h.2 h2.2) (fun i x hx=>?_) (fun i x hx=>?_)
    ·have hil:=(zq.1 hx).1;rw[g1 i (by omega)];exact(f3 i x (by rw[yA hil];exact hx)).1
    ·have hil:=(zq.1 hx).1;exact((f3 i x (by rw[yA hil];exact hx)).2).mono hFr (fun _ h=>⟨hil,h⟩)
  ·exact hq.elim
 obtain⟨q0,q2⟩:=hQ _ _ q1;rcases q0 with rfl|rfl
 ·exact fin q2
 ·exact fin q2
theorem zcY{P:Program}{T:kH}{B:kn}{Bi:qV}{k:FuncId}{fn:Func}{body:Code}{args:List V}{r y c:V}{ty:TypeId}{n:Nat}(j:Nat)(ks:List Nat)(hf:P.funcs[k]? =some fn)(hb:fn.body=some body)(hn:fn.ntmps=n)(hname:(fn.name== "runtime.NumGoroutine")=false)
 (hl:args.length<=n) (hm:P.follows .mixedOrders=true) (hT:TabOk P T) (hB:Yd P B) (hBi:uQ P Bi) (hck:kv T ks (j+1) false body=true) (hj:args[j]? =some (.box ty c)) (hco:c.owned=false) (hsh:Sh (.box ty c) y)
 (h9:Nat.blt j 1000=true)
 (h:∀(L:Alg) (lp:YQ) (rr yy:V),L=yz T->rr=r->yy=y->Qu (kJ 0 args)->QV L T B Bi n ks lp->Zq L T lp B Bi n ks body (zBw L T fn.results.toList j rr yy) (kJ 0 args)):zhc P k (1000+j) args r y:=by
 obtain⟨h1,h2,h3⟩:=znK (R:=fun c=>c=r) (Qr:=zBw (yz T) T fn.results.toList j r y) j ks hf hb hn hname hl hm hT hB hBi hck hj hco hsh h9 (fun e S hq=>by
  cases e with
  |normal=>exact⟨.inl rfl,hq⟩
  |ret=>exact⟨.inr rfl,hq⟩
  |_=>exact hq.elim) (fun lp h1 h2=>h (yz T) lp r y rfl rfl rfl h1 h2)
 obtain⟨x,x1,x2,x3⟩:=h2;have h9':j<1000:=by simpa [zkr]using h9
 unfold zhc;rw[show(1000+j)%1000=j by omega];refine⟨h1,⟨x,x1,x2,fun _=>x3⟩,fun ym w F Oj css a1 a2 a3 a4 a5=>Calls.mono (h3 ym w F Oj css a1 a2 a3 a4 a5) (fun e w' hq=>?_)⟩;obtain⟨c,rfl,hq⟩:=hq;exact hq
def zrO(L:Alg)(T:kH)(res:List ResultVar)(j:Nat)(r y:V):Yw:=fun e S=>match e with
 | .ret=>match YU L T (res++[.tmp j]) S with
   |some (ps,l)=>ZW ps (zbV L (Jg (Kh l))=r/\zaD l=y)
   |none=>False
 | .normal=>match YU L T (res++[.tmp j]) S with
   |some (ps,l)=>ZW ps (zbV L (Jg (Kh l))=r/\zaD l=y)
   |none=>False
 |_=>False
theorem zp3{P:Program}{T:kH}{B:kn}{Bi:qV}{k:FuncId}{fn:Func}{body:Code}{args:List V}{r y c:V}{ty:TypeId}{n:Nat}(j:Nat)(ks:List Nat)(hf:P.funcs[k]? =some fn)(hb:fn.body=some body)(hn:fn.ntmps=n)(hname:(fn.name== "runtime.NumGoroutine")=false)
 (hl:args.length<=n) (hm:P.follows .mixedOrders=true) (hT:TabOk P T) (hB:Yd P B) (hBi:uQ P Bi) (hck:kv T ks (j+1) false body=true) (hj:args[j]? =some (.box ty c)) (hco:c.owned=false) (hsh:Sh (.box ty c) y)
 (h9:Nat.blt j 1000=true)
 (h:∀(L:Alg) (lp:YQ) (rr yy:V),L=yz T->rr=r->yy=y->Qu (kJ 0 args)->QV L T B Bi n ks lp->Zq L T lp B Bi n ks body (zrO L T fn.results.toList j rr yy) (kJ 0 args)):zhc P k (1000+j) args r y:=by
 obtain⟨h1,h2,h3⟩:=znK (R:=fun c=>c.frz=r) (Qr:=zrO (yz T) T fn.results.toList j r y) j ks hf hb hn hname hl hm hT hB hBi hck hj hco hsh h9 (fun e S hq=>by
  cases e with
  |normal=>simp only[zrO,YW]at hq;exact⟨.inl rfl,hq⟩
  |ret=>simp only[zrO,YW]at hq;exact⟨.inr rfl,hq⟩
  |_=>exact hq.elim) (fun lp h1 h2=>h (yz T) lp r y rfl rfl rfl h1 h2)
 obtain⟨x,x1,x2,x3⟩:=h2;have h9':j<1000:=by simpa [zkr]using h9
 unfold zhc;rw[show(1000+j)%1000=j by omega];refine⟨h1,⟨x,x1,x2,fun _=>x3⟩,fun ym w F Oj css a1 a2 a3 a4 a5=>Calls.mono (h3 ym w F Oj css a1 a2 a3 a4 a5) (fun e w' hq=>?_)⟩;obtain⟨c,rfl,v,cs,On,Fr,Xn,e1,e2,e3,e4,e5,e6⟩:=hq;refine⟨v,cs,fun _=>False,fun b=>Fr b\/On b,Xn,e1,V.frz_reg e2,e3.frz.mono (fun b hb=>?_) (fun _ h=>h),e4,e5.mono (fun b hb=>hb.imp id .inl) (fun _ h=>h),⟨e6.size,e6.os,e6.tape,e6.output,e6.same,fun b hb=>e6.new b ?_,e6.xn,fun _ h=>h.elim,fun b hb=>⟨fun h=>h,fun h=>h.elim (e6.d2 b hb).2 (e6.d2 b hb).1⟩,e6.hdr⟩⟩
 ·rcases hb with(hb|hb)|hb
  ·exact .inl hb
  ·exact .inr (.inl hb)
  ·exact .inr (.inr hb)
 ·rcases hb with hb|hb|hb
  ·exact hb.elim
  ·exact .inr hb
  ·exact .inl hb
theorem zD7{P:Program}{T:kH}{B:kn}{Bi:qV}{k:FuncId}{fn:Func}{body:Code}{args:List V}{r:V}{n:Nat}(j:Nat)(ks:List Nat)(hf:P.funcs[k]? =some fn)(hb:fn.body=some body)(hn:fn.ntmps=n)(hname:(fn.name== "runtime.NumGoroutine")=false)
 (hl:args.length<=n) (hm:P.follows .mixedOrders=true) (hT:TabOk P T) (hB:Yd P B) (hBi:uQ P Bi) (hck:kv T ks 0 false body=true) (hj:j<args.length)
 (h:∀(L:Alg) (lp:YQ) (rr:V),L=yz T->rr=r->Qu (kJ 0 args)->QV L T B Bi n ks lp->Zq L T lp B Bi n ks body (zsA L T fn.results.toList rr) (kJ 0 args)):zy0 P k j args r:=by
 refine⟨⟨fn,hf,hname,by rw[hb];rfl⟩,hj,fun ym w F Oj hsz hv hF hOj hG=>?_⟩;refine calls_of_wp hf hb ?_
 let C:Ctx:={P:=P,Φ:=Ka B,w0:=w,X:=Oj,F0:=F,nt:=n,Ψ:=psi Bi,lo:=0,t0:= #[],st:=false}
 have hGC:GlC C:=⟨hG,fun b hb=>⟨hF b hb,fun h=>(hOj b h).2 hb⟩⟩;have hC:Yy C:=zox (C:=C) hGC rfl hB;have hIO:IOk C:=zov (C:=C) hGC rfl hBi
 let D:Env:=fun t=>if t<args.length then⟨true,true,0,.val (args.getD t (.hole 0))⟩else⟨false,true,0,.val (.hole 0)⟩
 have hts:(ym++Array.replicate (fn.ntmps-ym.size) undef).size=n:=by
  simp only[zb2,zaf];omega
 have hgl:∀t,t<args.length->(ym++Array.replicate (fn.ntmps-ym.size) undef).getD t undef=ym.getD t undef:=by
  intro t ht;simp only[zD];rw[Zp (by omega)]
 have hgr:∀t,¬t<args.length->(ym++Array.replicate (fn.ntmps-ym.size) undef).getD t undef=undef:=by
  intro t ht;simp only[zD];rw[uZ (by omega)];by_cases h:t-ym.size<fn.ntmps-ym.size
  ·simp[h]
  ·simp[h]
 have hA:Agr (kJ 0 args) D:=by
  refine⟨fun t g a h=>?_,fun t h=>?_⟩
  ·obtain⟨j,x,e1,e2,e3,e4⟩:=zgV _ _ _ _ _ h;subst e3;subst e4;simp only[jB]at e1;subst e1;have hlt:t<args.length:=(zq.1 e2).1;simp only[D,if_pos hlt,gb,vz,jR e2];exact⟨trivial,trivial,fun _=>trivial⟩
  ·by_cases hlt:t<args.length
   ·exact absurd (by have:=zgz args 0 t _ (yH (.hole 0) hlt);simpa using this) (h (none,.val (args.getD t (.hole 0))))
   ·simp[D,hlt,E.owner]
 have hI:Inv C F (fun t=>if t=j then Oj else fun _=>False) (fun _=>False) D {tmps:=ym++Array.replicate (fn.ntmps-ym.size) undef,defers:=[]} w:=by
  have hO:∀s b,(if s=j then Oj else fun _=>False) b->s=j/\Oj b:=by
   intro s b hb;split at hb
   ·rename_i e;exact⟨e,hb⟩
   ·exact hb.elim
  refine⟨fun t hg=>?_,fun s t b hst hb hb'=>hst ((hO s b hb).1.trans (hO t b hb').1.symm),fun s b hb=>(hOj b (hO s b hb).2).2,fun _ _ _ h=>h,fun _ h=>h.elim,fun s b hb=>(hOj b (hO s b hb).2).1,fun _ h=>h.elim,hF,fun s b hb=>.inr (hO s b hb).2,fun _ h=>h.elim,fun _ h=>h,fun _ h=>.inl h,fun _ _ _=>rfl,zw _,rfl,rfl,Kz.refl _,rfl,fun t s ver hr=>?_,fun t hg hu=>?_,hts,fun _ h=>absurd h (zhU _),fun h=>by cases h⟩
  ·have hlt:t<args.length:=by
    by_cases hlt:t<args.length
    ·exact hlt
    ·simp[D,hlt]at hg
   refine⟨by rw[hts];omega,fun x hx=>?_,fun hn=>absurd (by simp only[D,if_pos hlt]) (hn (args.getD t (.hole 0)))⟩;simp only[D,if_pos hlt,A.val.injEq]at hx;subst hx;rw[hgl t hlt];obtain⟨v1,v2,v3⟩:=hv t _ (yH (.hole 0) hlt);exact⟨v1,v2,v3⟩
  ·simp only[D]at hr;split at hr<;>simp[A.refs]at hr
  ·have hlt:¬t<args.length:=by
    intro hlt;simp[D,hlt]at hg
   exact hgr t hlt
 have hGS:GS C (kJ 0 args) {tmps:=ym++Array.replicate (fn.ntmps-ym.size) undef,defers:=[]} w:=⟨D,hA,F,_,hI⟩;have hw:=zeU (C:=C) hC hIO hT rfl ⟨rfl,fun h=>by cases h⟩ hm (lp:=zic T ks C) (fun c Q S h1 h2=>h2 h1) body _ _ hck (h (yz T) (zic T ks C) r rfl rfl hGS.facts (zoN hC hIO hT rfl ⟨rfl,fun h=>by cases h⟩ hm ks)) _ w hGS;refine Code.wp_mono (fun e a' w' hq=>?_) hw;obtain⟨S',q1,D',hA',F',O',hI'⟩:=hq
 have fin:(match YU (yz T) T fn.results.toList S' with
  |some (ps,l)=>ZW ps (Jg l=r)
  |none=>False)->a'.defers=[]/\∃v,(results fn a'.tmps).run P w'=.ok v w'/\∃(v':Value) (cs:List Value) (On Fr:Nat->Prop),Ending.returned v=.returned v'/\r.reg cs v'/\Rep P.cellsOf w' (fun b=>F b\/Fr b) r cs On/\(∀b,On b\/Fr b->Oj b\/(w.heap.size<=b/\b<w'.heap.size))/\(∀b,On b->¬Fr b)/\
  w.heap.size<=w'.heap.size/\w'.os=w.os/\w'.tape=w.tape/\Kz w w'/\(∀k,k<w.heap.size->¬Oj k->w'.heap[k]? =w.heap[k]?):=by
  intro hq;split at hq
  ·rename_i ps l hres;rw[JP]at hq;obtain⟨f2,vf,css,Ons,f1,f3,f4,f5,f6⟩:=zdq (C:=C) hT _ _ _ _ _ _ _ _ _ _ hI' hA' hres hq.1;obtain⟨vs,g0,g1,g2⟩:=zeK (fn:=fn) a'.tmps P w' vf f1;refine⟨hI'.defers,_,g2,?_⟩;have hFr:∀b,F' b->F b\/(F' b/\(Oj b\/w.heap.size<=b)):=fun b hb=>(hI'.ffr b hb).imp id (fun h=>⟨hb,h.elim .inr (fun h=>.inl h.2)⟩);have hOn:∀i b,Ons i b->(Oj b\/(w.heap.size<=b/\b<w'.heap.size))/\¬F' b:=fun i b hb=>⟨(f6 i b hb).1.elim (fun h=>.inr ⟨h,(f6 i b hb).2.1⟩) .inl,(f6 i b hb).2.2⟩;have hFn:∀b,F' b/\(Oj b\/w.heap.size<=b)->Oj b\/(w.heap.size<=b/\b<w'.heap.size):=fun b hb=>hb.2.imp id (fun h=>⟨h,hI'.flt b hb.1⟩)
   have hsz:vs.size=l.length:=by
    rw[g0,f2,jm]
   by_cases h1:vs.size=1
   ·rw[dif_pos h1]
    have:∃y,l=[y]:=by
     match l,(by omega:l.length=1)with
     |[y],_=>exact⟨y,rfl⟩
    obtain⟨y,rfl⟩:=this;have hr:y=r:=hq.2;subst hr;obtain⟨e1,e2⟩:=f3 0 y rfl
    have hv0:vs[0]=vf 0:=by
     rw[<-g1 0 (by omega)];simp[zD,h1]
    refine⟨_,css 0,Ons 0,fun b=>F' b/\(Oj b\/w.heap.size<=b),rfl,by rw[hv0];exact e1,e2.mono hFr (fun _ h=>h),fun b hb=>?_,fun b hb hf=>(hOn 0 b hb).2 hf.1,hI'.size,hI'.os,hI'.tape,hI'.output,fun k hk hn=>hI'.old k hk hn⟩;rcases hb with hb|hb
    ·exact(hOn 0 b hb).1
    ·exact hFn b hb
   ·rw[dif_neg h1]
    have hr: .tup l=r:=by
     have:=hq.2;unfold Jg at this;split at this
     ·rename_i x;exact absurd (by simpa using hsz) h1
     ·exact this
    subst hr;refine⟨_,[.tuple vs],fun b=>∃i,Ons i b,fun b=>F' b/\(Oj b\/w.heap.size<=b),rfl,rfl,?_,fun b hb=>?_,fun b hb hf=>?_,hI'.size,hI'.os,hI'.tape,hI'.output,fun k hk hn=>hI'.old k hk hn⟩
    ·refine .tup l vs css Ons _ hsz (fun i b hb=>⟨i,hb⟩) f5 (fun i x hx=>?_) (fun i x hx=>((f3 i x hx).2).mono hFr (fun _ h=>h));have hil:=(zq.1 hx).1;rw[g1 i (by omega)];exact(f3 i x hx).1
    ·rcases hb with⟨i,hb⟩|hb
     ·exact(hOn i b hb).1
     ·exact hFn b hb
    ·obtain⟨i,hb⟩:=hb;exact(hOn i b hb).2 hf.1
  ·exact hq.elim
 cases e with
 |normal=>exact fin q1
 |ret=>exact fin q1
 |_=>exact q1.elim
end
def gP:V->V
 | .agg (.slc true e d es::l)=>.agg (.slc true e d.frz (V.frzs es)::l)
 |x=>x
def gT:V->V
 | .tup (x::l)=>.tup (gP x::l)
 |x=>gP x
def gPL(L:Alg):V->V
 | .agg (.slc true e d es::l)=>.agg (.slc true e d.frz (L.frz es)::l)
 |x=>x
def gTL(L:Alg):V->V
 | .tup (x::l)=>.tup (gPL L x::l)
 |x=>gPL L x
theorem zwt(T:kH)(x:V):gPL (yz T) x=gP x:=by unfold gPL gP;split<;>rfl
theorem zmd(T:kH)(x:V):gTL (yz T) x=gT x:=by
 unfold gTL gT;split
 ·simp only[zwt]
 ·exact zwt T _
theorem zzW(d:V):d.frz.isBox=false:=by cases d<;>simp[V.frz,V.isBox]
theorem zzV{x:V}{cs:List Value}{v:Value}(h:x.reg cs v):(gP x).reg cs v:=by
 unfold gP;split
 ·exact h
 ·exact h
theorem znH(es:List V):(V.frzs es).length=es.length:=by rw[V.frzs_eq,List.length_map]
section
variable {cz:TypeId->Nat}{w:World}{F:Nat->Prop}{x:V}{cs:List Value}{O:Nat->Prop}
theorem Rep.frz1{e:TypeId}{d:V}{es:List V}(h:Rep cz w F (.slc true e d es) cs O)(d':V)(hd:d'.isBox=false):
 ∃O1:Nat->Prop,(∀b,O1 b->O b)/\Rep cz w (fun b=>F b\/O b/\¬O1 b) (.slc true e d' (V.frzs es)) cs O1:=by
 cases h with
 |own0=>exact⟨fun _=>False,fun _ h=>h.elim,.own0 ..⟩
 |own _ _ _ b len cap cur cs Os O hb hsz hl hc hm hO hOs hdis hcs hr hd9=>
  refine⟨fun x=>x=b,fun x hx=>by rw[show x=b from hx];exact hO,.own e d' _ b len cap cur cs (fun _ _=>False) _ hb hsz (by rw[znH];exact hl) (by rw[znH];exact hc) hm rfl (fun _ _ h=>h.elim) (fun _ _ _ _ h=>h.elim) (fun i hi=>hcs i (by rwa [znH]at hi)) (fun i x hx=>?_) (fun h=>by rw[hd]at h;cases h)⟩;rw[V.frzs_eq,zK]at hx
  cases hy:es[i]? with
  |none=>simp[hy]at hx
  |some y=>
   simp[hy]at hx;subst hx;exact(hr i y hy).frz.mono (fun b' h=>h.imp id (fun h=>⟨(hOs i b' h).1,(hOs i b' h).2⟩)) (fun _ h=>h)
theorem Rep.gP(h:Rep cz w F x cs O):∃N:Nat->Prop,(∀b,N b->O b)/\Rep cz w (fun b=>F b\/N b) (gP x) cs (fun b=>O b/\¬N b):=by
 unfold Go.Ax.gP;split
 ·rename_i e d es l
  cases h with
  |agg fs cs Os O hn hOs hdis hr=>
   obtain⟨O1,h1,h2⟩:=(hr 0 _ rfl).frz1 d.frz (zzW d);refine⟨fun b=>Os 0 b/\¬O1 b,fun b hb=>hOs 0 b hb.1,?_⟩;refine .agg _ cs (fun i b=>if i=0 then O1 b else Os i b) _ (by simpa [V.sizes,V.size]using hn) (fun i b hb=>?_) (fun i j b hij hi hj=>?_) (fun i x hx=>?_)
   ·split at hb
    ·exact⟨hOs 0 b (h1 b hb),fun h=>h.2 hb⟩
    ·rename_i hi0;exact⟨hOs i b hb,fun h=>hdis 0 i b (Ne.symm hi0) h.1 hb⟩
   ·split at hi
    ·rename_i hi0;split at hj
     ·rename_i hj0;exact hij (by rw[hi0,hj0])
     ·rename_i hj0;exact hdis 0 j b (Ne.symm hj0) (h1 b hi) hj
    ·rename_i hi0;split at hj
     ·exact hdis i 0 b hi0 hi (h1 b hj)
     ·exact hdis i j b hij hi hj
   ·cases i with
    |zero=>
     simp only[qa,za]at hx;subst hx;exact h2.mono (fun b h=>h) (fun b h=>by simpa using h)
    |succ i=>
     have h3:=hr (i+1) x (by simpa using hx);have e1:V.offs (.slc true e d.frz (V.frzs es)::l) (i+1)=V.offs (.slc true e d es::l) (i+1):=(by simp[V.offs,V.sizes,V.size]);rw[e1];exact h3.mono (fun b h=>.inl h) (fun b h=>by simpa using h)
 ·exact⟨fun _=>False,fun _ h=>h.elim,h.mono (fun b h=>.inl h) (fun b h=>⟨h,fun h=>h⟩)⟩
theorem zzU{v:Value}(h:x.reg cs v):(gT x).reg cs v:=by
 unfold gT;split
 ·exact h
 ·exact zzV h
theorem Rep.gT(h:Rep cz w F x cs O):∃N:Nat->Prop,(∀b,N b->O b)/\Rep cz w (fun b=>F b\/N b) (gT x) cs (fun b=>O b/\¬N b):=by
 unfold Go.Ax.gT;split
 ·rename_i y l
  cases h with
  |tup fs vs cs Os O hn hOs hdis hv hr=>
   obtain⟨N,h1,h2⟩:=(hr 0 _ rfl).gP;refine⟨N,fun b hb=>hOs 0 b (h1 b hb),?_⟩;refine .tup _ vs cs (fun i b=>Os i b/\¬N b) _ (by simpa using hn) (fun i b hb=>⟨hOs i b hb.1,hb.2⟩) (fun i j b hij hi hj=>hdis i j b hij hi.1 hj.1) (fun i x hx=>?_) (fun i x hx=>?_)
   ·cases i with
    |zero=>
     simp only[qa,za]at hx;subst hx;exact zzV (hv 0 _ rfl)
    |succ i=>exact hv (i+1) x (by simpa using hx)
   ·cases i with
    |zero=>
     simp only[qa,za]at hx;subst hx;exact h2
    |succ i=>exact(hr (i+1) x (by simpa using hx)).mono (fun b h=>.inl h) (fun b h=>⟨h,fun hN=>hdis 0 (i+1) b (by omega) (h1 b hN) h⟩)
 ·exact h.gP
end
def zsB(T:kH)(L:Alg)(res:List ResultVar)(r:V):Yw:=fun e S=>match e with
 | .ret=>match YU L T res S with
   |some (ps,l)=>ZW ps (gTL L (Jg l)=r)
   |none=>False
 | .normal=>match YU L T res S with
   |some (ps,l)=>ZW ps (gTL L (Jg l)=r)
   |none=>False
 |_=>False
theorem zCb{P:Program}{T:kH}{B:kn}{Bi:qV}{k:FuncId}{fn:Func}{body:Code}{args:List V}{r:V}{n:Nat}(ks:List Nat)(hf:P.funcs[k]? =some fn)(hb:fn.body=some body)(hn:fn.ntmps=n)(hname:(fn.name== "runtime.NumGoroutine")=false)
 (hl:args.length<=n) (hm:P.follows .mixedOrders=true) (hT:TabOk P T) (hB:Yd P B) (hBi:uQ P Bi) (hck:kv T ks 0 false body=true)
 (h:∀(L:Alg) (lp:YQ) (rr:V),L=yz T->rr=r->Qu (kJ 0 args)->QV L T B Bi n ks lp->Zq L T lp B Bi n ks body (zsB T L fn.results.toList rr) (kJ 0 args)):zeH P k args r:=by
 obtain⟨h1,h2⟩:=znJ (R:=fun c=>gT c=r) (Qr:=zsB T (yz T) fn.results.toList r) ks hf hb hn hname hl hm hT hB hBi hck (fun e S hq=>by
  cases e with
  |normal=>simp only[zsB,zmd]at hq;exact⟨.inl rfl,hq⟩
  |ret=>simp only[zsB,zmd]at hq;exact⟨.inr rfl,hq⟩
  |_=>exact hq.elim) (fun lp h1 h2=>h (yz T) lp r rfl rfl h1 h2)
 refine⟨h1,fun ym w F hsz hv hF hG=>?_⟩;refine Calls.mono (h2 ym w F hsz hv hF hG) (fun e w' hq=>?_);obtain⟨c,rfl,v,cs,On,Fr,e1,e2,e3,e4,e5,e6⟩:=hq;obtain⟨N,n1,n2⟩:=e3.gT;refine⟨v,cs,fun b=>On b/\¬N b,fun b=>Fr b\/N b,e1,zzU e2,n2.mono (fun b hb=>?_) (fun _ h=>h),fun b hb=>e4 b ?_,fun b hb h=>?_,e6⟩
 ·rcases hb with(hb|hb)|hb
  ·exact .inl hb
  ·exact .inr (.inl hb)
  ·exact .inr (.inr hb)
 ·rcases hb with hb|hb|hb
  ·exact .inl hb.1
  ·exact .inr hb
  ·exact .inl (n1 b hb)
 ·rcases h with h|h
  ·exact e5 b hb.1 h
  ·exact hb.2 h
def zrN(L:Alg)(T:kH)(res:List ResultVar)(j:Nat)(r y:V):Yw:=fun e S=>match e with
 | .ret=>match YU L T (res++[.tmp j]) S with
   |some (ps,l)=>ZW ps (gTL L (Jg (Kh l))=r/\zaD l=y)
   |none=>False
 | .normal=>match YU L T (res++[.tmp j]) S with
   |some (ps,l)=>ZW ps (gTL L (Jg (Kh l))=r/\zaD l=y)
   |none=>False
 |_=>False
theorem zD9{P:Program}{T:kH}{B:kn}{Bi:qV}{k:FuncId}{fn:Func}{body:Code}{args:List V}{r y c:V}{ty:TypeId}{n:Nat}(j:Nat)(ks:List Nat)(hf:P.funcs[k]? =some fn)(hb:fn.body=some body)(hn:fn.ntmps=n)(hname:(fn.name== "runtime.NumGoroutine")=false)
 (hl:args.length<=n) (hm:P.follows .mixedOrders=true) (hT:TabOk P T) (hB:Yd P B) (hBi:uQ P Bi) (hck:kv T ks (j+1) false body=true) (hj:args[j]? =some (.box ty c)) (hco:c.owned=false) (hsh:Sh (.box ty c) y)
 (h9:Nat.blt j 1000=true)
 (h:∀(L:Alg) (lp:YQ) (rr yy:V),L=yz T->rr=r->yy=y->Qu (kJ 0 args)->QV L T B Bi n ks lp->Zq L T lp B Bi n ks body (zrN L T fn.results.toList j rr yy) (kJ 0 args)):zhc P k (1000+j) args r y:=by
 obtain⟨h1,h2,h3⟩:=znK (R:=fun c=>gT c=r) (Qr:=zrN (yz T) T fn.results.toList j r y) j ks hf hb hn hname hl hm hT hB hBi hck hj hco hsh h9 (fun e S hq=>by
  cases e with
  |normal=>simp only[zrN,zmd]at hq;exact⟨.inl rfl,hq⟩
  |ret=>simp only[zrN,zmd]at hq;exact⟨.inr rfl,hq⟩
  |_=>exact hq.elim) (fun lp h1 h2=>h (yz T) lp r y rfl rfl rfl h1 h2)
 obtain⟨x,x1,x2,x3⟩:=h2;have h9':j<1000:=by simpa [zkr]using h9
 unfold zhc;rw[show(1000+j)%1000=j by omega];refine⟨h1,⟨x,x1,x2,fun _=>x3⟩,fun ym w F Oj css a1 a2 a3 a4 a5=>Calls.mono (h3 ym w F Oj css a1 a2 a3 a4 a5) (fun e w' hq=>?_)⟩;obtain⟨c,rfl,v,cs,On,Fr,Xn,e1,e2,e3,e4,e5,e6⟩:=hq;obtain⟨N,n1,n2⟩:=e3.gT;refine⟨v,cs,fun b=>On b/\¬N b,fun b=>Fr b\/N b,Xn,e1,zzU e2,n2.mono (fun b hb=>?_) (fun _ h=>h),e4,e5.mono (fun b hb=>hb.imp id .inl) (fun _ h=>h),⟨e6.size,e6.os,e6.tape,e6.output,e6.same,fun b hb=>e6.new b ?_,e6.xn,fun b hb h=>?_,fun b hb=>⟨fun h=>(e6.d2 b hb).1 h.1,fun h=>h.elim (e6.d2 b hb).2 (fun h=>(e6.d2 b hb).1 (n1 b h))⟩,e6.hdr⟩⟩
 ·rcases hb with(hb|hb)|hb
  ·exact .inl hb
  ·exact .inr (.inl hb)
  ·exact .inr (.inr hb)
 ·rcases hb with hb|hb|hb
  ·exact .inl hb.1
  ·exact .inr hb
  ·exact .inl (n1 b hb)
 ·rcases h with h|h
  ·exact e6.d1 b hb.1 h
  ·exact hb.2 h
theorem zeH.frz{P:Program}{k:FuncId}{args:List V}{r:V}(h:zeH P k args r):zeH P k args r.frz:=by
 refine⟨h.1,fun ym w F h1 h2 h3 h4 cs=>?_⟩;obtain⟨e,w',fr,⟨v,cs',On,Fr,k1,k2,k3,k4,k5,k6⟩,r2⟩:=h.2 ym w F h1 h2 h3 h4 cs;refine⟨e,w',fr,⟨v,cs',fun _=>False,fun b=>On b\/Fr b,k1,V.frz_reg k2,k3.frz.mono (fun b hb=>?_) (fun _ h=>h),fun b hb=>k4 b (hb.resolve_left id),fun _ h=>h.elim,k6⟩,r2⟩;rcases hb with(h|h)|h
 ·exact .inl h
 ·exact .inr (.inr h)
 ·exact .inr (.inl h)
def wJ0(s:Nat)(x0:Int):Nat×Option Bool×A:=(s,none,.val (.int .i64 x0))
def wJ1(s:Nat)(x0:List V)(x1:List V)(x2:List V):Nat×Option Bool×A:=(s,none,.val (.box 26 (.agg [.slc false 2 (.int .i64 0) x0,.slc false 2 (.int .i64 0) x1,.slc false 2 (.int .i64 0) x2])))
def wJ2(s:Nat)(x0:List V):Nat×Option Bool×A:=(s,none,.val (.slc true 2 (.int .i64 0) x0))
def wJ3(s:Nat)(x0:List V):Nat×Option Bool×A:=(s,none,.val (.slc false 2 (.int .i64 0) x0))
def wJ4(s:Nat):Nat×Option Bool×A:=(s,none,.val (.box 26 (.agg [.slc true 2 (.int .i64 0) [],.slc true 2 (.int .i64 0) [],.slc true 2 (.int .i64 0) []])))
def wJ5(s:Nat)(x0:List V)(x1:Int)(x2:Int):Nat×Option Bool×A:=(s,none,.val (.box 91 (.agg [.slc false 5 (.int .u8 0) x0,.int .i64 x1,.int .u64 x2])))
def wJ6(s:Nat)(x0:List V)(x1:List V)(x2:List V):Nat×Option Bool×A:=(s,none,.val (.box 26 (.agg [.slc true 2 (.int .i64 0) x0,.slc true 2 (.int .i64 0) x1,.slc true 2 (.int .i64 0) x2])))
def wJ7(s:Nat):Nat×Option Bool×A:=(s,none,.val (.box 49 (.agg [.slc true 2 (.int .i64 0) []])))
def wJ8(s:Nat)(x0:List V):Nat×Option Bool×A:=(s,none,.val (.box 49 (.agg [.slc false 2 (.int .i64 0) x0])))
def wJ9(s:Nat)(x0:List V):Nat×Option Bool×A:=(s,none,.val (.box 49 (.agg [.slc true 2 (.int .i64 0) x0])))
def wJ10(s:Nat)(x0:List V):Nat×Option Bool×A:=(s,none,.val (.slc false 49 (.agg [.slc false 2 (.int .i64 0) []]) x0))
def wJ11(s:Nat)(x0:List V):Nat×Option Bool×A:=(s,none,.val (.slc false 5 (.int .u8 0) x0))
theorem qEx.{u}{α:Sort u}(a:α):∃z,z=a:=⟨a,rfl⟩
theorem qEI(a:Int):∃z,z=a:=⟨a,rfl⟩
end Go.Ax
