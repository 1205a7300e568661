/-
  AX, AxP4: parts ZB to ZH of the abstract executor: values, environments, steps, regions, loops, functions. No conditions.
-/
import Derived.Test.YtnhfpgcicpfohaaDoorAxP3p1
import Derived.LoopN
import Derived.ProofKit
set_option linter.all false
namespace Go.Ax
section
variable {C:Ctx} {T:Tab} {S:Sta} {σ:Env} {B:Book}
theorem mem_ins {d:Nat} {e:Option Bool×A}:∀{S:Sta} {x:Nat×Option Bool×A},x∈ins d e S↔x=(d,e)∨x∈S
 |[],x=>by simp [ins]
 |(k,e')::l,x=>by
  simp only [ins]
  split
  ·simp only [List.mem_cons,mem_ins (S:=l)]
   constructor
   ·rintro (h|h|h)
    ·exact .inr (.inl h)
    ·exact .inl h
    ·exact .inr (.inr h)
   ·rintro (h|h|h)
    ·exact .inr (.inl h)
    ·exact .inl h
    ·exact .inr (.inr h)
  ·simp
theorem mem_del {d:Nat}:∀{S:Sta} {x:Nat×Option Bool×A},x∈del d S↔x∈S∧x.1≠d∧x.2.2.at0 d=false
 |[],x=>by simp [del]
 |(k,g,a)::l,x=>by
  simp only [del]
  split
  ·rename_i hk
   have:=nbeq_eq hk
   subst this
   rw [mem_del (S:=l)]
   constructor
   ·exact fun h=>⟨List.mem_cons_of_mem _ h.1,h.2⟩
   ·rintro ⟨h1,h2⟩
    rcases List.mem_cons.1 h1 with rfl|h1
    ·exact absurd rfl h2.1
    ·exact ⟨h1,h2⟩
  ·rename_i hk
   have hne:k≠d:=fun e=>by subst e;rw [nbeq_refl] at hk;cases hk
   split
   ·rename_i ha
    rw [mem_del (S:=l)]
    constructor
    ·exact fun h=>⟨List.mem_cons_of_mem _ h.1,h.2⟩
    ·rintro ⟨h1,h2⟩
     rcases List.mem_cons.1 h1 with rfl|h1
     ·have h3:a.at0 d=false:=h2.2
      rw [ha] at h3;cases h3
     ·exact ⟨h1,h2⟩
   ·rename_i ha
    rw [List.mem_cons,mem_del (S:=l),List.mem_cons]
    constructor
    ·rintro (rfl|h)
     ·exact ⟨.inl rfl,hne,ha⟩
     ·exact ⟨.inr h.1,h.2⟩
    ·rintro ⟨h1,h2⟩
     rcases h1 with h1|h1
     ·exact .inl h1
     ·exact .inr ⟨h1,h2⟩
theorem mem_del' {d:Nat}:∀{S:Sta} {x:Nat×Option Bool×A},x∈del' d S↔x∈S∧x.2.2.at0 d=false
 |[],x=>by simp [del']
 |(k,g,a)::l,x=>by
  simp only [del']
  split
  ·rename_i ha
   rw [mem_del' (S:=l)]
   constructor
   ·exact fun h=>⟨List.mem_cons_of_mem _ h.1,h.2⟩
   ·rintro ⟨h1,h2⟩
    rcases List.mem_cons.1 h1 with rfl|h1
    ·have h3:a.at0 d=false:=h2
     rw [ha] at h3;cases h3
    ·exact ⟨h1,h2⟩
  ·rename_i ha
   rw [List.mem_cons,mem_del' (S:=l),List.mem_cons]
   constructor
   ·rintro (rfl|h)
    ·exact ⟨.inl rfl,ha⟩
    ·exact ⟨.inr h.1,h.2⟩
   ·rintro ⟨h1,h2⟩
    rcases h1 with h1|h1
    ·exact .inl h1
    ·exact .inr ⟨h1,h2⟩
theorem mem_mod {d:Nat} {v:V}:∀{S:Sta} {x:Nat×Option Bool×A},x∈modS S d v↔(x∈S∧x.1≠d)∨(x.1=d∧x.2.2= .val v∧∃a,(d,x.2.1,a)∈S)
 |[],x=>by simp [modS]
 |(k,g,a)::l,x=>by
  simp only [modS]
  split
  ·rename_i hk
   have:=nbeq_eq hk
   subst this
   rw [List.mem_cons,mem_mod (S:=l)]
   constructor
   ·rintro (rfl|h|h)
    ·exact .inr ⟨rfl,rfl,a,by simp⟩
    ·exact .inl ⟨List.mem_cons_of_mem _ h.1,h.2⟩
    ·obtain ⟨h1,h2,a',h3⟩:=h
     exact .inr ⟨h1,h2,a',List.mem_cons_of_mem _ h3⟩
   ·rintro (h|h)
    ·rcases List.mem_cons.1 h.1 with h1|h1
     ·exact absurd (by rw [h1]) h.2
     ·exact .inr (.inl ⟨h1,h.2⟩)
    ·obtain ⟨h1,h2,a',h3⟩:=h
     rcases List.mem_cons.1 h3 with h4|h4
     ·left
      obtain ⟨x1,x2,x3⟩:=x
      simp only [Prod.mk.injEq] at h4 h1 h2 ⊢
      exact ⟨h1,h4.2.1,h2⟩
     ·exact .inr (.inr ⟨h1,h2,a',h4⟩)
  ·rename_i hk
   have hne:k≠d:=fun e=>by subst e;rw [nbeq_refl] at hk;cases hk
   rw [List.mem_cons,mem_mod (S:=l)]
   constructor
   ·rintro (rfl|h|h)
    ·exact .inl ⟨by simp,hne⟩
    ·exact .inl ⟨List.mem_cons_of_mem _ h.1,h.2⟩
    ·obtain ⟨h1,h2,a',h3⟩:=h
     exact .inr ⟨h1,h2,a',List.mem_cons_of_mem _ h3⟩
   ·rintro (h|h)
    ·rcases List.mem_cons.1 h.1 with h1|h1
     ·exact .inl h1
     ·exact .inr (.inl ⟨h1,h.2⟩)
    ·obtain ⟨h1,h2,a',h3⟩:=h
     rcases List.mem_cons.1 h3 with h4|h4
     ·simp only [Prod.mk.injEq] at h4
      exact absurd h4.1.symm hne
     ·exact .inr (.inr ⟨h1,h2,a',h4⟩)
theorem mem_keep {ks:List Nat}:∀{S:Sta} {x:Nat×Option Bool×A},x∈keepS ks S↔x∈S∧memN ks x.1=true∧x.2.2.in0 ks=true
 |[],x=>by simp [keepS]
 |(k,g,a)::l,x=>by
  simp only [keepS]
  split
  ·rename_i hk
   split
   ·rename_i ha
    rw [List.mem_cons,mem_keep (S:=l),List.mem_cons]
    constructor
    ·rintro (rfl|h)
     ·exact ⟨.inl rfl,hk,ha⟩
     ·exact ⟨.inr h.1,h.2⟩
    ·rintro ⟨h1,h2⟩
     rcases h1 with h1|h1
     ·exact .inl h1
     ·exact .inr ⟨h1,h2⟩
   ·rename_i ha
    rw [mem_keep (S:=l)]
    constructor
    ·exact fun h=>⟨List.mem_cons_of_mem _ h.1,h.2⟩
    ·rintro ⟨h1,h2⟩
     rcases List.mem_cons.1 h1 with rfl|h1
     ·have h3:a.in0 ks=true:=h2.2
      rw [ha] at h3;cases h3
     ·exact ⟨h1,h2⟩
  ·rename_i hk
   rw [mem_keep (S:=l)]
   constructor
   ·exact fun h=>⟨List.mem_cons_of_mem _ h.1,h.2⟩
   ·rintro ⟨h1,h2⟩
    rcases List.mem_cons.1 h1 with rfl|h1
    ·have h3:memN ks k=true:=h2.1
     rw [hk] at h3;cases h3
    ·exact ⟨h1,h2⟩
theorem vz_congr {σ σ':Env} {a:A} (h:∀s,a.at0 s=true→(σ' s).ver=(σ s).ver):vz σ' a=vz σ a:=by
 cases a with
 |rf s v p=>simp only [vz];rw [h s (by simp [A.at0])]
 |ad s v p=>simp only [vz];rw [h s (by simp [A.at0])]
 |ag s v p fs=>simp only [vz];rw [h s (by simp [A.at0])]
 |_=>rfl
theorem at0_eq {a:A} {s d:Nat} (h:a.at0 s=true) (h':a.at0 d=false):s≠d:=by
 rintro rfl
 rw [h] at h';cases h'
theorem Agr.ref_off (hA:Agr S σ) {t d:Nat} {g:Option Bool} {a:A} (h:(t,g,a)∈S) (ha:a.at0 d=true):(σ t).owner=false:=by
 obtain ⟨e1,_,e3⟩:=hA.on t g a h
 unfold E.owner
 rw [e1]
 cases hg:gb g with
 |false=>rfl
 |true=>
  rw [e3 hg]
  cases a<;>first|rfl|(simp [A.at0] at ha)
theorem Agr.put (hA:Agr S σ) {d:Nat} {g:Option Bool} {a:A} (hd:a.at0 d=false) {a':A} (ha:gb g=true→a'=vz σ a):Agr (putS S d g a) (σ.put d (gb g) a'):=by
 have hv:∀(b:A),b.at0 d=false→vz (σ.put d (gb g) a') b=vz σ b:=fun b hb=>vz_congr (fun s hs=>by simp [Env.put,at0_eq hs hb])
 refine ⟨fun t g' b h=> ?_,fun t h=> ?_⟩
 ·rcases mem_ins.1 h with h|h
  ·simp only [Prod.mk.injEq] at h
   obtain ⟨rfl,rfl,rfl⟩:=h
   rw [hv _ hd]
   simp only [Env.put,if_true]
   exact ⟨trivial,trivial,ha⟩
  ·obtain ⟨h1,h2,h3⟩:=mem_del.1 h
   have h2':t≠d:=h2
   rw [hv _ h3]
   simp only [Env.put,if_neg h2']
   exact hA.on t g' b h1
 ·have hne:t≠d:=fun e=>h (g,a) (mem_ins.2 (.inl (by rw [e])))
  simp only [Env.put,if_neg hne]
  by_cases hx:∃e,(t,e)∈S
  ·obtain ⟨⟨g',b⟩,hx⟩:=hx
   by_cases hb:b.at0 d=true
   ·exact hA.ref_off hx hb
   ·exact absurd (mem_ins.2 (.inr (mem_del.2 ⟨hx,hne,by simpa using hb⟩))) (h (g',b))
  ·exact hA.off t (fun e he=>hx ⟨e,he⟩)
theorem Agr.drp (hA:Agr S σ) {d:Nat}:Agr (del d S) (σ.drp d):=by
 refine ⟨fun t g' b h=> ?_,fun t h=> ?_⟩
 ·obtain ⟨h1,h2,h3⟩:=mem_del.1 h
  have h2':t≠d:=h2
  rw [vz_congr (σ:=σ) (fun s hs=>by simp [Env.drp,at0_eq hs h3])]
  simp only [Env.drp,if_neg h2']
  exact hA.on t g' b h1
 ·by_cases hne:t=d
  ·subst hne;simp [Env.drp,E.owner]
  ·simp only [Env.drp,if_neg hne]
   by_cases hx:∃e,(t,e)∈S
   ·obtain ⟨⟨g',b⟩,hx⟩:=hx
    by_cases hb:b.at0 d=true
    ·exact hA.ref_off hx hb
    ·exact absurd (mem_del.2 ⟨hx,hne,by simpa using hb⟩) (h (g',b))
   ·exact hA.off t (fun e he=>hx ⟨e,he⟩)
theorem Agr.mod (hA:Agr S σ) {d:Nat} {r x:V} (ho:ownS S d=some r):Agr (modS S d x) (σ.mod d x):=by
 have hv:∀b:A,vz (σ.mod d x) b=vz σ b:=fun b=>vz_congr (fun s _=>by simp only [Env.mod];split<;>simp_all)
 refine ⟨fun t g' b h=> ?_,fun t h=> ?_⟩
 ·rw [hv]
  rcases mem_mod.1 h with ⟨h1,h2⟩|⟨h1,h2,a',h3⟩
  ·have h2':t≠d:=h2
   simp only [Env.mod,if_neg h2']
   exact hA.on t g' b h1
  ·have h1':t=d:=h1
   have h2':b= .val x:=h2
   subst h1';subst h2'
   obtain ⟨e1,e2,_⟩:=hA.on _ _ _ h3
   simp only [Env.mod,if_true]
   exact ⟨e1,e2,fun _=>rfl⟩
 ·have hne:t≠d:=by
   rintro rfl
   unfold ownS at ho
   split at ho
   ·rename_i hl
    exact h (none,.val x) (mem_mod.2 (.inr ⟨rfl,rfl,_,look_mem hl⟩))
   ·cases ho
  simp only [Env.mod,if_neg hne]
  exact hA.off t (fun e he=>h e (mem_mod.2 (.inl ⟨he,hne⟩)))
theorem pfxN_S:∀{q p:List Nat},pfxN q p=true→pfxS q p=true
 |[],_::_,_=>rfl
 |i::q,j::p,h=>by
  simp only [pfxN] at h
  split at h
  ·rename_i e
   simp only [pfxS,Bool.and_eq_true,decide_eq_true_eq]
   exact ⟨nbeq_eq e,pfxN_S h⟩
  ·cases h
 |[],[],h=>by cases h
 |_::_,[],h=>by cases h
theorem mem_delK {d:Nat} {p:List Nat}:∀{S:Sta} {x:Nat×Option Bool×A},x∈delK d p S→x∈S∧(x.2.2.at0 d=false∨∃v q,x.2.2= .rf d v q∧pfxS q p=true)
 |[],x,h=>by simp [delK] at h
 |(k,g,a)::l,x,h=>by
  simp only [delK] at h
  have up:x∈delK d p l→x∈(k,g,a)::l∧(x.2.2.at0 d=false∨∃v q,x.2.2= .rf d v q∧pfxS q p=true):=fun h=>by
   obtain ⟨h1,h2⟩:=mem_delK h
   exact ⟨List.mem_cons_of_mem _ h1,h2⟩
  split at h
  ·rename_i ha
   split at h
   ·rename_i s v q
    split at h
    ·rename_i hq
     rcases List.mem_cons.1 h with rfl|h
     ·refine ⟨List.mem_cons_self ..,.inr ⟨v,q,?_,pfxN_S hq⟩⟩
      simp only [A.at0] at ha
      rw [nbeq_eq ha]
     ·exact up h
    ·exact up h
   ·exact up h
  ·rename_i ha
   rcases List.mem_cons.1 h with rfl|h
   ·exact ⟨List.mem_cons_self ..,.inl ha⟩
   ·exact up h
theorem mem_delK_of {d:Nat} {p:List Nat}:∀{S:Sta} {x:Nat×Option Bool×A},x∈S→x.2.2.at0 d=false→x∈delK d p S
 |[],x,h,_=>by cases h
 |(k,g,a)::l,x,h,hx=>by
  simp only [delK]
  rcases List.mem_cons.1 h with rfl|h
  ·have ha:a.at0 d=false:=hx
   rw [ha]
   exact List.mem_cons_self ..
  ·have ih:=mem_delK_of (p:=p) h hx
   split
   ·split
    ·split
     ·exact List.mem_cons_of_mem _ ih
     ·exact ih
    ·exact ih
   ·exact List.mem_cons_of_mem _ ih
theorem vz_keep {a:A} {d v:Nat} {p:List Nat} (h:a.at0 d=false):(vz σ a).keep d v p=vz σ a:=by
 cases a with
 |rf s v' q=>
  simp only [vz,A.keep]
  rw [if_neg]
  rintro ⟨rfl,_⟩
  simp [A.at0] at h
 |_=>rfl
theorem Agr.bmk (hA:Agr S σ) {d:Nat} {p:List Nat} {r x:V} (ho:ownS S d=some r):Agr (modS (delK d p S) d x) (σ.bmk d x p):=by
 obtain ⟨gd,hl⟩:∃r',look S d=some (none,.val r'):=by
  unfold ownS at ho
  split at ho
  ·rename_i hl;exact ⟨_,hl⟩
  ·cases ho
 refine ⟨fun t g' b h=> ?_,fun t h=> ?_⟩
 ·rcases mem_mod.1 h with ⟨h1,h2⟩|⟨h1,h2,a',h3⟩
  ·have h2':t≠d:=h2
   obtain ⟨h3,h4⟩:=mem_delK h1
   obtain ⟨k1,k2,k3⟩:=hA.on t g' b h3
   simp only [Env.bmk,if_neg h2']
   refine ⟨k1,k2,fun hg=> ?_⟩
   rw [k3 hg]
   rcases h4 with h4|⟨v,q,h4,hq⟩
   ·have h4':b.at0 d=false:=h4
    rw [vz_keep h4']
    exact (vz_congr (fun s hs=>by simp [Env.bmk,at0_eq hs h4'])).symm
   ·have h4':b= .rf d v q:=h4
    subst h4'
    simp only [vz,A.keep]
    rw [if_pos ⟨trivial,trivial,hq⟩]
    simp [Env.bmk,Env.bmp]
  ·have h1':t=d:=h1
   have h2':b= .val x:=h2
   subst h1';subst h2'
   obtain ⟨e1,e2,_⟩:=hA.on _ _ _ (mem_delK h3).1
   simp only [Env.bmk,Env.bmp,if_true]
   exact ⟨e1,e2,fun _=>rfl⟩
 ·have hne:t≠d:=by
   rintro rfl
   exact h (none,.val x) (mem_mod.2 (.inr ⟨rfl,rfl,_,mem_delK_of (look_mem hl) rfl⟩))
  have hoff:(σ t).owner=false:=by
   by_cases hx:∃e,(t,e)∈S
   ·obtain ⟨⟨g',b⟩,hx⟩:=hx
    by_cases hb:b.at0 d=true
    ·exact hA.ref_off hx hb
    ·exact absurd (mem_mod.2 (.inl ⟨mem_delK_of hx (by simpa using hb),hne⟩)) (h (g',b))
   ·exact hA.off t (fun e he=>hx ⟨e,he⟩)
  simp only [Env.bmk,if_neg hne]
  unfold E.owner at hoff ⊢
  simp only at hoff ⊢
  cases hA':(σ t).a with
  |rf s v q=>
   by_cases hc:s=d∧v=(σ d).ver∧pfxS q p=true
   ·rw [A.keep,if_pos hc];simp
   ·rw [A.keep,if_neg hc];simp
  |_=>simp_all [A.keep]
theorem Agr.bmp (hA:Agr S σ) {d:Nat} {r x:V} (ho:ownS S d=some r):Agr (modS (del' d S) d x) (σ.bmp d x):=by
 obtain ⟨gd,hl⟩:∃r',look S d=some (none,.val r'):=by
  unfold ownS at ho
  split at ho
  ·rename_i hl;exact ⟨_,hl⟩
  ·cases ho
 refine ⟨fun t g' b h=> ?_,fun t h=> ?_⟩
 ·rcases mem_mod.1 h with ⟨h1,h2⟩|⟨h1,h2,a',h3⟩
  ·have h2':t≠d:=h2
   obtain ⟨h3,h4⟩:=mem_del'.1 h1
   rw [vz_congr (σ:=σ) (fun s hs=>by simp [Env.bmp,at0_eq hs h4])]
   simp only [Env.bmp,if_neg h2']
   exact hA.on t g' b h3
  ·have h1':t=d:=h1
   have h2':b= .val x:=h2
   subst h1';subst h2'
   obtain ⟨e1,e2,_⟩:=hA.on _ _ _ (mem_del'.1 h3).1
   simp only [Env.bmp,if_true]
   exact ⟨e1,e2,fun _=>rfl⟩
 ·have hne:t≠d:=by
   rintro rfl
   exact h (none,.val x) (mem_mod.2 (.inr ⟨rfl,rfl,_,mem_del'.2 ⟨look_mem hl,rfl⟩⟩))
  simp only [Env.bmp,if_neg hne]
  by_cases hx:∃e,(t,e)∈S
  ·obtain ⟨⟨g',b⟩,hx⟩:=hx
   by_cases hb:b.at0 d=true
   ·exact hA.ref_off hx hb
   ·exact absurd (mem_mod.2 (.inl ⟨mem_del'.2 ⟨hx,by simpa using hb⟩,hne⟩)) (h (g',b))
  ·exact hA.off t (fun e he=>hx ⟨e,he⟩)
theorem takeF0_sound {s ver:Nat} {p:List Nat}:∀(fs:List V) (i:Nat) (S:Sta) (σ:Env) (ps:List Prop) (ys:List V) (S1:Sta),Agr S σ→(σ s).ver=ver→takeF0 (std T) T s p fs i S=some (ps,ys,S1)→Alls ps→
 ∃q σ1,takePs s ver fs p i σ=some (q,ys,σ1)∧q∧Agr S1 σ1∧(σ1 s).ver=ver
 |[],i,S,σ,ps,ys,S1,hA,hv,h,_=>by
  simp only [takeF0,Option.some.injEq,Prod.mk.injEq] at h
  obtain ⟨_,rfl,rfl⟩:=h
  exact ⟨True,σ,rfl,trivial,hA,hv⟩
 |f::fs,i,S,σ,ps,ys,S1,hA,hv,h,hp=>by
  simp only [takeF0] at h
  split at h
  ·rename_i hlf
   split at h
   ·rename_i hfo
    split at h
    ·rename_i r hr
     split at h
     ·rename_i y qs hy
      split at h
      ·rename_i hH
       split at h
       ·rename_i r' hu
        split at h
        ·rename_i rs zs S' hz
         simp only [Option.some.injEq,Prod.mk.injEq] at h
         obtain ⟨rfl,rfl,rfl⟩:=h
         rw [alls_append] at hp
         obtain ⟨a1,a2⟩:=atR_sound hy hp.1
         rcases a2 with a2|⟨a2,a3,a4,a5⟩
         ·simp at a2
         have hu':=updS_sound _ _ _ _ _ _ a5 hp.1 hu
         subst hu'
         have ho:=ownS_sound hA hr
         rw [hv] at ho
         have a6:(r.at (p++[i])).isH=true:=by rw [a1];exact hH
         obtain ⟨q,σ1,t1,t2,t3,t4⟩:=takeF0_sound (ver:=ver) fs (i+1) _ (σ.mod s (r.upd (p++[i]) (.hole 1))) rs zs S' (hA.mod hr) (by simp [Env.mod,hv]) hz hp.2
         have hP:takeP s ver f (p++[i]) σ=some (r.okm (p++[i])∧(r.at (p++[i])).isH=true,y,σ.mod s (r.upd (p++[i]) (.hole 1))):=by
          cases f<;>first|(simp [V.leaf] at hlf;done)|(simp [V.owned] at hfo;done)|(simp only [V.owned] at hfo;subst hfo;simp only [takeP,ho,a1])|simp only [takeP,ho,a1]
         exact ⟨(r.okm (p++[i])∧(r.at (p++[i])).isH=true)∧q,σ1,by simp only [takePs,hP,t1],⟨⟨a2,a6⟩,t2⟩,t3,t4⟩
        ·cases h
       ·cases h
      ·cases h
     ·cases h
    ·cases h
   ·rename_i hfo
    split at h
    ·rename_i rs zs S' hz
     simp only [Option.some.injEq,Prod.mk.injEq] at h
     obtain ⟨rfl,rfl,rfl⟩:=h
     obtain ⟨q,σ1,t1,t2,t3,t4⟩:=takeF0_sound (ver:=ver) fs (i+1) S σ rs zs S' hA hv hz hp
     have hP:takeP s ver f (p++[i]) σ=some (True,f,σ):=by
      cases f<;>first|(simp [V.leaf] at hlf;done)|(simp [V.owned] at hfo;done)|(simp only [V.owned] at hfo;subst hfo;simp [takeP,V.owned])|simp [takeP,V.owned]
     exact ⟨True∧q,σ1,by simp only [takePs,hP,t1],⟨trivial,t2⟩,t3,t4⟩
    ·cases h
  ·cases h
theorem takeFS_sound {s ver:Nat} {p:List Nat}:∀(fs:List V) (i:Nat) (S:Sta) (σ:Env) (ps:List Prop) (ys:List V) (S1:Sta),Agr S σ→(σ s).ver=ver→takeFS (std T) T s p fs i S=some (ps,ys,S1)→Alls ps→
 ∃q σ1,takePs s ver fs p i σ=some (q,ys,σ1)∧q∧Agr S1 σ1
 |[],i,S,σ,ps,ys,S1,hA,_,h,_=>by
  simp only [takeFS,Option.some.injEq,Prod.mk.injEq] at h
  obtain ⟨_,rfl,rfl⟩:=h
  exact ⟨True,σ,rfl,trivial,hA⟩
 |f::fs,i,S,σ,ps,ys,S1,hA,hv,h,hp=>by
  simp only [takeFS] at h
  split at h
  ·rename_i hlf
   split at h
   ·rename_i hfo
    split at h
    ·rename_i r hr
     split at h
     ·rename_i y qs hy
      split at h
      ·rename_i hH
       split at h
       ·rename_i r' hu
        split at h
        ·rename_i rs zs S' hz
         simp only [Option.some.injEq,Prod.mk.injEq] at h
         obtain ⟨rfl,rfl,rfl⟩:=h
         rw [alls_append] at hp
         obtain ⟨a1,a2⟩:=atR_sound hy hp.1
         rcases a2 with a2|⟨a2,a3,a4,a5⟩
         ·simp at a2
         have hu':=updS_sound _ _ _ _ _ _ a5 hp.1 hu
         subst hu'
         have ho:=ownS_sound hA hr
         rw [hv] at ho
         have a6:(r.at (p++[i])).isH=true:=by rw [a1];exact hH
         obtain ⟨q,σ1,t1,t2,t3⟩:=takeFS_sound (ver:=ver) fs (i+1) _ (σ.mod s (r.upd (p++[i]) (.hole 1))) rs zs S' (hA.mod hr) (by simp [Env.mod,hv]) hz hp.2
         have hP:takeP s ver f (p++[i]) σ=some (r.okm (p++[i])∧(r.at (p++[i])).isH=true,y,σ.mod s (r.upd (p++[i]) (.hole 1))):=by
          cases f<;>first|(simp [V.leaf] at hlf;done)|(simp [V.owned] at hfo;done)|(simp only [V.owned] at hfo;subst hfo;simp only [takeP,ho,a1])|simp only [takeP,ho,a1]
         exact ⟨(r.okm (p++[i])∧(r.at (p++[i])).isH=true)∧q,σ1,by simp only [takePs,hP,t1],⟨⟨a2,a6⟩,t2⟩,t3⟩
        ·cases h
       ·cases h
      ·cases h
     ·cases h
    ·cases h
   ·rename_i hfo
    split at h
    ·rename_i rs zs S' hz
     simp only [Option.some.injEq,Prod.mk.injEq] at h
     obtain ⟨rfl,rfl,rfl⟩:=h
     obtain ⟨q,σ1,t1,t2,t3⟩:=takeFS_sound (ver:=ver) fs (i+1) S σ rs zs S' hA hv hz hp
     have hP:takeP s ver f (p++[i]) σ=some (True,f,σ):=by
      cases f<;>first|(simp [V.leaf] at hlf;done)|(simp [V.owned] at hfo;done)|(simp only [V.owned] at hfo;subst hfo;simp [takeP,V.owned])|simp [takeP,V.owned]
     exact ⟨True∧q,σ1,by simp only [takePs,hP,t1],⟨trivial,t2⟩,t3⟩
    ·cases h
  ·split at h
   ·rename_i gs _
    split at h
    ·rename_i ps0 zs S0 hz0
     split at h
     ·rename_i rs ys' S' hz
      simp only [Option.some.injEq,Prod.mk.injEq] at h
      obtain ⟨rfl,rfl,rfl⟩:=h
      rw [alls_append] at hp
      obtain ⟨q0,σ0,u1,u2,u3,u4⟩:=takeF0_sound (ver:=ver) gs 0 S σ ps0 zs S0 hA hv hz0 hp.1
      obtain ⟨q,σ1,t1,t2,t3⟩:=takeFS_sound (ver:=ver) fs (i+1) S0 σ0 rs ys' S' u3 u4 hz hp.2
      have hP:takeP s ver (.agg gs) (p++[i]) σ=some (q0,.agg zs,σ0):=by simp only [takeP,u1]
      exact ⟨q0∧q,σ1,by simp only [takePs,hP,t1],⟨u2,t2⟩,t3⟩
     ·cases h
    ·cases h
   ·cases h
theorem takeS_sound (hA:Agr S σ) {a:A} {ps:List Prop} {y:V} {S1:Sta} (h:takeS (std T) T S a=some (ps,y,S1)) (hp:Alls ps):∃q σ1,takeA σ (vz σ a)=some (q,y,σ1)∧q∧Agr S1 σ1:=by
 cases a with
 |val x=>
  simp only [takeS,Option.some.injEq,Prod.mk.injEq] at h
  obtain ⟨_,rfl,rfl⟩:=h
  exact ⟨True,σ,rfl,trivial,hA⟩
 |rf s ver p=>
  simp only [takeS] at h
  split at h
  ·rename_i r hr
   have ho:=ownS_sound hA hr
   split at h
   ·simp only [Option.some.injEq,Prod.mk.injEq] at h
    obtain ⟨_,rfl,rfl⟩:=h
    exact ⟨True,σ.drp s,by simp only [vz,takeA,ho],trivial,hA.drp⟩
   ·rename_i i q
    split at h
    ·rename_i fs
     split at h
     ·split at h
      ·rename_i z hz
       rw [nthV_get] at hz
       have hl:i<fs.length:=(List.getElem?_eq_some_iff.1 hz).1
       simp only [Option.some.injEq,Prod.mk.injEq] at h
       obtain ⟨_,rfl,rfl⟩:=h
       exact ⟨i<fs.length,σ.mod s (.tup (fs.set i (.hole z.size))),by simp only [vz,takeA,ho,getD_of_some hz],hl,hA.mod hr⟩
      ·cases h
     ·cases h
    ·rename_i hn
     split at h
     ·rename_i z qs hz
      split at h
      ·rename_i hH
       split at h
       ·rename_i r' hu
        simp only [Option.some.injEq,Prod.mk.injEq] at h
        obtain ⟨rfl,rfl,rfl⟩:=h
        obtain ⟨e1,e2⟩:=atR_sound hz hp
        rcases e2 with e2|⟨e2,e3,e4,e5⟩
        ·cases e2
        ·have hu':=updS_sound _ _ _ _ _ _ e5 hp hu
         subst hu'
         have e6:(r.at (i::q)).isH=true:=by rw [e1];exact hH
         refine ⟨r.okm (i::q)∧(r.at (i::q)).isH=true,σ.mod s (r.upd (i::q) (.hole 1)),?_,⟨e2,e6⟩,hA.mod hr⟩
         simp only [vz,takeA,ho,e1]
       ·cases h
      ·cases h
     ·cases h
  ·cases h
 |ad=>simp [takeS] at h
 |fz=>simp [takeS] at h
 |ag s ver p fs=>
  simp only [takeS] at h
  split at h
  ·rename_i qs ys S' hz
   simp only [Option.some.injEq,Prod.mk.injEq] at h
   obtain ⟨rfl,rfl,rfl⟩:=h
   obtain ⟨q,σ1,t1,t2,t3⟩:=takeFS_sound (ver:=(σ s).ver) fs 0 S σ qs ys S' hA rfl hz hp
   exact ⟨q,σ1,by simp only [vz,takeA,takeP,t1],t2,t3⟩
  ·cases h
end
end Go.Ax
namespace Go.Ax
section
variable {C:Ctx} {T:Tab} {S:Sta} {σ:Env} {B:Book}
theorem atS_app:∀(p:List Nat) (r c:V) (e:TypeId) (qs:List Prop),atS (std T) T r p=some (.box e c,qs)→atS (std T) T r (p++[0])=some (c,qs)
 |[],r,c,e,qs,h=>by
  simp only [atS,Option.some.injEq,Prod.mk.injEq] at h
  obtain ⟨rfl,rfl⟩:=h
  simp [atS]
 |i::p,.slc o e' d es,c,e,qs,h=>by
  cases o with
  |false=>simp [atS] at h
  |true=>
   simp only [atS] at h
   simp only [List.cons_append,atS]
   split at h
   ·rename_i y' hv
    split at h
    ·rename_i z q hz
     simp only [Option.some.injEq,Prod.mk.injEq] at h
     obtain ⟨rfl,rfl⟩:=h
     rw [atS_app p _ _ _ _ hz]
    ·cases h
   ·cases h
 |i::p,.agg fs,c,e,qs,h=>by
  simp only [atS] at h
  simp only [List.cons_append,atS]
  split at h
  ·exact atS_app p _ _ _ _ h
  ·cases h
 |i::p,.box e' c',c,e,qs,h=>by
  cases i with
  |zero=>
   simp only [atS] at h
   simp only [List.cons_append,atS]
   exact atS_app p _ _ _ _ h
  |succ i=>simp [atS] at h
 |_::_,.int _ _,_,_,_,h=>by simp [atS] at h
 |_::_,.bool _,_,_,_,h=>by simp [atS] at h
 |_::_,.str _,_,_,_,h=>by simp [atS] at h
 |_::_,.tup _,_,_,_,h=>by simp [atS] at h
 |_::_,.fn _ _,_,_,_,h=>by simp [atS] at h
 |_::_,.hole _,_,_,_,h=>by simp [atS] at h
theorem atR_app {p:List Nat} {r c:V} {e:TypeId} {qs:List Prop} (h:atR (std T) T r p=some (.box e c,qs)):atS (std T) T r (p++[0])=some (c,qs):=by
 unfold atR at h
 split at h
 ·simp only [Option.some.injEq,Prod.mk.injEq] at h
  obtain ⟨rfl,rfl⟩:=h
  simp [atS]
 ·split at h
  ·cases h
  ·cases h
  ·exact atS_app _ _ _ _ _ h
theorem gdS_sound {ops:Array Oper} (hA:Agr S σ) {o:Oper} {g:Option Bool} (h:gdS (std T) ops.toList S o=some g):gd ops σ o=some (gb g):=by
 unfold gdS at h
 unfold gd
 cases hg:o.guard with
 |none=>
  simp only [hg,Option.some.injEq] at h
  subst h
  rfl
 |some jw=>
  obtain ⟨j,want⟩:=jw
  simp only [hg] at h
  split at h
  ·rename_i o' ho
   rw [nthO_get,Array.getElem?_toList] at ho
   split at h
   ·rename_i t ht
    split at h
    ·rename_i g0 b hl
     obtain ⟨e1,e2,e3⟩:=hA.on _ _ _ (look_mem hl)
     simp only [ho,Option.bind_some,ht,e2,if_true]
     cases hgb:gb g0 with
     |true=>
      rw [hgb] at e1
      have e3':(σ t).a= .val (.bool b):=e3 hgb
      rw [e1,if_pos rfl,e3']
      split at h
      ·simp only [Option.some.injEq] at h
       subst h
       cases g0 with
       |none=>simp [andG,gb]
       |some a=>simp only [gb] at hgb;subst hgb;simp [andG,gb,std]
      ·simp only [Option.some.injEq] at h
       subst h
       cases g0 with
       |none=>simp [andG,gb,std]
       |some a=>simp only [gb] at hgb;subst hgb;simp [andG,gb,std]
     |false=>
      rw [hgb] at e1
      rw [e1,if_neg (by simp)]
      cases g0 with
      |none=>cases hgb
      |some a=>
       simp only [gb] at hgb;subst hgb
       split at h<;>
       ·simp only [Option.some.injEq] at h
        subst h
        simp [andG,gb,std]
    ·cases h
   ·cases h
  ·cases h
theorem lop_assign_none {o:Oper} {x:Operand} {s ver:Nat} {p:List Nat} (hop:o.op= .assign x) (h:opd C.P σ o.type x=some (true,.rf s ver p)) (hr:∃fs,σ.own s ver=some (.tup fs)) (hp:p≠[]):lop C σ true o=none:=by
 simp only [lop,hop,h]
 obtain ⟨fs,hr⟩:=hr
 cases p with
 |nil=>exact absurd rfl hp
 |cons i p=>simp only [hr]
theorem lop_assign_none0 {o:Oper} {x:Operand} {s ver d:Nat} (hop:o.op= .assign x) (h:opd C.P σ o.type x=some (true,.rf s ver [])) (hd:o.dst=some d) (hal:(C.Φ (1000000000+d) []).isSome=false):lop C σ true o=none:=by
 simp only [lop,hop,h,hd]
 rw [hal]
 rfl
def WOk (T:Tab) (C:Ctx) (S:Sta) (σ:Env) (o:Oper) (S':Sta):Prop:=∃p σ',wstep C σ o=some (p,σ')∧p∧Agr S' σ'∧
 (∀d,o.dst=some d→lop C σ true o=none∨∃x gx s v ver,o.op= .assign x∧opdS T S o.type x=some (gx,.rf s v [])∧opd C.P σ o.type x=some (true,.rf s ver []))∧o.guard=none∧(o.dst=none→kO T o=true)
theorem WOk.mk {o:Oper} {S':Sta} {p:Prop} {σ':Env} (h1:wstep C σ o=some (p,σ')) (h2:p) (h3:Agr S' σ') (h4:∀d,o.dst=some d→lop C σ true o=none) (h5:o.guard=none) (h6:(o.dst=none→kO T o=true)):WOk T C S σ o S':=
 ⟨p,σ',h1,h2,h3,fun d hd=> .inl (h4 d hd),h5,h6⟩
theorem wS_sound (hT:TabOk C.P T) (hA:Agr S σ) {o:Oper} {ps:List Prop} {S':Sta} (hn:∀d,o.dst=some d→C.dst d) (hst:opSt T C.lo C.st o=true) (h:wS (std T) T S o=some (ps,S')) (hp:Alls ps):WOk T C S σ o S':=by
 unfold wS at h
 split at h
 ·cases h
 rename_i hgd
 split at h
 ·
   rename_i x d hop hd
   split at h
   ·rename_i gx s ver p h1
    split at h
    ·rename_i qs y S1 h2
     split at h
     ·cases h
     rename_i hh
     have hpp:Alls (geG (std T) none gx)∧Alls qs:=by
      split at h
      ·split at h
       ·cases h
       ·simp only [Option.some.injEq,Prod.mk.injEq] at h
        obtain ⟨rfl,_⟩:=h
        exact alls_append.1 hp
      ·split at h
       ·simp only [Option.some.injEq,Prod.mk.injEq] at h
        obtain ⟨rfl,_⟩:=h
        exact alls_append.1 hp
       ·cases h
     have o1:=opdS_sound hT hA h1 (geG_sound hpp.1 rfl)
     obtain ⟨q,σ1,t1,t2,t3⟩:=takeS_sound hA h2 hpp.2
     have hdn:=hn d hd
     have hc:(decide (C.dst d)&& !y.isHole)=true:=by simp [hdn,hh]
     simp only [vz] at o1 t1
     split at h
     ·rename_i hb
      split at h
      ·cases h
      rename_i hsd
      have hne:s≠d:=fun e=>by subst e;rw [nbeq_refl] at hsd;cases hsd
      simp only [Option.some.injEq,Prod.mk.injEq] at h
      obtain ⟨_,rfl⟩:=h
      have hA1:Agr (putS S1 d none (.val y)) (σ1.put d true (.val y)):=t3.put (g:=none) rfl (fun _=>rfl)
      have hA2:Agr (putS (putS S1 d none (.val y)) s none (.rf d 0 [])) ((σ1.put d true (.val y)).put s true (.rf d ((σ1 d).ver+1) [])):=
       hA1.put (g:=none) (by cases hh:nbeq d s with
        |false=>exact hh
        |true=>exact absurd (nbeq_eq hh).symm hne) (fun _=>by simp [vz,Env.put])
      have hw:wstep C σ o=some (true=true∧q,(σ1.put d true (.val y)).put s true (.rf d ((σ1 d).ver+1) [])):=by
       simp only [wstep,hgd,hop,hd,o1,t1]
       rw [if_pos hc,if_neg hne]
      exact ⟨_,_,hw,⟨rfl,t2⟩,hA2,fun _ _=> .inr ⟨_,_,_,_,_,hop,h1,o1⟩,hgd,fun h=>by rw [hd] at h;cases h⟩
     ·rename_i hpn
      split at h
      ·rename_i fs hr
       simp only [Option.some.injEq,Prod.mk.injEq] at h
       obtain ⟨_,rfl⟩:=h
       have hA1:Agr (putS S1 d none (.val y)) (σ1.put d true (.val y)):=t3.put (g:=none) rfl (fun _=>rfl)
       have hw:wstep C σ o=some (true=true∧q,σ1.put d true (.val y)):=by
        simp only [wstep,hgd,hop,hd,o1,t1]
        rw [if_pos hc]
        split
        ·rename_i heq
         simp only [A.rf.injEq] at heq
         exact absurd heq.2.2 hpn
        ·rfl
       exact .mk hw ⟨rfl,t2⟩ hA1 (fun _ _=>lop_assign_none hop o1 ⟨fs,ownS_sound hA hr⟩ hpn) hgd (fun h=>by rw [hd] at h;cases h)
      ·cases h
    ·cases h
   ·rename_i gx v h1
    split at h
    ·rename_i hv
     simp only [Bool.and_eq_true] at hv
     simp only [Option.some.injEq,Prod.mk.injEq] at h
     obtain ⟨rfl,rfl⟩:=h
     have o1:=opdS_sound hT hA h1 (geG_sound hp rfl)
     have hdn:=hn d hd
     have hc:(decide (C.dst d)&& !v.isHole)=true:=by simp only [hdn,decide_true,Bool.true_and];exact hv.2
     simp only [vz] at o1
     have hA1:Agr (putS S d none (.val v)) (σ.put d true (.val v)):=hA.put (g:=none) rfl (fun _=>rfl)
     have hw:wstep C σ o=some (true=true∧True,σ.put d true (.val v)):=by
      simp only [wstep,hgd,hop,hd,o1,takeA]
      rw [if_pos hc]
     exact .mk hw ⟨rfl,trivial⟩ hA1 (fun _ _=>by simp only [lop,hop,o1];rw [if_pos hv.1]) hgd (fun h=>by rw [hd] at h;cases h)
    ·cases h
   ·cases h
 ·
   rename_i t x v hop hd
   split at h
   ·rename_i gv av h1
    split at h
    ·rename_i qs y S1 h2
     split at h
     ·rename_i hfit
      simp only [Bool.and_eq_true] at hfit
      split at h
      ·rename_i gx s ver p h3
       split at h
       ·rename_i r hr
        split at h
        ·rename_i i p' z rs r' h4 h5
         split at h
         ·rename_i hsz
          simp only [Bool.and_eq_true,Bool.or_eq_true] at hsz
          have hst':C.st=true→(z.isScalar&&y.isScalar)=true:=fun hh=>by
           rcases hsz.2 with h'|h'
           ·simpa using h'
           ·simp only [opSt,hh,hop,Bool.not_true,Bool.false_or,Bool.and_eq_true] at hst
            rw [hst.2] at h'
            cases h'
          simp only [Option.some.injEq,Prod.mk.injEq] at h
          obtain ⟨rfl,rfl⟩:=h
          rw [alls_append,alls_append,alls_append] at hp
          obtain ⟨⟨⟨p1,p2⟩,p3⟩,p4⟩:=hp
          have o1:=opdS_sound hT hA h1 (geG_sound p1 rfl)
          obtain ⟨q,σ1,t1,t2,t3⟩:=takeS_sound hA h2 p2
          have o2:=opdS_sound hT t3 h3 (geG_sound p3 rfl)
          obtain ⟨⟨e1,e1'⟩,e2,e5⟩:=atRW_sound h4 p4
          have hu:=e5 _ _ h5
          subst hu
          have hb:0<y.size:=by have:=nble_le hfit.2;omega
          have hc:(fits C.P t y&&(z.size==y.size)&&y.solid&&decide (0<y.size))=true:=by
           simp [fitT_sound hT hfit.1.1,nbeq_eq hsz.1,hfit.1.2,hb]
          have hos:=ownS_sound t3 hr
          have hw:wstep C σ o=some (true=true∧q∧true=true∧r.okm (i::p')∧(C.st=true→(z.isScalar&&y.isScalar)=true),if z.isScalar&&y.isScalar then σ1.mod s (r.upd (i::p') y) else σ1.bmp s (r.upd (i::p') y)):=by
           simp only [vz] at o2
           simp only [wstep,hgd,hop,hd,o1,t1,o2,hos,e1,e1']
           rw [if_pos hc]
          refine .mk hw ⟨rfl,t2,rfl,e2,hst'⟩ ?_ (fun d' hd'=>by rw [hd] at hd';cases hd') hgd (fun _=>by simp [kO,kT,kLen,kScal,hop])
          cases hsc:z.isScalar&&y.isScalar with
          |true=>simpa using t3.mod hr
          |false=>simpa using t3.bmp hr
         ·cases h
        ·cases h
       ·cases h
      ·rename_i gx s ver p h3
       split at h
       ·rename_i r hr
        split at h
        ·rename_i e z rs r' h4 h5
         split at h
         ·rename_i hsz
          simp only [Bool.and_eq_true,Bool.or_eq_true] at hsz
          have hst':C.st=true→(z.isScalar&&y.isScalar)=true:=fun hh=>by
           rcases hsz.2 with h'|h'
           ·simpa using h'
           ·simp only [opSt,hh,hop,Bool.not_true,Bool.false_or,Bool.and_eq_true] at hst
            rw [hst.2] at h'
            cases h'
          simp only [Option.some.injEq,Prod.mk.injEq] at h
          obtain ⟨rfl,rfl⟩:=h
          rw [alls_append,alls_append,alls_append] at hp
          obtain ⟨⟨⟨p1,p2⟩,p3⟩,p4⟩:=hp
          have o1:=opdS_sound hT hA h1 (geG_sound p1 rfl)
          obtain ⟨q,σ1,t1,t2,t3⟩:=takeS_sound hA h2 p2
          have o2:=opdS_sound hT t3 h3 (geG_sound p3 rfl)
          obtain ⟨e1,e2⟩:=atR_sound h4 p4
          have e3:r.okr p:=okr_of e2 (by rw [e1];rfl)
          have e4:r.okm (p++[0]):=okm_box e1 e2
          have hu:=updS_sound _ _ _ _ _ _ (atR_app h4) p4 h5
          subst hu
          have hb:0<y.size:=by have:=nble_le hfit.2;omega
          have hc:(fits C.P t y&&(z.size==y.size)&&y.solid&&decide (0<y.size))=true:=by
           simp [fitT_sound hT hfit.1.1,nbeq_eq hsz.1,hfit.1.2,hb]
          have hos:=ownS_sound t3 hr
          have hw:wstep C σ o=some (true=true∧q∧true=true∧r.okr p∧r.okm (p++[0])∧(C.st=true→(z.isScalar&&y.isScalar)=true),if z.isScalar&&y.isScalar then σ1.mod s (r.upd (p++[0]) y) else σ1.bmp s (r.upd (p++[0]) y)):=by
           simp only [vz] at o2
           simp only [wstep,hgd,hop,hd,o1,t1,o2,hos,e1]
           rw [if_pos hc]
          refine .mk hw ⟨rfl,t2,rfl,e3,e4,hst'⟩ ?_ (fun d' hd'=>by rw [hd] at hd';cases hd') hgd (fun _=>by simp [kO,kT,kLen,kScal,hop])
          cases hsc:z.isScalar&&y.isScalar with
          |true=>simpa using t3.mod hr
          |false=>simpa using t3.bmp hr
         ·cases h
        ·cases h
       ·cases h
      ·cases h
     ·cases h
    ·cases h
   ·cases h
 ·
   rename_i args ats d hop hd
   have hln:∀d,o.dst=some d→lop C σ true o=none:=fun _ _=>by simp only [lop,hop]
   have hdn:=hn d hd
   split at h
   ·rename_i x y t t' hargs hats
    split at h
    ·rename_i htt
     have:=nbeq_eq htt
     subst this
     split at h
     ·rename_i e he
      split at h
      ·rename_i gx ax h1
       split at h
       ·rename_i qs e' dd es S1 h2
        split at h
        ·rename_i gy ay h3
         split at h
         ·rename_i oy ey d2 es2 rs h4
          split at h
          ·rename_i hcc
           simp only [Bool.and_eq_true] at hcc
           obtain ⟨⟨hc1,hc2⟩,hc3⟩:=hcc
           have:=nbeq_eq hc1
           subst this
           have:=nbeq_eq hc2
           subst this
           obtain ⟨te,hte⟩:∃te,tget T e=some te:=by
            cases hh:tget T e with
            |none=>simp [tcells,hh] at hc3
            |some te=>exact ⟨te,rfl⟩
           have hcz:0<C.P.cellsOf e:=by have:=tcells_ne hT hc3;omega
           have hsc:scalP C.P e=scalT T e:=by
            have hg:=hT.got hte
            have i1:intT C.P e=(wantT te).int:=congrArg Got.int hg
            have i2:isStr C.P e=(wantT te).str:=congrArg Got.str hg
            have i3:boolT C.P e=(wantT te).bool:=congrArg Got.bool hg
            unfold scalP scalT
            rw [i1,i2,i3,hte]
            obtain ⟨k,c,z⟩:=te
            cases k<;>rfl
           split at h
           ·rename_i hoy
            simp only [Option.some.injEq,Prod.mk.injEq] at h
            obtain ⟨rfl,rfl⟩:=h
            simp only [alls_append,alls_cons] at hp
            obtain ⟨⟨⟨⟨p1,p2⟩,p3⟩,p4⟩,p5,p6,p7,_⟩:=hp
            have o1:=opdS_sound hT hA h1 (geG_sound p1 rfl)
            obtain ⟨q,σ1,t1,t2,t3⟩:=takeS_sound hA h2 p2
            have o2:=opdS_sound hT t3 h3 (geG_sound p3 rfl)
            obtain ⟨l1,l2,l3⟩:=lookS_sound t3 h4 p4
            have p5':V.owneds es2=false:=p5
            have p6':(es.length:Int)+(es2.length:Int)≤2147483647:=p6
            have p7':∀x∈es2,x.solid=true:=p7
            have hc:(decide (C.dst d)&&e==e&&e==e&& !(vz σ1 ay).isAg&&decide (C.P.bytesOf e≤65536)&&decide (0<C.P.cellsOf e))=true:=by
             simp [hdn,l3,hT.small hte,hcz]
            have hw:wstep C σ o=some (true=true∧q∧true=true∧(vz σ1 ay).okA σ1∧es.length+es2.length≤2147483647∧(∀x∈es2,x.solid=true)∧V.owneds es2=false∧C.st=false,σ1.put d true (.val (.slc true e dd (es++es2)))):=by
             simp only [wstep,hgd,hop,hd,hargs,hats,if_true,hT.elem he,o1,t1,o2,hT.zero hte,l1]
             rw [if_pos hc]
             rw [hsc,hoy]
             simp
            have hap:C.st=false:=by
             cases hh:C.st with
             |false=>rfl
             |true=>simp [opSt,hh,hop] at hst
            exact .mk hw ⟨rfl,t2,rfl,l2,by omega,p7',p5',hap⟩ (t3.put (g:=none) rfl (fun _=>rfl)) hln hgd (fun h=>by rw [hd] at h;cases h)
           ·rename_i hoy
            split at h
            ·rename_i rs' e3 d3 es3 S2 h5
             simp only [Option.some.injEq,Prod.mk.injEq] at h
             obtain ⟨rfl,rfl⟩:=h
             simp only [alls_append,alls_cons] at hp
             obtain ⟨⟨⟨⟨⟨p1,p2⟩,p3⟩,p4⟩,p5⟩,p6,p7,_⟩:=hp
             have o1:=opdS_sound hT hA h1 (geG_sound p1 rfl)
             obtain ⟨q,σ1,t1,t2,t3⟩:=takeS_sound hA h2 p2
             have o2:=opdS_sound hT t3 h3 (geG_sound p3 rfl)
             obtain ⟨l1,l2,l3⟩:=lookS_sound t3 h4 p4
             obtain ⟨q2,σ2,u1,u2,u3⟩:=takeS_sound t3 h5 p5
             have p6':(es.length:Int)+(es3.length:Int)≤2147483647:=p6
             have p7':∀x∈es3,x.solid=true:=p7
             have hc:(decide (C.dst d)&&e==e&&e==e&& !(vz σ1 ay).isAg&&decide (C.P.bytesOf e≤65536)&&decide (0<C.P.cellsOf e))=true:=by
              simp [hdn,l3,hT.small hte,hcz]
             have hw:wstep C σ o=some (true=true∧q∧true=true∧q2∧es.length+es3.length≤2147483647∧(∀x∈es3,x.solid=true)∧C.st=false,σ2.put d true (.val (.slc true e dd (es++es3)))):=by
              simp only [wstep,hgd,hop,hd,hargs,hats,if_true,hT.elem he,o1,t1,o2,hT.zero hte,l1]
              rw [if_pos hc]
              rw [hsc,hoy,if_pos rfl,u1]
             have hap:C.st=false:=by
              cases hh:C.st with
              |false=>rfl
              |true=>simp [opSt,hh,hop] at hst
             exact .mk hw ⟨rfl,t2,rfl,u2,by omega,p7',hap⟩ (u3.put (g:=none) rfl (fun _=>rfl)) hln hgd (fun h=>by rw [hd] at h;cases h)
            ·cases h
          ·cases h
         ·cases h
        ·cases h
       ·cases h
      ·cases h
     ·cases h
    ·cases h
   ·cases h
 ·cases h
end
end Go.Ax
namespace Go.Ax
section
variable {C:Ctx} {T:Tab} {S:Sta} {σ:Env} {B:Book}
theorem ownE_sound (hA:Agr S σ) {d:Nat} (h:ownE (look S d)=false):(σ d).owner=false:=by
 cases hl:look S d with
 |none=>exact hA.off d (look_none hl)
 |some e=>
  obtain ⟨g,a⟩:=e
  obtain ⟨e1,_,e3⟩:=hA.on _ _ _ (look_mem hl)
  unfold E.owner
  rw [e1]
  cases hg:gb g with
  |false=>rfl
  |true=>
   rw [e3 hg]
   rw [hl] at h
   cases a<;>first|rfl|exact h
theorem stpS_sound (hT:TabOk C.P T) (hA:Agr S σ) (hΦ:C.Φ=phi B) {ops:Array Oper} {o:Oper} (hst:opSt T C.lo C.st o=true) {ps:List Prop} {S':Sta} (h:stpS (std T) T B C.nt ops.toList S o=some (ps,S')) (hp:Alls ps):
 ∃p σ',step C ops (kO T o) σ o=some (p,σ')∧p∧Agr S' σ':=by
 unfold stpS at h
 have viaW:(∀d,o.dst=some d→C.dst d)→(∀d,o.dst=some d→∃g,lopS (std T) T B S g o=none)→(o.dst.isSome=true→kO T o=true)→wS (std T) T S o=some (ps,S')→∃p σ',step C ops (kO T o) σ o=some (p,σ')∧p∧Agr S' σ':=by
  intro hn hln hk hw
  obtain ⟨p,σ',e1,e2,e3,e4,e5,e6⟩:=wS_sound hT hA hn hst hw hp
  refine ⟨p,σ',?_,e2,e3⟩
  have hl:lstep C ops σ o=none:=by
   unfold lstep
   cases hd:o.dst with
   |none=>
    have:gd ops σ o=some true:=by unfold gd;rw [e5]
    rw [this]
   |some d=>
    have:gd ops σ o=some true:=by unfold gd;rw [e5]
    rw [this]
    dsimp only
    have e8:lop C σ true o=none:=by
     rcases e4 d hd with h8|⟨x,gx,s,v,ver,h8,h9,h10⟩
     ·exact h8
     ·obtain ⟨g,hg⟩:=hln d hd
      refine lop_assign_none0 h8 h10 hd ?_
      rw [hΦ]
      simp only [phi]
      simp only [lopS,h8,h9,hd] at hg
      cases hb:bget B (1000000000+d) with
      |none=>rfl
      |some f=>
       rw [hb] at hg
       dsimp only at hg ⊢
       cases hf:f [] with
       |none=>rfl
       |some r=>rw [hf] at hg;cases hg
    rw [e8]
  have e7:kO T o=true:=by
   cases hd:o.dst with
   |none=>exact e6 hd
   |some d=>exact hk (by rw [hd];rfl)
  unfold step
  rw [e7,if_pos rfl,hl]
  exact e1
 split at h
 ·rename_i g hgd
  have hg1:=gdS_sound hA hgd
  split at h
  ·rename_i d hd
   split at h
   ·rename_i hn
    have hdn:C.dst d:=⟨by
     simp only [opSt,hd,Bool.and_eq_true] at hst
     exact nble_le hst.1,nble_le hn⟩
    split at h
    ·rename_i qs a hlop
     split at h
     ·cases h
     ·rename_i hat
      simp only [Bool.or_eq_false_iff] at hat
      obtain ⟨ha1,ha2⟩:=hat
      simp only [Option.some.injEq,Prod.mk.injEq] at h
      obtain ⟨rfl,rfl⟩:=h
      have main:∃p a',lstep C ops σ o=some (p,σ.put d (gb g) a')∧p∧(gb g=true→a'=vz σ a):=by
       cases hgb:gb g with
       |true=>
        obtain ⟨p,e1,e2⟩:=lopS_sound hT hA hΦ hgb hlop hp
        refine ⟨p,vz σ a,?_,e2,fun _=>rfl⟩
        unfold lstep
        rw [hg1,hgb,hd]
        dsimp only
        rw [e1]
        dsimp only
        rw [if_pos hdn]
       |false=>
        refine ⟨True,.val (.hole 0),?_,trivial,fun h=>by cases h⟩
        unfold lstep
        rw [hg1,hgb,hd]
        dsimp only
        rw [if_pos hdn]
      obtain ⟨p,a',e1,e2,e3⟩:=main
      refine ⟨p,_,?_,e2,hA.put ha1 e3⟩
      unfold step
      cases hk:kO T o with
      |true=>rw [if_pos rfl,e1]
      |false=>
       rw [hk] at ha2
       have:ownE (look S d)=false:=by simpa using ha2
       rw [if_neg (by simp),hd]
       dsimp only
       rw [ownE_sound hA this,if_neg (by simp)]
       exact e1
    ·rename_i hlop
     split at h
     ·rename_i hk
      exact viaW (fun d' hd'=>by rw [hd] at hd';simp only [Option.some.injEq] at hd';subst hd';exact hdn) (fun _ _=>⟨_,hlop⟩) (fun _=>hk) h
     ·cases h
   ·cases h
  ·rename_i hd
   exact viaW (fun d' hd'=>by rw [hd] at hd';cases hd') (fun d' hd'=>by rw [hd] at hd';cases hd') (fun h=>by rw [hd] at h;cases h) h
 ·cases h
theorem conj_iff {ps:List Prop} {r:Prop}:conj ps r↔Alls ps∧r:=by
 induction ps with
 |nil=>simp [conj,alls_nil]
 |cons p l ih=>simp only [conj,alls_cons,ih,and_assoc]
theorem evS_sound (hT:TabOk C.P T) (hΦ:C.Φ=phi B) {ops:Array Oper} {K:Sta→Prop} {K':Env→Prop} (hK:∀S σ,K S→Agr S σ→K' σ):∀(l:List Oper) (S:Sta) (σ:Env),opsSt T C.lo C.st l=true→evS (std T) T B C.nt ops.toList l S K→Agr S σ→ev C ops l (l.map (kO T)) σ K'
 |[],S,σ,_,h,hA=>hK S σ h hA
 |o::l,S,σ,hst,h,hA=>by
  simp only [opsSt,Bool.and_eq_true] at hst
  simp only [evS] at h
  split at h
  ·rename_i ps S' hs
   rw [conj_iff] at h
   obtain ⟨p,σ',e1,e2,e3⟩:=stpS_sound hT hA hΦ hst.1 hs h.1
   simp only [List.map_cons,ev,e1]
   exact ⟨e2,evS_sound hT hΦ hK l S' σ' hst.2 h.2 e3⟩
  ·exact h.elim
def psi (Bi:IBook):FuncId→Option (Nat×Bool×(List V→Option (Prop×V×V))):=fun k=>match iget Bi k with
 |some (j,m,c)=>some (j,m,fun args=>match c args with
  |some (ps,r,y)=>some (Alls ps,r,y)
  |none=>none)
 |none=>none
def noMv:IBook→Bool
 |[]=>true
 |(_,j,m,_)::l=>(!m&& !jw j)&&noMv l
theorem noMv_get:∀{Bi:IBook} {k j:Nat} {m:Bool} {c:IContract},noMv Bi=true→iget Bi k=some (j,m,c)→m=false∧jw j=false
 |[],_,_,_,_,_,h=>by simp [iget] at h
 |(k',j',m',c')::l,k,j,m,c,hn,h=>by
  simp only [noMv,Bool.and_eq_true,Bool.not_eq_true'] at hn
  simp only [iget] at h
  split at h
  ·simp only [Option.some.injEq,Prod.mk.injEq] at h
   obtain ⟨rfl,rfl,_⟩:=h
   exact hn.1
  ·exact noMv_get hn.2 h
def PsiOk (C:Ctx) (Bi:IBook):Prop:=C.Ψ=psi Bi∧(C.st=true→noMv Bi=true)
theorem ioS_sound (hA:Agr S σ) {a:A} {ps:List Prop} {x:V} {S1:Sta} {back:V→Option Sta} (h:ioS (std T) T S a=some (ps,x,S1,back)) (hp:Alls ps):
 ∃q σ1 back1,ioOut σ (vz σ a)=some (q,x,σ1,back1)∧q∧Agr S1 σ1∧∀y S2,back y=some S2→Agr S2 (back1 y):=by
 cases a with
 |rf s ver p=>
  simp only [ioS] at h
  split at h
  ·rename_i r hr
   have ho:=ownS_sound hA hr
   split at h
   ·split at h
    ·rename_i hH
     simp only [Option.some.injEq,Prod.mk.injEq] at h
     obtain ⟨_,rfl,rfl,rfl⟩:=h
     refine ⟨True,σ.drp s,fun y=>σ.mod s y,by simp only [vz,ioOut,ho];rw [if_pos hH],trivial,hA.drp,fun y S2 h2=> ?_⟩
     simp only [Option.some.injEq] at h2
     subst h2
     exact hA.mod hr
    ·cases h
   ·rename_i i q
    split at h
    ·rename_i x' qs hx
     split at h
     ·rename_i hH
      split at h
      ·rename_i r1 hu
       simp only [Option.some.injEq,Prod.mk.injEq] at h
       obtain ⟨rfl,rfl,rfl,rfl⟩:=h
       obtain ⟨e1,e2⟩:=atR_sound hx hp
       rcases e2 with e2|⟨e2,e3,e4,e5⟩
       ·cases e2
       have hu':=updS_sound _ _ _ _ _ _ e5 hp hu
       subst hu'
       have hsz:(r.at (i::q)).size=1:=by
        rw [e1]
        revert hH
        cases x'<;>simp [V.isH,V.size]
       refine ⟨r.okm (i::q)∧(r.at (i::q)).isH=true,σ.mod s (r.upd (i::q) (.hole 1)),fun y=>σ.mod s (r.upd (i::q) y),by
        rw [e1] at hsz
        simp only [vz,ioOut,ho,e1,hsz],⟨e2,by rw [e1];exact hH⟩,hA.mod hr,fun y S2 h2=> ?_⟩
       dsimp only at h2
       split at h2
       ·rename_i r2 hu2
        simp only [Option.some.injEq] at h2
        subst h2
        have hu2':=updS_sound _ _ _ _ _ _ e5 hp hu2
        subst hu2'
        exact hA.mod hr
       ·cases h2
      ·cases h
     ·cases h
    ·cases h
  ·cases h
 |ag s ver p fs=>
  simp only [ioS] at h
  split at h
  ·rename_i r hr
   have ho:=ownS_sound hA hr
   split at h
   ·cases h
   ·rename_i i q
    split at h
    ·rename_i gs qs hx
     split at h
     ·rename_i hok
      split at h
      ·rename_i r1 hu
       simp only [Option.some.injEq,Prod.mk.injEq] at h
       obtain ⟨rfl,rfl,rfl,rfl⟩:=h
       obtain ⟨e1,e2⟩:=atR_sound hx hp
       rcases e2 with e2|⟨e2,e3,e4,e5⟩
       ·cases e2
       have hu':=updS_sound _ _ _ _ _ _ e5 hp hu
       subst hu'
       refine ⟨r.okm (i::q),σ.mod s (r.upd (i::q) (.hole (V.sizes gs))),_,by simp only [vz,ioOut,ho,e1];rw [if_pos hok];rfl,e2,hA.mod hr,fun y S2 h2=> ?_⟩
       dsimp only at h2
       split at h2
       ·rename_i xs
        split at h2
        ·rename_i r2 hu2
         simp only [Option.some.injEq] at h2
         subst h2
         have hu2':=updS_sound _ _ _ _ _ _ e5 hp hu2
         subst hu2'
         exact hA.mod hr
        ·cases h2
       ·cases h2
      ·cases h
     ·cases h
    ·cases h
  ·cases h
 |_=>simp [ioS] at h
theorem iS_istep {Bi:IBook} (hT:TabOk C.P T) (hA:Agr S σ) (hΦ:C.Φ=phi B) (hΨ:PsiOk C Bi) {o:Oper} {ps:List Prop} {S':Sta} (hn:∀d,o.dst=some d→C.dst d) (h:iS (std T) T B Bi S o=some (ps,S')) (hp:Alls ps):
 ∃p σ',istep C σ o=some (p,σ')∧p∧Agr S' σ':=by
 unfold iS at h
 split at h
 ·cases h
 rename_i hg
 split at h
 ·rename_i k args ats hop
  split at h
  ·cases h
  rename_i hBk
  split at h
  ·rename_i j c hIk
   split at h
   ·rename_i x hx
    split at h
    ·rename_i gx a h1
     split at h
     ·rename_i qs y S1 back h2
      split at h
      ·rename_i rs vs br h3
       split at h
       ·rename_i ts r y' h4
        split at h
        ·rename_i S2 h5
         split at h
         ·cases h
         rename_i hfn0
         obtain ⟨hfn,hwk⟩:=Bool.or_eq_false_iff.1 hfn0
         simp only [Option.some.injEq,Prod.mk.injEq] at h
         obtain ⟨rfl,rfl⟩:=h
         rw [alls_append,alls_append,alls_append,alls_append] at hp
         obtain ⟨⟨⟨⟨p1,p2⟩,p3⟩,p4⟩,p5⟩:=hp
         have o1:=opdS_sound hT hA h1 (geG_sound p1 rfl)
         obtain ⟨q,σ1,back1,t1,t2,t3,t4⟩:=ioS_sound hA h2 p2
         obtain ⟨pl,l1,l2⟩:=argsS_sound hT t3 (g:=none) rfl h3 p3
         have hpsi:C.Ψ k=some (j,false,fun args=>match c args with
          |some (ps,r,y)=>some (Alls ps,r,y)
          |none=>none):=by rw [hΨ.1];simp only [psi,hIk]
         have hnf:(br&& !(r.noFz&&y'.noFz))=false:=by
          cases hb:br with
          |false=>rfl
          |true=>
           rw [hb] at p5 hfn
           simp only [Bool.true_and,Bool.or_eq_false_iff] at hfn
           rw [alls_append] at p5
           rw [nofzS_sound r p5.1 hfn.1,nofzS_sound y' p5.2 hfn.2]
           rfl
         have hwk':(jw j&& !(rootA (vz σ a)&&y.bare))=false:=by
          have:rootA (vz σ a)=rootA a:=by
           cases a with
           |rf s v p=>cases p<;>rfl
           |_=>rfl
          rw [this];exact hwk
         have hwj:jw j=true→C.st=false:=fun hj=>by
          cases hst:C.st with
          |false=>rfl
          |true=>rw [(noMv_get (hΨ.2 hst) hIk).2] at hj;cases hj
         have ho1:opd C.P σ 0 x=some (true,vz σ a):=o1
         cases hd:o.dst with
         |none=>
          refine ⟨true=true∧q∧pl∧Alls ts∧(jw j=true→C.st=false),back1 y',?_,⟨rfl,t2,l2,p4,hwj⟩,t4 y' S2 h5⟩
          simp only [istep,hg,hop,hpsi,hx,ho1,t1,l1,h4,hnf,hwk',hd]
          rw [if_neg (by simp)]
         |some d=>
          refine ⟨true=true∧q∧pl∧Alls ts∧(jw j=true→C.st=false),(back1 y').put d true (.val r),?_,⟨rfl,t2,l2,p4,hwj⟩,(t4 y' S2 h5).put (g:=none) rfl (fun _=>rfl)⟩
          simp only [istep,hg,hop,hpsi,hx,ho1,t1,l1,h4,hnf,hwk',hd]
          rw [if_neg (by simp),if_pos (hn d hd)]
        ·cases h
       ·cases h
      ·cases h
     ·cases h
    ·cases h
   ·cases h
  ·cases h
 ·cases h
theorem iS_sound {Bi:IBook} (hT:TabOk C.P T) (hA:Agr S σ) (hΦ:C.Φ=phi B) (hΨ:PsiOk C Bi) {ops:Array Oper} {o:Oper} {ps:List Prop} {S':Sta} (hn:∀d,o.dst=some d→C.dst d) (h:iS (std T) T B Bi S o=some (ps,S')) (hp:Alls ps):
 ∃p σ',StepL C ops σ o (p,σ')∧p∧Agr S' σ':=by
 obtain ⟨p,σ',e1,e2,e3⟩:=iS_istep hT hA hΦ hΨ hn h hp
 exact ⟨p,σ',.inr (.inr (.inl e1)),e2,e3⟩
theorem vS_sound {Bi:IBook} (hT:TabOk C.P T) (hA:Agr S σ) (hΦ:C.Φ=phi B) (hΨ:PsiOk C Bi) {o:Oper} {ps:List Prop} {S':Sta} (hn:∀d,o.dst=some d→C.dst d) (h:vS (std T) T B Bi S o=some (ps,S')) (hp:Alls ps):
 ∃p σ',vstep C σ o=some (p,σ')∧p∧Agr S' σ':=by
 unfold vS at h
 split at h
 ·cases h
 rename_i hg
 split at h
 ·rename_i k args ats hop
  split at h
  ·cases h
  rename_i hBk
  split at h
  ·rename_i j c hIk
   split at h
   ·rename_i x hx
    split at h
    ·rename_i gx a h1
     split at h
     ·rename_i qs y S1 h2
      split at h
      ·rename_i rs vs br h3
       split at h
       ·rename_i ts r y' h4
        split at h
        ·cases h
        rename_i hfn
        simp only [Option.some.injEq,Prod.mk.injEq] at h
        obtain ⟨rfl,rfl⟩:=h
        rw [alls_append,alls_append,alls_append,alls_append] at hp
        obtain ⟨⟨⟨⟨p1,p2⟩,p3⟩,p4⟩,p5⟩:=hp
        have o1:=opdS_sound hT hA h1 (geG_sound p1 rfl)
        obtain ⟨q,σ1,t1,t2,t3⟩:=takeS_sound hA h2 p2
        obtain ⟨pl,l1,l2⟩:=argsS_sound hT t3 (g:=none) rfl h3 p3
        have hpsi:C.Ψ k=some (j,true,fun args=>match c args with
         |some (ps,r,y)=>some (Alls ps,r,y)
         |none=>none):=by rw [hΨ.1];simp only [psi,hIk]
        have hnf:(br&& !r.noFz)=false:=by
         cases hb:br with
         |false=>rfl
         |true=>
          rw [hb] at p5 hfn
          simp only [Bool.true_and] at hfn
          rw [nofzS_sound r p5 hfn]
          rfl
        have hst':C.st=false:=by
         cases hh:C.st with
         |false=>rfl
         |true=>exact absurd (noMv_get (hΨ.2 hh) hIk).1 (by simp)
        have ho1:opd C.P σ _ x=some (true,vz σ a):=o1
        cases hd:o.dst with
        |none=>
         refine ⟨true=true∧q∧pl∧Alls ts∧C.st=false,σ1,?_,⟨rfl,t2,l2,p4,hst'⟩,t3⟩
         simp only [vstep,hg,hop,hpsi,hx,ho1,t1,l1,h4,hnf,hd]
         rw [if_neg (by simp)]
        |some d=>
         refine ⟨true=true∧q∧pl∧Alls ts∧C.st=false,σ1.put d true (.val r),?_,⟨rfl,t2,l2,p4,hst'⟩,t3.put (g:=none) rfl (fun _=>rfl)⟩
         simp only [vstep,hg,hop,hpsi,hx,ho1,t1,l1,h4,hnf,hd]
         rw [if_neg (by simp),if_pos (hn d hd)]
       ·cases h
      ·cases h
     ·cases h
    ·cases h
   ·cases h
  ·cases h
 ·cases h
theorem bS_sound (hT:TabOk C.P T) (hA:Agr S σ) {ops:Array Oper} {o:Oper} {ps:List Prop} {S':Sta} (hn:∀d,o.dst=some d→C.dst d) (h:bS (std T) T S o=some (ps,S')) (hp:Alls ps):
 ∃p σ',StepL C ops σ o (p,σ')∧p∧Agr S' σ':=by
 unfold bS at h
 split at h
 ·cases h
 rename_i hg
 split at h
 ·rename_i t x d hop hd
  split at h
  ·rename_i gx s ver p h1
   split at h
   ·split at h
    ·rename_i fs hr
     split at h
     ·rename_i hc
      simp only [Bool.and_eq_true,Bool.not_eq_true'] at hc
      simp only [Option.some.injEq,Prod.mk.injEq] at h
      obtain ⟨rfl,rfl⟩:=h
      have o1:=opdS_sound hT hA h1 (geG_sound hp rfl)
      have hos:=ownS_sound hA hr
      have hsd:s≠d:=fun e=>by subst e;rw [nbeq_refl] at hc;cases hc.1
      have hA1:Agr (putS (del s S) d none (.val (.box t (.agg fs)))) ((σ.drp s).put d true (.val (.box t (.agg fs)))):=hA.drp.put (g:=none) rfl (fun _=>rfl)
      have hA2:Agr (putS (putS (del s S) d none (.val (.box t (.agg fs)))) s none (.ag d 0 [0] fs)) (((σ.drp s).put d true (.val (.box t (.agg fs)))).put s true (.ag d (((σ.drp s) d).ver+1) [0] fs)):=
       hA1.put (g:=none) (by cases hh:nbeq d s with
        |false=>exact hh
        |true=>exact absurd (nbeq_eq hh).symm hsd) (fun _=>by simp [vz,Env.put])
      simp only [vz] at o1
      have hb:bstep C σ o=some (true=true,((σ.drp s).put d true (.val (.box t (.agg fs)))).put s true (.ag d (((σ.drp s) d).ver+1) [0] fs)):=by
       simp only [bstep,hg,hop,hd,o1,hos]
       rw [if_pos ⟨hn d hd,hsd,hc.2⟩]
      exact ⟨true=true,_,.inr (.inr (.inr (.inl hb))),rfl,hA2⟩
     ·cases h
    ·cases h
   ·cases h
  ·cases h
 ·cases h
theorem takesVS_sound (hT:TabOk C.P T) {ty:Nat→TypeId}:∀(parts:List (Nat×Operand)) (S S1:Sta) (σ:Env) (ps:List Prop) (vs:List (Nat×V)),Agr S σ→takesVS (std T) T ty S parts=some (ps,vs,S1)→Alls ps→
 ∃p σ1,takesV C ty σ parts=some (p,vs,σ1)∧p∧Agr S1 σ1
 |[],S,S1,σ,ps,vs,hA,h,_=>by
  simp only [takesVS,Option.some.injEq,Prod.mk.injEq] at h
  obtain ⟨_,rfl,rfl⟩:=h
  exact ⟨True,σ,rfl,trivial,hA⟩
 |(i,x)::xs,S,S1,σ,ps,vs,hA,h,hp=>by
  simp only [takesVS] at h
  split at h
  ·rename_i gx a h1
   split at h
   ·rename_i qs y S2 h2
    split at h
    ·cases h
    rename_i hnh
    split at h
    ·rename_i rs vs' S3 h3
     simp only [Option.some.injEq,Prod.mk.injEq] at h
     obtain ⟨rfl,rfl,rfl⟩:=h
     rw [alls_append,alls_append] at hp
     obtain ⟨⟨p1,p2⟩,p3⟩:=hp
     have o1:=opdS_sound hT hA h1 (geG_sound p1 rfl)
     obtain ⟨q,σ1,t1,t2,t3⟩:=takeS_sound hA h2 p2
     obtain ⟨p,σ2,u1,u2,u3⟩:=takesVS_sound hT xs S2 _ σ1 rs vs' t3 h3 p3
     refine ⟨true=true∧q∧p,σ2,?_,⟨rfl,t2,u2⟩,u3⟩
     have o2:opd C.P σ (ty i) x=some (true,vz σ a):=o1
     simp only [takesV,o2,t1,u1]
     rw [if_neg (by simp [hnh])]
    ·cases h
   ·cases h
  ·cases h
theorem mS_mstep (hT:TabOk C.P T) (hA:Agr S σ) {o:Oper} {ps:List Prop} {S':Sta} (hn:∀d,o.dst=some d→C.dst d) (h:mS (std T) T S o=some (ps,S')) (hp:Alls ps):
 ∃p σ',mstep C σ o=some (p,σ')∧p∧Agr S' σ':=by
 unfold mS at h
 split at h
 ·cases h
 rename_i hg
 split at h
 ·rename_i t parts d hop hd
  split at h
  ·rename_i fts c zs ht
   split at h
   ·rename_i qs vs S1 hv
    split at h
    ·rename_i fs hfs
     simp only [Option.some.injEq,Prod.mk.injEq] at h
     obtain ⟨rfl,rfl⟩:=h
     have hst:structOf C.P t=some zs:=congrArg Got.struct (hT.got ht)
     have hty:(fun i=>((fieldT C.P t i).map (·.2)).getD 0)=ftyS fts:=by
      funext i
      rw [fieldT_of (hT.fields (t:=t) (fs:=fts) (by simp [fieldsT,ht]))]
      unfold ftyS
      cases nthF fts i<;>rfl
     obtain ⟨p,σ1,u1,u2,u3⟩:=takesVS_sound (C:=C) hT _ _ _ σ _ _ hA hv hp
     refine ⟨p,_,?_,u2,u3.put (g:=none) rfl (fun _=>rfl)⟩
     simp only [mstep,hg,hop,hd,hst,hty,u1,hfs]
     rw [if_pos (hn d hd)]
     rfl
    ·cases h
   ·cases h
  ·cases h
 ·rename_i t n parts d hop hd
  split at h
  ·rename_i e he
   split at h
   ·rename_i ti qs vs S1 ht hv
    split at h
    ·rename_i hle
     simp only [Bool.and_eq_true] at hle
     split at h
     ·rename_i es hes
      simp only [Option.some.injEq,Prod.mk.injEq] at h
      obtain ⟨rfl,rfl⟩:=h
      obtain ⟨p,σ1,u1,u2,u3⟩:=takesVS_sound (C:=C) hT _ _ _ σ _ _ hA hv hp
      have hc:n*C.P.cellsOf e≤2^20∧0<C.P.cellsOf e∧0<n:=by
       have:=(elem_ok hT he).2
       rw [hT.cells ht] at this ⊢
       exact ⟨nble_le hle.1,by omega,nble_le hle.2⟩
      refine ⟨p,_,?_,u2,u3.put (g:=none) rfl (fun _=>rfl)⟩
      simp only [mstep,hg,hop,hd,hT.elem he,hT.zero ht,u1]
      rw [if_pos hc,hes]
      dsimp only
      rw [if_pos (hn d hd)]
      rfl
     ·cases h
    ·cases h
   ·cases h
  ·cases h
 ·cases h
theorem mS_sound (hT:TabOk C.P T) (hA:Agr S σ) {ops:Array Oper} {o:Oper} {ps:List Prop} {S':Sta} (hn:∀d,o.dst=some d→C.dst d) (h:mS (std T) T S o=some (ps,S')) (hp:Alls ps):
 ∃p σ',StepL C ops σ o (p,σ')∧p∧Agr S' σ':=by
 obtain ⟨p,σ',h1,h2,h3⟩:=mS_mstep hT hA hn h hp
 exact ⟨p,σ',.inr (.inr (.inr (.inr (.inl h1)))),h2,h3⟩
theorem fS_sound (hT:TabOk C.P T) (hA:Agr S σ) {ops:Array Oper} {o:Oper} {ps:List Prop} {S':Sta} (hn:∀d,o.dst=some d→C.dst d) (hst:opSt T C.lo C.st o=true) (h:fS (std T) T S o=some (ps,S')) (hp:Alls ps):
 ∃p σ',StepL C ops σ o (p,σ')∧p∧Agr S' σ':=by
 unfold fS at h
 split at h
 ·cases h
 rename_i hg
 split at h
 ·rename_i st x lo hi mx d hop hd
  split at h
  ·rename_i gx s ver p h1
   split at h
   ·split at h
    ·rename_i e dd es hr
     split at h
     ·rename_i e' he
      split at h
      ·rename_i hc
       simp only [Bool.and_eq_true,Bool.not_eq_true',Bool.or_eq_true] at hc
       obtain ⟨⟨hc1,hc2⟩,hc3⟩:=hc
       have:=nbeq_eq hc1
       subst this
       split at h
       ·rename_i gl l gh hh gm m hl hhi hmx
        simp only [Option.some.injEq,Prod.mk.injEq] at h
        obtain ⟨rfl,rfl⟩:=h
        simp only [alls_append,alls_cons] at hp
        obtain ⟨⟨⟨⟨p1,p2⟩,p3⟩,p4⟩,q1,q2,q3,q4,_⟩:=hp
        have o1:=opdS_sound hT hA h1 (geG_sound p1 rfl)
        have hos:=ownS_sound hA hr
        simp only [vz] at o1
        have hst':C.st=false:=by
         cases hh:C.st with
         |false=>rfl
         |true=>simp [opSt,hh,hop] at hst
        obtain ⟨pl,b1,b2⟩:=boundS_sound (g:=none) hT hA hl rfl p2
        obtain ⟨ph,c1,c2⟩:=boundS_sound (g:=none) hT hA hhi rfl p3
        obtain ⟨pm,d1,d2⟩:=boundS_sound (g:=none) hT hA hmx rfl p4
        have c1:boundOf C.P σ true (es.length:Int) hi=some (ph,hh):=c1
        have d1:boundOf C.P σ true (es.length:Int) mx=some (pm,m):=d1
        have hds:d≠s:=fun e=>by subst e;rw [nbeq_refl] at hc2;cases hc2
        have hA1:=(hA.drp (d:=s)).put (d:=s) (g:=none) (a:= .val (.slc false e dd.frz (V.frzs es))) (a':= .val (.slc false e dd.frz (V.frzs es))) rfl (fun _=>rfl)
        have hA2:=hA1.put (d:=d) (g:=none) (a:= .val (.slc false e dd.frz (((V.frzs es).take hh.toNat).drop l.toNat))) (a':= .val (.slc false e dd.frz (((V.frzs es).take hh.toNat).drop l.toNat))) rfl (fun _=>rfl)
        refine ⟨true=true∧pl∧ph∧pm∧0≤l∧l≤hh∧hh≤m∧m≤(es.length:Int)∧C.st=false,_,.inr (.inr (.inr (.inr (.inr (.inl ?_))))),⟨rfl,b2,c2,d2,q1,q2,q3,q4,hst'⟩,hA2⟩
        have hcc:e=e∧C.P.cellsOf e≠0∧C.dst d∧(mx.isSome=true→hi.isSome=true):=⟨rfl,(elem_ok hT he).2,hn d hd,fun h=>by
         rcases hc3 with h'|h'
         ·exact h'
         ·rw [h] at h';cases h'⟩
        simp only [fstep,hg,hop,hd,o1,hos,hT.elem he,b1,c1,d1]
        rw [if_pos ⟨trivial,hcc.2⟩]
        rfl
       ·cases h
      ·cases h
     ·cases h
    ·cases h
   ·cases h
  ·cases h
 ·cases h
theorem stpL_sound {Bi:IBook} (hT:TabOk C.P T) (hA:Agr S σ) (hΦ:C.Φ=phi B) (hΨ:PsiOk C Bi) {ops:Array Oper} {o:Oper} (hst:opSt T C.lo C.st o=true) {ps:List Prop} {S':Sta} (h:stpL (std T) T B Bi C.nt ops.toList S o=some (ps,S')) (hp:Alls ps):
 ∃p σ',StepL C ops σ o (p,σ')∧p∧Agr S' σ':=by
 unfold stpL at h
 have viaW:(∀d,o.dst=some d→C.dst d)→(match wS (std T) T S o with
  |some r=>some r
  |none=>match iS (std T) T B Bi S o with
   |some r=>some r
   |none=>match bS (std T) T S o with
    |some r=>some r
    |none=>match mS (std T) T S o with
     |some r=>some r
     |none=>match fS (std T) T S o with
      |some r=>some r
      |none=>vS (std T) T B Bi S o)=some (ps,S')→∃p σ',StepL C ops σ o (p,σ')∧p∧Agr S' σ':=by
  intro hn hw
  split at hw
  ·rename_i r hr
   simp only [Option.some.injEq] at hw
   subst hw
   obtain ⟨p,σ',e1,e2,e3,_⟩:=wS_sound hT hA hn hst hr hp
   exact ⟨p,σ',.inr (.inl e1),e2,e3⟩
  ·split at hw
   ·rename_i r hr
    simp only [Option.some.injEq] at hw
    subst hw
    exact iS_sound hT hA hΦ hΨ hn hr hp
   ·split at hw
    ·rename_i r hr
     simp only [Option.some.injEq] at hw
     subst hw
     exact bS_sound hT hA hn hr hp
    ·split at hw
     ·rename_i r hr
      simp only [Option.some.injEq] at hw
      subst hw
      exact mS_sound hT hA hn hr hp
     ·split at hw
      ·rename_i r hr
       simp only [Option.some.injEq] at hw
       subst hw
       exact fS_sound hT hA hn hst hr hp
      ·obtain ⟨p,σ',e1,e2,e3⟩:=vS_sound hT hA hΦ hΨ hn hw hp
       exact ⟨p,σ',.inr (.inr (.inr (.inr (.inr (.inr e1))))),e2,e3⟩
 split at h
 ·rename_i g hgd
  have hg1:=gdS_sound hA hgd
  split at h
  ·rename_i d hd
   split at h
   ·rename_i hn
    have hdn:C.dst d:=⟨by
     simp only [opSt,hd,Bool.and_eq_true] at hst
     exact nble_le hst.1,nble_le hn⟩
    split at h
    ·rename_i qs a hlop
     split at h
     ·cases h
     ·rename_i ha1
      simp only [Option.some.injEq,Prod.mk.injEq] at h
      obtain ⟨rfl,rfl⟩:=h
      have main:∃p a',lstep C ops σ o=some (p,σ.put d (gb g) a')∧p∧(gb g=true→a'=vz σ a):=by
       cases hgb:gb g with
       |true=>
        obtain ⟨p,e1,e2⟩:=lopS_sound hT hA hΦ hgb hlop hp
        refine ⟨p,vz σ a,?_,e2,fun _=>rfl⟩
        unfold lstep
        rw [hg1,hgb,hd]
        dsimp only
        rw [e1]
        dsimp only
        rw [if_pos hdn]
       |false=>
        refine ⟨True,.val (.hole 0),?_,trivial,fun h=>by cases h⟩
        unfold lstep
        rw [hg1,hgb,hd]
        dsimp only
        rw [if_pos hdn]
      obtain ⟨p,a',e1,e2,e3⟩:=main
      exact ⟨p,_,.inl e1,e2,hA.put ha1 e3⟩
    ·exact viaW (fun d' hd'=>by rw [hd] at hd';simp only [Option.some.injEq] at hd';subst hd';exact hdn) h
   ·cases h
  ·rename_i hd
   exact viaW (fun d' hd'=>by rw [hd] at hd';cases hd') h
 ·cases h
theorem nilS_sound (hT:TabOk C.P T) (hA:Agr S σ) {o:Oper} {d:Nat} {ps:List Prop} {es:List V} {xx ng:Bool} (hlo:C.lo≤d) (h:nilS (std T) T S C.nt o=some (d,ps,es,xx,ng)) (hp:Alls ps):∃q,nilCmp C σ o=some (d,q,es,xx,ng)∧q:=by
 unfold nilS at h
 split at h
 ·cases h
 rename_i hg
 split at h
 ·rename_i bo xt x yt d' hop hd
  split at h
  case h_2=>cases h
  rename_i ng' hng
  split at h
  ·rename_i hn
   split at h
   ·rename_i e gx a he h1
    split at h
    ·rename_i o' e' dd es' qs h2
     simp only [Option.some.injEq,Prod.mk.injEq] at h
     obtain ⟨rfl,rfl,rfl,rfl,rfl⟩:=h
     rw [alls_append] at hp
     have o1:=opdS_sound hT hA h1 (geG_sound hp.1 rfl)
     obtain ⟨l1,l2,l3⟩:=lookS_sound hA h2 hp.2
     have o2:opd C.P σ xt x=some (true,vz σ a):=o1
     refine ⟨true=true∧(vz σ a).okA σ,?_,rfl,l2⟩
     simp only [nilCmp,hg,hop,hd,hng,hT.elem he,o2,l1,l3]
     rw [if_neg (by simp),if_pos ⟨hlo,nble_le hn⟩]
    ·cases h
   ·cases h
  ·cases h
 ·cases h
theorem memN_iff {l:List Nat} {t:Nat}:memN l t=true↔t∈l:=by
 induction l with
 |nil=>simp [memN]
 |cons x l ih=>
  simp only [memN]
  split
  ·rename_i h
   simp [nbeq_eq h]
  ·rename_i h
   have:t≠x:=by rintro rfl;rw [nbeq_refl] at h;cases h
   rw [ih,List.mem_cons]
   simp [this]
theorem zM_in {PS:List Nat} {o:Oper} (h:zM PS o=true):∃x∈PS,600≤x:=by
 unfold zM at h
 split at h
 ·exact ⟨_,memN_iff.1 h,by omega⟩
 ·cases h
theorem Agr.congr {S S':Sta} (hA:Agr S σ) (h:∀x,x∈S'↔x∈S):Agr S' σ:=
 ⟨fun t g a hx=>hA.on t g a ((h _).1 hx),fun t hx=>hA.off t (fun e he=>hx e ((h _).2 he))⟩
theorem stpZ_sound {PS:List Nat} (hz:C.st=true→∀x∈PS,x<600) (hT:TabOk C.P T) (hA:Agr S σ) (hΦ:C.Φ=phi B) {ops:Array Oper} {o:Oper} (hst:opSt T C.lo C.st o=true) (hzm:zM PS o=true) {ps:List Prop} {S':Sta} (h:stpZ (std T) T B C.nt ops.toList S o=some (ps,S')) (hp:Alls ps):
 ∃p σ',(StepL C ops σ o (p,σ')∨zstep C ops σ o=some (p,σ')∨kstep C σ o=some (p,σ'))∧p∧Agr S' σ':=by
 unfold stpZ at h
 split at h
 ·rename_i g hgd
  have hg1:=gdS_sound hA hgd
  split at h
  ·rename_i d hd
   split at h
   ·rename_i hn
    have hdn:C.dst d:=⟨by
     simp only [opSt,hd,Bool.and_eq_true] at hst
     exact nble_le hst.1,nble_le hn⟩
    split at h
    ·rename_i qs y hlop
     split at h
     ·rename_i hown
      simp only [Option.some.injEq,Prod.mk.injEq] at h
      obtain ⟨rfl,rfl⟩:=h
      have hst0:C.st=false:=by
       cases hh:C.st with
       |false=>rfl
       |true=>
        obtain ⟨x,hx,hx6⟩:=zM_in hzm
        have:=hz hh x hx
        omega
      rw [frzT_std]
      cases hgb:gb g with
      |false=>
       refine ⟨True,σ.put d false (.val (.hole 0)),.inl (.inl ?_),trivial,?_⟩
       ·unfold lstep
        rw [hg1,hgb,hd]
        dsimp only
        rw [if_pos hdn]
       ·have h1:Agr (putS S d g (.val y.frz)) (σ.put d (gb g) (.val (.hole 0))):=hA.put (g:=g) (a:= .val y.frz) rfl (fun h=>by rw [hgb] at h;cases h)
        rw [hgb] at h1
        refine h1.congr fun x=> ?_
        simp only [putS,mem_ins,mem_del]
        constructor
        ·rintro (h|⟨⟨h|h,h2⟩,_⟩)
         ·exact .inl h
         ·exact absurd (by rw [h]) h2.1
         ·exact .inr h
        ·rintro (h|h)
         ·exact .inl h
         ·exact .inr ⟨⟨.inr h,h.2⟩,h.2⟩
      |true=>
       obtain ⟨p,e1,e2⟩:=lopS_sound hT hA hΦ hgb hlop hp
       have el:lstep C ops σ o=some (p,σ.put d true (.val y)):=by
        unfold lstep
        rw [hg1,hgb,hd]
        dsimp only
        rw [e1]
        dsimp only [vz]
        rw [if_pos hdn]
       have eo:(σ.put d true (.val y)).own d ((σ.put d true (.val y)) d).ver=some y:=Env.own_iff'.2 ⟨by simp [Env.put],rfl,by simp [Env.put],hown⟩
       refine ⟨p∧C.st=false,_,.inr (.inl (by unfold zstep;rw [hd];dsimp only;rw [el];dsimp only;rw [eo])),⟨e2,hst0⟩,?_⟩
       have hA1:Agr (putS S d g (.val y)) (σ.put d (gb g) (.val y)):=hA.put (g:=g) (a:= .val y) rfl (fun _=>rfl)
       have hA2:=(hA1.drp (d:=d)).put (d:=d) (g:=g) (a:= .val y.frz) (a':= .val y.frz) rfl (fun _=>rfl)
       rw [hgb] at hA2
       exact hA2
     ·cases h
    ·cases h
   ·cases h
  ·cases h
 ·cases h
theorem kZ_in {PS:List Nat} {o:Oper} (h:kZ PS o=true):∃x∈PS,600≤x:=by
 unfold kZ at h
 split at h
 ·exact ⟨_,memN_iff.1 h,by omega⟩
 ·cases h
theorem stpK_sound {PS:List Nat} (hz:C.st=true→∀x∈PS,x<600) (hT:TabOk C.P T) (hA:Agr S σ) {o:Oper} (hzm:kZ PS o=true) {ps:List Prop} {S':Sta} (h:stpK (std T) T S o=some (ps,S')) (hp:Alls ps):
 ∃p σ',kstep C σ o=some (p,σ')∧p∧Agr S' σ':=by
 have hst0:C.st=false:=by
  cases hh:C.st with
  |false=>rfl
  |true=>
   obtain ⟨x,hx,hx6⟩:=kZ_in hzm
   have:=hz hh x hx
   omega
 unfold stpK at h
 split at h
 ·cases h
 rename_i hgd
 split at h
 ·rename_i t x v hop hd
  split at h
  ·rename_i gv av h1
   split at h
   ·rename_i qs y S1 h2
    split at h
    ·rename_i hfit
     simp only [Bool.and_eq_true] at hfit
     split at h
     ·rename_i gx s ver p h3
      split at h
      ·rename_i r hr
       split at h
       ·rename_i i p' z rs r' h4 h5
        split at h
        ·rename_i hsz
         simp only [Bool.and_eq_true] at hsz
         simp only [Option.some.injEq,Prod.mk.injEq] at h
         obtain ⟨rfl,rfl⟩:=h
         rw [alls_append,alls_append,alls_append] at hp
         obtain ⟨⟨⟨p1,p2⟩,p3⟩,p4⟩:=hp
         have o1:=opdS_sound hT hA h1 (geG_sound p1 rfl)
         obtain ⟨q,σ1,t1,t2,t3⟩:=takeS_sound hA h2 p2
         have o2:=opdS_sound hT t3 h3 (geG_sound p3 rfl)
         obtain ⟨⟨e1,e1'⟩,e2,e5⟩:=atRW_sound h4 p4
         have hu:=e5 _ _ h5
         subst hu
         have hb:0<y.size:=by have:=nble_le hfit.2;omega
         have hc:(fits C.P t y&&(z.size==y.size)&&y.solid&&decide (0<y.size)&& !(z.isScalar&&y.isScalar))=true:=by
          simp only [Bool.and_eq_true]
          exact ⟨⟨⟨⟨fitT_sound hT hfit.1.1,by simpa using nbeq_eq hsz.1⟩,hfit.1.2⟩,by simpa using hb⟩,hsz.2⟩
         have hos:=ownS_sound t3 hr
         refine ⟨true=true∧q∧true=true∧r.okm (i::p')∧C.st=false,_,?_,⟨rfl,t2,rfl,e2,hst0⟩,t3.bmk hr⟩
         simp only [vz] at o2
         simp only [kstep,hgd,hop,hd,o1,t1,o2,hos,e1,e1']
         rw [if_pos hc]
        ·cases h
       ·cases h
      ·cases h
     ·cases h
    ·cases h
   ·cases h
  ·cases h
 ·cases h
theorem stpN_sound {Bi:IBook} (hT:TabOk C.P T) (hA:Agr S σ) (hΦ:C.Φ=phi B) (hΨ:PsiOk C Bi) {ops:Array Oper} {o:Oper} (hst:opSt T C.lo C.st o=true) {ps:List Prop} {S':Sta} (h:stpN (std T) T B Bi C.nt ops.toList S o=some (ps,S')) (hp:Alls ps):
 ∃p σ1 σ',(StepL C ops σ o (p,σ1)∨zstep C ops σ o=some (p,σ1)∨kstep C σ o=some (p,σ1)∨nstep C σ o=some (p,σ1))∧p∧Gh σ1 σ'∧Agr S' σ':=by
 unfold stpN at h
 split at h
 ·rename_i d hop hd
  split at h
  ·cases h
  rename_i hg
  split at h
  ·rename_i hn
   split at h
   ·rename_i e he
    simp only [Option.some.injEq,Prod.mk.injEq] at h
    obtain ⟨rfl,rfl⟩:=h
    have hdn:C.dst d:=⟨by
     simp only [opSt,hd,Bool.and_eq_true] at hst
     exact nble_le hst.1,nble_le hn⟩
    refine ⟨True,_,_,.inr (.inr (.inr ?_)),trivial,.inl rfl,hA.put (d:=d) (g:=none) (a:= .val (.slc true e V.nilG [])) (a':= .val (.slc true e V.nilG [])) rfl (fun _=>rfl)⟩
    simp only [nstep,hg,hop,hd,hT.elem he]
    rw [if_pos hdn]
    rfl
   ·cases h
  ·cases h
 ·rename_i d _ hd
  split at h
  ·rename_i qs S1 hs
   split at h
   ·rename_i e d0 es ho
    simp only [Option.some.injEq,Prod.mk.injEq] at h
    obtain ⟨rfl,rfl⟩:=h
    rw [alls_append] at hp
    obtain ⟨p,σ1,e1,e2,e3⟩:=stpL_sound hT hA hΦ hΨ hst hs hp.1
    have hne:es≠[]:=fun h0=>by
     have:=hp.2 _ (List.mem_singleton.2 rfl)
     rw [h0] at this
     exact absurd this (by simp [std])
    exact ⟨p,σ1,_,.inl e1,e2,.inr ⟨d,_,e,d0,V.nilG,es,ownS_sound e3 ho,fun _=>hne,rfl⟩,(e3.drp (d:=d)).put (d:=d) (g:=none) (a:= .val (.slc true e V.nilG es)) (a':= .val (.slc true e V.nilG es)) rfl (fun _=>rfl)⟩
   ·cases h
  ·cases h
 ·cases h
theorem rS_sound (hT:TabOk C.P T) (hA:Agr S σ) {o:Oper} (hlo:∀d,o.dst=some d→C.lo≤d) {ps:List Prop} {S':Sta} (h:rS (std T) T C.nt S o=some (ps,S')) (hp:Alls ps):∃p σ',rstep C σ o=some (p,σ')∧p∧Agr S' σ':=by
 unfold rS at h
 split at h
 ·rename_i st x hi d hg hop hd
  split at h
  ·rename_i gx s ver gi m e h1 h2 he
   split at h
   ·rename_i e' dd es ho
    split at h
    ·rename_i hee hdd hdn
     simp only [Option.some.injEq,Prod.mk.injEq] at h
     obtain ⟨rfl,rfl⟩:=h
     have hee:=nbeq_eq hee
     subst hee
     rw [alls_append,alls_append] at hp
     have o1:=opdS_sound hT hA h1 (geG_sound hp.1.1 rfl)
     have o2:=intS_sound hT hA h2 (g:=none) rfl hp.1.2
     have q:=hp.2
     simp only [alls_cons] at q
     have q1:0≤m:=q.1
     have q2:m≤(es.length:Int):=q.2.1
     have hdst:C.dst d:=⟨hlo d hd,nble_le hdn⟩
     obtain ⟨k1,k2⟩:=elem_ok hT he
     have hown:=ownS_sound hA ho
     refine ⟨(true=true∧(true=true→true=true)∧0≤m∧m≤(es.length:Int)),(σ.drp s).put d true (.val (.slc true e dd ((es.take m.toNat).drop (0:Int).toNat))),?_,⟨rfl,fun _=>rfl,q1,q2⟩,?_⟩
     ·simp [rstep,hg,hop,hd,o1,o2,k1,vz,hown,k2,hdd,hdst]
     exact (hA.drp (d:=s)).put (d:=d) (g:=none) (a:= .val _) (a':= .val _) rfl (fun _=>rfl)
    ·cases h
   ·cases h
  ·cases h
 ·cases h
theorem c2L_sound {PS:List Nat} (hz:C.st=true→∀x∈PS,x<600) (hT:TabOk C.P T) (hA:Agr S σ) {o o2:Oper} {l:List Oper} (hlo:∀d,o.dst=some d→C.lo≤d) {ps:List Prop} {S':Sta} (h:c2L (std T) T PS C.nt S o (o2::l)=some (ps,S')) (hp:Alls ps):
 ∃p σ',c2step C σ o o2=some (p,σ')∧p∧Agr S' σ':=by
 simp only [c2L] at h
 split at h
 ·rename_i d hd
  split at h
  ·rename_i hm
   have hst:C.st=false:=by
    cases hh:C.st with
    |false=>rfl
    |true=>have:=hz hh _ (memN_iff.1 hm);omega
   unfold c2S at h
   split at h
   ·rename_i st x lo d' args ats hg hop hd' hg2 hop2 hd2
    rw [hd] at hd'
    simp only [Option.some.injEq] at hd'
    subst hd'
    split at h
    ·rename_i t ty gx s ver gi m e hargs hats h1 h2 he
     split at h
     ·rename_i e' dd es ti ho ht
      split at h
      ·rename_i hc
       simp only [Bool.and_eq_true,Bool.not_eq_true',Bool.or_eq_false_iff] at hc
       obtain ⟨c1,c2,c3,c4,c5,c6,c7,c8⟩:=hc
       have c1:=nbeq_eq c1
       have c3:=nbeq_eq c3
       have c4:=nbeq_eq c4
       subst c1 c3 c4
       simp only [Option.some.injEq,Prod.mk.injEq] at h
       obtain ⟨rfl,rfl⟩:=h
       rw [alls_append,alls_append] at hp
       have o1:=opdS_sound hT hA h1 (geG_sound hp.1.1 rfl)
       have o2':=intS_sound hT hA h2 (g:=none) rfl hp.1.2
       have q:=hp.2
       simp only [alls_cons] at q
       have q1:0≤m:=q.1
       have q2:m≤(es.length:Int):=q.2.1
       have hdst:C.dst t:=⟨hlo t hd,nble_le c5⟩
       obtain ⟨k1,_⟩:=elem_ok hT he
       have hc1:C.P.cellsOf e=1:=by rw [hT.cells ht];exact nbeq_eq c2
       have hne:s≠t:=fun e=>by subst e;rw [nbeq_refl] at c7;cases c7
       have hown:=ownS_sound hA ho
       refine ⟨(true=true∧(true=true→true=true)∧0≤m∧m≤(es.length:Int)),((σ.drp s).put s true (.val (.slc true e dd (((es.take m.toNat).drop (0:Int).toNat)++List.replicate ((es.length:Int)-m).toNat (.hole 1))))).put t true (.val (.hole 1)),?_,⟨rfl,fun _=>rfl,q1,q2⟩,?_⟩
       ·simp [c2step,hg,hop,hd,hg2,hop2,hargs,hats,o1,o2',k1,vz,hown,hT.zero ht,hc1,c8,hdst,hne,c6,hd2,hst]
       exact ((hA.drp (d:=s)).put (d:=s) (g:=none) (a:= .val _) (a':= .val _) rfl (fun _=>rfl)).put (d:=t) (g:=none) (a:= .val _) (a':= .val _) rfl (fun _=>rfl)
      ·cases h
     ·cases h
    ·cases h
   ·cases h
  ·cases h
 ·cases h
theorem opsIo_mem {op:Op} {x:Operand} (h:x∈opsIo op):x∈op.operands:=by
 unfold opsIo at h
 split at h
 ·rename_i args ats
  have:x∈args:=by simpa using h
  simp [Op.operands,Call.operands,this]
 ·cases h
theorem frzM_sound {PS:List Nat} (hz:C.st=true→∀x∈PS,x<600):∀(l:List Operand) (S:Sta) (σ:Env),Agr S σ→
 ∃m:List Nat,(m=[]∨C.st=false)∧(∀t∈m,t+800∈PS∧Operand.tmp t∈l)∧Agr (frzM (std T) PS S l) (frzO σ m)
 |[],S,σ,hA=>⟨[],.inl rfl,by simp,hA⟩
 |x::l,S,σ,hA=>by
  have skip:frzM (std T) PS S (x::l)=frzM (std T) PS S l→∃m:List Nat,(m=[]∨C.st=false)∧(∀t∈m,t+800∈PS∧Operand.tmp t∈x::l)∧Agr (frzM (std T) PS S (x::l)) (frzO σ m):=by
   intro e
   obtain ⟨m,h1,h2,h3⟩:=frzM_sound hz l S σ hA
   exact ⟨m,h1,fun t ht=>⟨(h2 t ht).1,List.mem_cons_of_mem _ (h2 t ht).2⟩,by rw [e];exact h3⟩
  cases x with
  |tmp t=>
   cases hm:memN PS (t+800) with
   |false=>exact skip (by simp only [frzM,hm])
   |true=>
    cases ho:ownS S t with
    |none=>exact skip (by simp only [frzM,hm,ho])
    |some y=>
     by_cases hy:∃e d es,y= .slc true e d es
     ·obtain ⟨e,d,es,rfl⟩:=hy
      have hst:C.st=false:=by
       cases hh:C.st with
       |false=>rfl
       |true=>have:=hz hh _ (memN_iff.1 hm);omega
      have hA1:Agr (putS (del t S) t none (.val (V.slc true e d es).frz)) ((σ.drp t).put t true (.val (V.slc true e d es).frz)):=(hA.drp (d:=t)).put (d:=t) (g:=none) (a:= .val (V.slc true e d es).frz) (a':= .val (V.slc true e d es).frz) rfl (fun _=>rfl)
      obtain ⟨m,h1,h2,h3⟩:=frzM_sound hz l _ _ hA1
      refine ⟨t::m,.inr hst,fun s hs=> ?_,?_⟩
      ·rcases List.mem_cons.1 hs with rfl|hs
       ·exact ⟨memN_iff.1 hm,by simp⟩
       ·exact ⟨(h2 s hs).1,List.mem_cons_of_mem _ (h2 s hs).2⟩
      ·simp only [frzM,hm,ho,frzO,ownS_sound hA ho,frzT_std]
       exact h3
     ·refine skip ?_
      simp only [frzM,hm,ho]
      split
      ·rename_i h;simp only [Option.some.injEq] at h;exact absurd ⟨_,_,_,h⟩ hy
      ·rfl
  |_=>exact skip (by simp only [frzM])
theorem evL_sound {Bi:IBook} {PS:List Nat} (hz:C.st=true→∀x∈PS,x<600) (hT:TabOk C.P T) (hΦ:C.Φ=phi B) (hΨ:PsiOk C Bi) {ops:Array Oper} {K:Sta→Prop} {K':Env→Prop} (hK:∀S σ,K S→Agr S σ→K' σ):∀(l:List Oper) (S:Sta) (σ:Env),opsSt T C.lo C.st l=true→
 evL (std T) T B Bi PS C.nt ops.toList l S K→Agr S σ→evO C ops l σ K'
 |[],S,σ,_,h,hA=>hK S σ h hA
 |o::l,S,σ,hst,h,hA=>by
  simp only [opsSt,Bool.and_eq_true] at hst
  have hlo0:∀d,o.dst=some d→C.lo≤d:=fun d hd=>by
   have:=hst.1
   simp only [opSt,hd,Bool.and_eq_true] at this
   exact nble_le this.1
  unfold evO
  simp only [evL] at h
  split at h
  ·rename_i d ps es xx ng hs
   rw [conj_iff] at h
   obtain ⟨hp,h1,h2⟩:=h
   have hd:o.dst=some d:=by
    unfold nilS at hs
    split at hs
    ·cases hs
    split at hs
    ·rename_i hd
     split at hs
     case h_2=>cases hs
     split at hs
     ·split at hs
      ·split at hs
       ·simp only [Option.some.injEq,Prod.mk.injEq] at hs
        obtain ⟨rfl,_⟩:=hs
        exact hd
       ·cases hs
      ·cases hs
     ·cases hs
    ·cases hs
   have hlo:C.lo≤d:=by
    have:=hst.1
    simp only [opSt,hd,Bool.and_eq_true] at this
    exact nble_le this.1
   obtain ⟨q,e1,e2⟩:=nilS_sound hT hA hlo hs hp
   refine .inr (.inr (.inl ⟨d,q,es,xx,ng,e1,e2,fun b hb hx=> ?_⟩))
   cases b with
   |true=>
    have:es=[]:=by
     cases es with
     |nil=>rfl
     |cons x l=>exact absurd (hb (by simp)) (by simp)
    subst this
    exact evL_sound hz hT hΦ hΨ hK l _ _ hst.2 (h1 rfl) (hA.put (g:=none) (a:= .val (.bool (!ng))) (a':= .val (.bool (true !=ng))) (by cases ng<;>rfl) (fun _=>by cases ng<;>rfl))
   |false=>
    cases xx with
    |false=>exact evL_sound hz hT hΦ hΨ hK l _ _ hst.2 h2 (hA.put (g:=none) (a:= .val (.bool ng)) (a':= .val (.bool (false !=ng))) (by cases ng<;>rfl) (fun _=>by cases ng<;>rfl))
    |true=>
     have hne:es≠[]:=fun e=>by cases hx rfl e
     refine evL_sound hz hT hΦ hΨ hK l _ _ hst.2 (h2 ?_) (hA.put (g:=none) (a:= .val (.bool ng)) (a':= .val (.bool (false !=ng))) (by cases ng<;>rfl) (fun _=>by cases ng<;>rfl))
     have:es.length≠0:=fun e=>hne (List.eq_nil_of_length_eq_zero e)
     simp [std]
     simpa using hne
  ·split at h
   ·rename_i b ps S1 S0 hs
    unfold giS at hs
    split at hs
    ·cases hs
    split at hs
    ·rename_i b' d hgd hd
     split at hs
     ·rename_i hn
      split at hs
      ·rename_i ps' S1' hi
       split at hs
       ·rename_i r hl
        simp only [Option.some.injEq,Prod.mk.injEq] at hs
        obtain ⟨rfl,rfl,rfl,rfl⟩:=hs
        have hdn:C.dst d:=⟨by
         have:=hst.1
         simp only [opSt,hd,Bool.and_eq_true] at this
         exact nble_le this.1,nble_le hn⟩
        have hg1:=gdS_sound hA hgd
        cases b' with
        |true=>
         have h1:=h.1 rfl
         rw [conj_iff] at h1
         obtain ⟨p,σ',e1,e2,e3⟩:=iS_istep hT hA hΦ hΨ (fun d' hd'=>by
          have:o.dst=some d':=hd'
          rw [hd] at this;simp only [Option.some.injEq] at this;subst this;exact hdn) hi h1.1
         refine .inr (.inl ⟨p,σ',?_,e2,evL_sound hz hT hΦ hΨ hK l _ _ hst.2 h1.2 e3⟩)
         unfold gistep
         rw [hg1]
         exact e1
        |false=>
         have h2:=h.2 rfl
         refine .inl ⟨σ,True,σ.put d false (.val (.hole 0)),_,FzR.refl,.inl (.inl ?_),trivial,.inl rfl,evL_sound hz hT hΦ hΨ hK l _ _ hst.2 h2 (hA.put (g:=some false) (a:= .val r) rfl (fun h=>by cases h))⟩
         unfold lstep
         rw [hg1,hd]
         dsimp only [gb]
         rw [if_pos hdn]
       ·cases hs
      ·cases hs
     ·cases hs
    ·cases hs
   split at h
   ·rename_i ps S' hs
    rw [conj_iff] at h
    cases l with
    |nil=>exact h.2.elim
    |cons o2 l2=>
     simp only [opsSt,Bool.and_eq_true] at hst
     obtain ⟨p,σ',e1,e2,e3⟩:=c2L_sound hz hT hA hlo0 hs h.1
     exact .inr (.inr (.inr (.inr ⟨p,σ',e1,e2,evL_sound hz hT hΦ hΨ hK l2 S' σ' hst.2.2 h.2 e3⟩)))
   split at h
   ·rename_i ps S' hs
    rw [conj_iff] at h
    split at hs
    ·obtain ⟨p,σ',e1,e2,e3⟩:=rS_sound hT hA hlo0 hs h.1
     exact .inr (.inr (.inr (.inl ⟨p,σ',e1,e2,evL_sound hz hT hΦ hΨ hK l S' σ' hst.2 h.2 e3⟩)))
    split at hs
    ·rename_i hkz
     obtain ⟨p,σ',e1,e2,e3⟩:=stpK_sound hz hT hA hkz hs h.1
     exact .inl ⟨σ,p,σ',σ',FzR.refl,.inr (.inr (.inl e1)),e2,.inl rfl,evL_sound hz hT hΦ hΨ hK l S' σ' hst.2 h.2 e3⟩
    split at hs
    ·rename_i hzm
     obtain ⟨p,σ',e1,e2,e3⟩:=stpZ_sound hz hT hA hΦ hst.1 hzm hs h.1
     exact .inl ⟨σ,p,σ',σ',FzR.refl,e1.imp id (Or.imp id .inl),e2,.inl rfl,evL_sound hz hT hΦ hΨ hK l S' σ' hst.2 h.2 e3⟩
    split at hs
    ·obtain ⟨p,σ1,σ',e1,e2,e3,e4⟩:=stpN_sound hT hA hΦ hΨ hst.1 hs h.1
     exact .inl ⟨σ,p,σ1,σ',FzR.refl,e1,e2,e3,evL_sound hz hT hΦ hΨ hK l S' σ' hst.2 h.2 e4⟩
    obtain ⟨m,m1,_,m3⟩:=frzM_sound hz (opsIo o.op) S σ hA
    obtain ⟨p,σ',e1,e2,e3⟩:=stpL_sound hT m3 hΦ hΨ hst.1 hs h.1
    exact .inl ⟨_,p,σ',σ',⟨m,m1,rfl⟩,.inl e1,e2,.inl rfl,evL_sound hz hT hΦ hΨ hK l S' σ' hst.2 h.2 e3⟩
   ·exact h.elim
def drpL:List Nat→Env→Env
 |[],σ=>σ
 |t::l,σ=>drpL l (σ.drp t)
theorem drpL_g {a:Act} {w:World}:∀(l:List Nat) (σ:Env),G C σ a w→G C (drpL l σ) a w
 |[],_,h=>h
 |t::l,σ,⟨F,O,hI⟩=>drpL_g l _ ⟨F,_,(hI.drop t).lessZ (fun _ h=>h.elim)⟩
theorem drpL_ne:∀(l:List Nat) (σ:Env) (t:Nat),t∉l→drpL l σ t=σ t
 |[],_,_,_=>rfl
 |s::l,σ,t,h=>by
  simp only [List.mem_cons,not_or] at h
  rw [drpL,drpL_ne l _ t h.2]
  simp [Env.drp,h.1]
theorem drpL_eq:∀(l:List Nat) (σ:Env) (t:Nat),t∈l→(drpL l σ t).owner=false
 |s::l,σ,t,h=>by
  by_cases ht:t∈l
  ·exact drpL_eq l _ t ht
  ·rw [drpL,drpL_ne l _ t ht]
   rcases List.mem_cons.1 h with rfl|h
   ·simp [Env.drp,E.owner]
   ·exact absurd h ht
theorem in0_at {a:A} {ks:List Nat} (h:a.in0 ks=true) {s:Nat} (hs:a.at0 s=true):s∈ks:=by
 cases a with
 |rf t v p=>have:=nbeq_eq hs;subst this;exact memN_iff.1 h
 |ad t v p=>have:=nbeq_eq hs;subst this;exact memN_iff.1 h
 |ag t v p fs=>have:=nbeq_eq hs;subst this;exact memN_iff.1 h
 |_=>simp [A.at0] at hs
theorem Agr.keep (hA:Agr S σ) (ks:List Nat):Agr (keepS ks S) (drpL ((S.map (·.1)).filter (fun t=> !memN ks t)) σ):=by
 have hin:∀t,t∈ks→t∉(S.map (·.1)).filter (fun t=> !memN ks t):=by
  intro t ht h
  have:=(List.mem_filter.1 h).2
  rw [memN_iff.2 ht] at this
  cases this
 refine ⟨fun t g a h=> ?_,fun t h=> ?_⟩
 ·obtain ⟨h1,h2,h3⟩:=mem_keep.1 h
  have h2':t∈ks:=memN_iff.1 h2
  rw [vz_congr (σ:=σ) (fun s hs=>by rw [drpL_ne _ _ _ (hin s (in0_at h3 hs))])]
  rw [drpL_ne _ _ _ (hin t h2')]
  exact hA.on t g a h1
 ·by_cases hm:t∈(S.map (·.1)).filter (fun t=> !memN ks t)
  ·exact drpL_eq _ _ _ hm
  ·rw [drpL_ne _ _ _ hm]
   by_cases hx:∃e,(t,e)∈S
   ·obtain ⟨⟨g,b⟩,hx⟩:=hx
    have hk:memN ks t=true:=by
     cases hh:memN ks t with
     |true=>rfl
     |false=>exact absurd (List.mem_filter.2 ⟨List.mem_map.2 ⟨_,hx,rfl⟩,by simp [hh]⟩) hm
    cases hb:b.in0 ks with
    |true=>exact absurd (mem_keep.2 ⟨hx,hk,hb⟩) (h (g,b))
    |false=>
     have:∃d,b.at0 d=true:=by
      cases b with
      |rf s v p=>exact ⟨s,nbeq_refl s⟩
      |ad s v p=>exact ⟨s,nbeq_refl s⟩
      |ag s v p fs=>exact ⟨s,nbeq_refl s⟩
      |_=>simp [A.in0] at hb
     obtain ⟨d,hd⟩:=this
     exact hA.ref_off hx hd
   ·exact hA.off t (fun e he=>hx ⟨e,he⟩)
theorem wholeS_sound {PS:List Nat} (hA:Agr S σ) {x:Operand} (h:wholeS PS S x=true):whole PS σ x=true:=by
 cases x with
 |tmp t=>
  simp only [wholeS] at h
  split at h
  ·rename_i v hl
   have h3:(σ t).a= .val v:=(hA.on _ _ _ (look_mem hl)).2.2 rfl
   simp only [whole,h3]
   simp only [Bool.or_eq_true] at h ⊢
   refine h.imp id (fun h=> ?_)
   simpa using memN_iff.1 h
  ·cases h
 |const v=>rfl
 |func f=>rfl
 |global g=>simp [wholeS] at h
theorem wholesS_sound {PS:List Nat} (hA:Agr S σ):∀{l:List Operand},wholesS PS S l=true→wholes PS σ l=true
 |[],_=>rfl
 |x::l,h=>by
  simp only [wholesS,Bool.and_eq_true] at h
  have h2:=wholesS_sound hA h.2
  unfold wholes at h2 ⊢
  simp only [List.all_cons,Bool.and_eq_true]
  exact ⟨wholeS_sound hA h.1,h2⟩
theorem sndL_eq:∀l:List (Nat×Operand),sndL l=l.map (·.2)
 |[]=>rfl
 |(_,x)::l=>by simp [sndL,sndL_eq l]
theorem opsL_eq {o:Op} {l:List Operand} (h:opsL o=some l):l=o.operands.toList:=by
 unfold opsL at h
 split at h
 ·simp only [Option.some.injEq] at h;subst h;rfl
 ·simp only [Option.some.injEq] at h;subst h;simp [sndL_eq,Op.operands]
 ·simp only [Option.some.injEq] at h;subst h;simp [sndL_eq,Op.operands]
 ·simp only [Option.some.injEq] at h;subst h;simp [Op.operands,Call.operands]
 ·cases h
theorem plainArgS_sound (hA:Agr S σ) {l:List Operand} (h:plainArgS S l=true):plainArg σ l=true:=by
 unfold plainArgS at h
 split at h
 ·rename_i x y
  unfold plainArg
  cases y with
  |tmp t=>
   simp only [plainS] at h
   split at h
   ·rename_i z hl
    have h3:(σ t).a= .val z:=(hA.on _ _ _ (look_mem hl)).2.2 rfl
    simp only [plain,h3]
    exact h
   ·cases h
  |_=>rfl
 ·cases h
theorem scalT_scalP {P:Program} (hT:TabOk P T) {e:TypeId} (h:scalT T e=true):scalP P e=true:=by
 unfold scalT at h
 unfold scalP
 split at h
 ·rename_i k c z ht
  rw [hT.kind (by unfold kindT;rw [ht])]
  rfl
 ·rename_i c z ht
  rw [hT.bool (by unfold isBoolT;rw [ht])]
  simp
 ·rename_i c z ht
  rw [hT.str (by unfold isStrT;rw [ht])]
  simp
 ·cases h
theorem ownArgS_sound (hT:TabOk C.P T) (hA:Agr S σ) {l:List Operand} {ts:List TypeId} (h:ownArgS T S l ts=true):ownArg C σ l ts=true:=by
 unfold ownArgS at h
 split at h
 ·rename_i v u t t'
  simp only [Bool.and_eq_true] at h
  obtain ⟨⟨h1,h2⟩,h3⟩:=h
  simp only [ownArg,Bool.and_eq_true]
  refine ⟨⟨?_,?_⟩,?_⟩
  ·split at h1
   ·rename_i z hl
    have h4:(σ u).a= .val z:=(hA.on _ _ _ (look_mem hl)).2.2 rfl
    rw [h4]
    exact h1
   ·cases h1
  ·simp only [Bool.not_eq_true'] at h2
   have:v≠u:=fun e=>by
    rw [e] at h2
    simp [nbeq] at h2
   simpa using this
  ·split at h3
   ·rename_i e he
    rw [hT.elem he]
    exact scalT_scalP hT h3
   ·cases h3
 ·cases h
theorem pS_sound {PS:List Nat} (hT:TabOk C.P T) (hA:Agr S σ) {o:Oper} (hst:opSt T C.lo C.st o=true) {ps:List Prop} {S':Sta} (hn:∀d,o.dst=some d→C.dst d) (h:pS (std T) T PS S o=some (ps,S')) (hp:Alls ps):
 ∃p σ',pstep C PS σ o=some (p,σ')∧p∧Agr S' σ':=by
 unfold pS at h
 split at h
 ·rename_i l hl
  split at h
  ·rename_i hw
   have hw':=wholesS_sound hA hw
   rw [opsL_eq hl] at hw'
   split at h
   ·cases h
   rename_i hg
   split at h
   ·rename_i x d hop hd
    split at h
    ·rename_i gx a h1
     split at h
     ·rename_i qs y S1 h2
      split at h
      ·cases h
      rename_i hnh
      simp only [Option.some.injEq,Prod.mk.injEq] at h
      obtain ⟨rfl,rfl⟩:=h
      rw [alls_append] at hp
      have o1:=opdS_sound hT hA h1 (geG_sound hp.1 rfl)
      obtain ⟨q,σ1,t1,t2,t3⟩:=takeS_sound hA h2 hp.2
      refine ⟨true=true∧q,_,?_,⟨rfl,t2⟩,t3.put (d:=d) (g:=none) (a:= .val y) (a':= .val y) rfl (fun _=>rfl)⟩
      unfold pstep
      rw [hw',if_pos rfl]
      simp only [hg,hop,hd,o1,t1]
      rw [if_pos (by simp [hn d hd,hnh])]
      rfl
     ·cases h
    ·cases h
   ·rename_i args ats d hop hd
    split at h
    ·rename_i hpl
     obtain ⟨p,σ',h1,h2,h3,_⟩:=wS_sound hT hA hn hst h hp
     refine ⟨p,σ',?_,h2,h3⟩
     unfold pstep
     rw [hw',if_pos rfl]
     simp only [hg,hop,hd]
     rw [if_pos (by rw [Bool.or_eq_true];rw [Bool.or_eq_true] at hpl;exact hpl.imp (plainArgS_sound hA) (ownArgS_sound hT hA))]
     exact h1
    ·cases h
   ·rename_i hna hnb
    obtain ⟨p,σ',h1,h2,h3⟩:=mS_mstep hT hA hn h hp
    refine ⟨p,σ',?_,h2,h3⟩
    unfold pstep
    rw [hw',if_pos rfl]
    split
    ·rename_i x d _ hop hd
     exact absurd hd (hna x d hop)
    ·rename_i args ats d _ hop hd
     exact absurd hd (hnb args ats d hop)
    ·exact h1
  ·cases h
 ·cases h
theorem refIn_false {PS:List Nat} {a:A} (h:refIn PS a=false) {s ver:Nat} (hr:(vz σ a).refs=some (s,ver)):s∉PS:=by
 intro hs
 have:=memN_iff.2 hs
 cases a<;>simp_all [refIn,vz,A.refs]
theorem zM_k {T:Tab} {PS:List Nat} {o:Oper} (h:zM PS o=true):kM T PS o=true:=by
 have h':=h
 unfold zM at h
 split at h
 ·rename_i f ats args d hop hd
  unfold kM
  rw [hop]
  simp [h']
 ·cases h
theorem stpM'_sound {Bi:IBook} {PS:List Nat} (hT:TabOk C.P T) (hA:Agr S σ) (hΦ:C.Φ=phi B) (hΨ:PsiOk C Bi) {ops:Array Oper} {o:Oper} (hst:opSt T C.lo C.st o=true) (has:∀x,o.op= .assign x→∀d,o.dst=some d→d∉PS) (hz:C.st=true→∀x∈PS,x<600) (hlb:lateB PS o=false) {ps:List Prop} {S':Sta} (h:stpM' (std T) T B Bi PS C.nt ops.toList S o=some (ps,S')) (hp:Alls ps):
 ∃p σ',StepM C ops PS (kM T PS o) σ o p σ'∧p∧Agr S' σ':=by
 have nlb:∀{p:Prop},lateB PS o=true→p:=fun h=>by rw [hlb] at h;cases h
 unfold stpM' at h
 split at h
 ·rename_i g hgd
  have hg1:=gdS_sound hA hgd
  split at h
  ·rename_i d hd
   split at h
   ·rename_i hn
    have hdn:C.dst d:=⟨by
     simp only [opSt,hd,Bool.and_eq_true] at hst
     exact nble_le hst.1,nble_le hn⟩
    split at h
    ·rename_i qs a hlop
     split at h
     ·rename_i hzm
      split at h
      ·rename_i y
       split at h
       ·rename_i hown
        simp only [Option.some.injEq,Prod.mk.injEq] at h
        obtain ⟨rfl,rfl⟩:=h
        have hst0:C.st=false:=by
         cases hh:C.st with
         |false=>rfl
         |true=>
          obtain ⟨x,hx,hx6⟩:=zM_in hzm
          have:=hz hh x hx
          omega
        obtain ⟨p,e1,e2⟩:=lopS_sound hT hA hΦ (g:=none) rfl hlop hp
        have el:lstep C ops σ o=some (p,σ.put d true (.val y)):=by
         unfold lstep
         rw [hg1,hd]
         dsimp only [gb]
         rw [e1]
         dsimp only [vz]
         rw [if_pos hdn]
        have eo:(σ.put d true (.val y)).own d ((σ.put d true (.val y)) d).ver=some y:=Env.own_iff'.2 ⟨by simp [Env.put],rfl,by simp [Env.put],hown⟩
        refine ⟨p∧C.st=false,_,.inl ⟨zM_k hzm,.inr (.inr (.inr (.inl (by unfold zstep;rw [hd];dsimp only;rw [el];dsimp only;rw [eo])))),nlb⟩,⟨e2,hst0⟩,?_⟩
        have hA1:Agr (putS S d none (.val y)) (σ.put d true (.val y)):=hA.put (g:=none) (a:= .val y) rfl (fun _=>rfl)
        rw [frzT_std]
        exact (hA1.drp (d:=d)).put (d:=d) (g:=none) (a:= .val y.frz) (a':= .val y.frz) rfl (fun _=>rfl)
       ·cases h
      ·cases h
     split at h
     ·cases h
     ·rename_i hat
      simp only [Bool.or_eq_false_iff] at hat
      obtain ⟨⟨ha1,ha3⟩,ha2⟩:=hat
      simp only [Option.some.injEq,Prod.mk.injEq] at h
      obtain ⟨rfl,rfl⟩:=h
      have main:∃p a',lstep C ops σ o=some (p,σ.put d (gb g) a')∧p∧(gb g=true→a'=vz σ a)∧(∀s ver,a'.refs=some (s,ver)→s∉PS):=by
       cases hgb:gb g with
       |true=>
        obtain ⟨p,e1,e2⟩:=lopS_sound hT hA hΦ hgb hlop hp
        refine ⟨p,vz σ a,?_,e2,fun _=>rfl,fun s ver hr=>refIn_false ha3 hr⟩
        unfold lstep
        rw [hg1,hgb,hd]
        dsimp only
        rw [e1]
        dsimp only
        rw [if_pos hdn]
       |false=>
        refine ⟨True,.val (.hole 0),?_,trivial,fun h=>(by cases h),fun s ver hr=>by simp [A.refs] at hr⟩
        unfold lstep
        rw [hg1,hgb,hd]
        dsimp only
        rw [if_pos hdn]
      obtain ⟨p,a',e1,e2,e3,e4⟩:=main
      have hro:RefOk PS (σ.put d (gb g) a') o:=by
       intro d' hd' s ver hr
       rw [hd] at hd';simp only [Option.some.injEq] at hd';subst hd'
       simp only [Env.put,if_true] at hr
       exact e4 s ver hr
      refine ⟨p,_,?_,e2,hA.put ha1 e3⟩
      cases hk:kM T PS o with
      |true=>exact .inl ⟨rfl,.inl ⟨e1,hro⟩,nlb⟩
      |false=>
       rw [hk] at ha2
       have:ownE (look S d)=false:=by simpa using ha2
       exact .inr ⟨rfl,d,hd,ownE_sound hA this,.inl ⟨e1,hro⟩,nlb⟩
    ·split at h
     ·rename_i hk
      have hdd:∀d',o.dst=some d'→C.dst d':=fun d' hd'=>by rw [hd] at hd';simp only [Option.some.injEq] at hd';subst hd';exact hdn
      split at h
      ·rename_i r hr
       simp only [Option.some.injEq] at h
       subst h
       obtain ⟨p,σ',e1,e2,e3,_⟩:=wS_sound hT hA hdd hst hr hp
       exact ⟨p,σ',.inl ⟨hk,.inr (.inl ⟨e1,has⟩),nlb⟩,e2,e3⟩
      ·obtain ⟨p,σ',e1,e2,e3⟩:=vS_sound hT hA hΦ hΨ hdd h hp
       exact ⟨p,σ',.inl ⟨hk,.inr (.inr (.inl e1)),nlb⟩,e2,e3⟩
     ·rename_i hk
      split at h
      ·cases h
      ·rename_i how
       obtain ⟨p,σ',e1,e2,e3⟩:=pS_sound hT hA hst (fun d' hd'=>by rw [hd] at hd';simp only [Option.some.injEq] at hd';subst hd';exact hdn) h hp
       exact ⟨p,σ',.inr ⟨by simpa using hk,d,hd,ownE_sound hA how,.inr e1,nlb⟩,e2,e3⟩
   ·cases h
  ·rename_i hd
   obtain ⟨p,σ',e1,e2,e3,_,_,e6⟩:=wS_sound hT hA (fun d' hd'=>by rw [hd] at hd';cases hd') hst h hp
   have hk:kM T PS o=true:=by
    unfold kM
    split
    ·rename_i t hop
     split
     ·exfalso
      unfold wstep at e1
      rw [hop,hd] at e1
      cases hg:o.guard<;>simp [hg] at e1
     ·exact e6 hd
    ·rename_i args ats hop
     have:=e6 hd
     split
     ·rename_i hd2
      rw [hd] at hd2;cases hd2
     ·exact this
    ·rename_i k args ats hop
     have:=e6 hd
     simp [kO,kT,hop] at this
    ·exact e6 hd
   exact ⟨p,σ',.inl ⟨hk,.inr (.inl ⟨e1,has⟩),nlb⟩,e2,e3⟩
 ·cases h
theorem norefO_sound {PS:List Nat} (hA:Agr S σ) {t:Nat} (h:norefO PS S (.tmp t)=true):(∀s v,(σ t).a.refs=some (s,v)→s+800∉PS)∧∀x,(σ t).a= .val x→x.owned=true→t+800∉PS:=by
 have nm:∀{k:Nat},(!memN PS k)=true→k∉PS:=fun h hm=>by rw [memN_iff.2 hm] at h;cases h
 simp only [norefO] at h
 split at h
 ·rename_i x hl
  obtain ⟨_,_,e3⟩:=hA.on _ _ _ (look_mem hl)
  have e:=e3 rfl
  simp only [vz] at e
  rw [e]
  refine ⟨fun s v hr=>by simp [A.refs] at hr,fun y hy ho=> ?_⟩
  simp only [A.val.injEq] at hy
  subst hy
  rw [ho] at h
  exact nm (by simpa using h)
 ·rename_i x hl
  obtain ⟨_,_,e3⟩:=hA.on _ _ _ (look_mem hl)
  have e:=e3 rfl
  simp only [vz] at e
  rw [e]
  exact ⟨fun s v hr=>by simp [A.refs] at hr,fun y hy=>by cases hy⟩
 ·rename_i s0 v0 p0 hl
  obtain ⟨_,_,e3⟩:=hA.on _ _ _ (look_mem hl)
  have e:=e3 rfl
  simp only [vz] at e
  rw [e]
  refine ⟨fun s v hr=> ?_,fun y hy=>by cases hy⟩
  simp only [A.refs,Option.some.injEq,Prod.mk.injEq] at hr
  rw [←hr.1];exact nm h
 ·rename_i s0 v0 p0 hl
  obtain ⟨_,_,e3⟩:=hA.on _ _ _ (look_mem hl)
  have e:=e3 rfl
  simp only [vz] at e
  rw [e]
  refine ⟨fun s v hr=> ?_,fun y hy=>by cases hy⟩
  simp only [A.refs,Option.some.injEq,Prod.mk.injEq] at hr
  rw [←hr.1];exact nm h
 ·cases h
theorem norefS_mem {PS:List Nat}:∀{l:List Operand},norefS PS S l=true→∀x∈l,norefO PS S x=true
 |[],_,x,hx=>by cases hx
 |y::l,h,x,hx=>by
  simp only [norefS,Bool.and_eq_true] at h
  rcases List.mem_cons.1 hx with rfl|hx
  ·exact h.1
  ·exact norefS_mem h.2 x hx
theorem lateStS_sound {PS:List Nat} (hA:Agr S σ) {o:Oper} (hg:o.guard=none) (hd:o.dst=none) (h:lateStS PS S o=true):LateSt PS σ o:=by
 unfold lateStS at h
 split at h
 ·rename_i t tx tv hop
  split at h
  ·rename_i y hly
   simp only [Bool.and_eq_true,Bool.not_eq_true'] at h
   obtain ⟨hy,h⟩:=h
   obtain ⟨_,_,y3⟩:=hA.on _ _ _ (look_mem hly)
   have ey:=y3 rfl
   simp only [vz] at ey
   split at h
   ·rename_i s v p hlx
    simp only [Bool.and_eq_true] at h
    obtain ⟨h1,h2⟩:=h
    obtain ⟨_,_,x3⟩:=hA.on _ _ _ (look_mem hlx)
    have ex:=x3 rfl
    simp only [vz] at ex
    split at h2
    ·rename_i r hr
     exact ⟨t,tx,tv,s,(σ s).ver,p,r,y,hg,hd,hop,.inl ex,ownS_sound hA hr,memN_iff.1 h1,ey,hy⟩
    ·cases h2
   ·rename_i s v p hlx
    simp only [Bool.and_eq_true] at h
    obtain ⟨h1,h2⟩:=h
    obtain ⟨_,_,x3⟩:=hA.on _ _ _ (look_mem hlx)
    have ex:=x3 rfl
    simp only [vz] at ex
    split at h2
    ·rename_i r hr
     exact ⟨t,tx,tv,s,(σ s).ver,p,r,y,hg,hd,hop,.inr (.inl ex),ownS_sound hA hr,memN_iff.1 h1,ey,hy⟩
    ·cases h2
   ·rename_i x hlx
    simp only [Bool.and_eq_true] at h
    obtain ⟨h1,h2⟩:=h
    split at h2
    ·rename_i r hr
     exact ⟨t,tx,tv,tx,(σ tx).ver,[],r,y,hg,hd,hop,.inr (.inr ⟨rfl,rfl⟩),ownS_sound hA hr,memN_iff.1 h1,ey,hy⟩
    ·cases h2
   ·cases h
  ·cases h
 ·cases h
theorem lateS_sound {PS:List Nat} (hT:TabOk C.P T) (hA:Agr S σ) {o:Oper} (hg:o.guard=none) (h:lateS T PS S o=true):LateA C PS σ o:=by
 unfold lateS at h
 split at h
 ·rename_i args ats hop
  split at h
  ·rename_i tx ty t t' hargs hats
   split at h
   ·rename_i s v i q z hlx hly
    simp only [Bool.and_eq_true,Bool.not_eq_true'] at h
    obtain ⟨⟨⟨h1,h2⟩,h4⟩,h3⟩:=h
    obtain ⟨_,_,x3⟩:=hA.on _ _ _ (look_mem hlx)
    obtain ⟨_,_,y3⟩:=hA.on _ _ _ (look_mem hly)
    have ex:=x3 rfl
    have ey:=y3 rfl
    simp only [vz] at ex ey
    have hr:∃r,ownS S s=some r∧∀fs,r≠.tup fs:=by
     split at h1
     ·rename_i hh;exact ⟨_,hh,fun fs e=>by cases e⟩
     ·rename_i hh;exact ⟨_,hh,fun fs e=>by cases e⟩
     ·rename_i hh;exact ⟨_,hh,fun fs e=>by cases e⟩
     ·cases h1
    obtain ⟨r,hr1,hr2⟩:=hr
    refine ⟨args,ats,tx,ty,t,t',s,(σ s).ver,i,q,r,z,hg,hop,hargs,hats,fun e he=> ?_,ex,ownS_sound hA hr1,hr2,fun e=>(by subst e;rw [nbeq_refl] at h2;cases h2),ey,memN_iff.1 h4⟩
    split at h3
    ·rename_i e' he'
     have hee:=hT.elem he'
     rw [he] at hee
     simp only [Option.some.injEq] at hee
     subst hee
     obtain ⟨te,hte⟩:∃te,tget T e=some te:=by
      unfold scalT at h3
      cases hh:tget T e with
      |none=>rw [hh] at h3;cases h3
      |some te=>exact ⟨te,rfl⟩
     have hsc:scalP C.P e=scalT T e:=by
      have hg:=hT.got hte
      have i1:intT C.P e=(wantT te).int:=congrArg Got.int hg
      have i2:isStr C.P e=(wantT te).str:=congrArg Got.str hg
      have i3:boolT C.P e=(wantT te).bool:=congrArg Got.bool hg
      unfold scalP scalT
      rw [i1,i2,i3,hte]
      obtain ⟨k,c,z⟩:=te
      cases k<;>rfl
     rw [hsc,h3]
    ·cases h3
   ·cases h
  ·cases h
 ·cases h
theorem valsIo_sound (hA:Agr S σ):∀{l:List Operand},valsIo S l=true→∀t,Operand.tmp t∈l→∃z,(σ t).a= .val z
 |[],_,t,ht=>by cases ht
 |x::l,h,t,ht=>by
  have hl:valsIo S l=true:=by
   cases x with
   |tmp u=>simp only [valsIo,Bool.and_eq_true] at h;exact h.2
   |_=>simpa only [valsIo] using h
  rcases List.mem_cons.1 ht with e|ht
  ·subst e
   simp only [valsIo,Bool.and_eq_true] at h
   have h1:=h.1
   split at h1
   ·rename_i z hz
    obtain ⟨_,_,x3⟩:=hA.on _ _ _ (look_mem hz)
    have ex:=x3 rfl
    simp only [vz] at ex
    exact ⟨z,ex⟩
   ·cases h1
  ·exact valsIo_sound hA hl t ht
theorem lateIoS_sound {Bi:IBook} {PS:List Nat} (hA:Agr S σ) (hΨ:PsiOk C Bi) {o:Oper} {d:Nat} (hg:o.guard=none) (hd:o.dst=some d) (h:lateIoS Bi PS S o=true):LateIo C PS σ o:=by
 unfold lateIoS at h
 split at h
 ·rename_i k args ats hop
  split at h
  ·rename_i j c hIk
   split at h
   ·rename_i x hx
    simp only [Bool.and_eq_true] at h
    obtain ⟨h1,h3⟩:=h
    obtain ⟨c',hc'⟩:∃c',C.Ψ k=some (j,false,c'):=⟨fun args=>match c args with
     |some (ps,r,y)=>some (Alls ps,r,y)
     |none=>none,by rw [hΨ.1];simp only [psi,hIk]⟩
    split at h1
    ·rename_i z hz
     simp only [Bool.and_eq_true] at h1
     obtain ⟨_,_,x3⟩:=hA.on _ _ _ (look_mem hz)
     have ex:=x3 rfl
     simp only [vz] at ex
     exact ⟨k,args,ats,j,_,x,(σ x).g,x,(σ x).ver,d,hg,hop,hd,hc',hx,by simp only [opd,ex];rw [if_pos h1.1],memN_iff.1 h1.2,valsIo_sound hA h3⟩
    ·rename_i s v hz
     obtain ⟨_,_,x3⟩:=hA.on _ _ _ (look_mem hz)
     have ex:=x3 rfl
     simp only [vz] at ex
     exact ⟨k,args,ats,j,_,x,(σ x).g,s,(σ s).ver,d,hg,hop,hd,hc',hx,by simp only [opd,ex],memN_iff.1 h1,valsIo_sound hA h3⟩
    ·cases h1
   ·cases h
  ·cases h
 ·cases h
theorem stpM_sound {Bi:IBook} {PS:List Nat} (hT:TabOk C.P T) (hA:Agr S σ) (hΦ:C.Φ=phi B) (hΨ:PsiOk C Bi) {ops:Array Oper} {o:Oper} (hst:opSt T C.lo C.st o=true) (has:∀x,o.op= .assign x→∀d,o.dst=some d→d∉PS) (hz:C.st=true→∀x∈PS,x<600) {ps:List Prop} {S':Sta} (h:stpM (std T) T B Bi PS C.nt ops.toList S o=some (ps,S')) (hp:Alls ps):
 ∃p σ',StepM C ops PS (kM T PS o) σ o p σ'∧p∧Agr S' σ':=by
 unfold stpM at h
 split at h
 ·rename_i d hd
  split at h
  ·rename_i hm
   unfold stpW at h
   split at h
   ·rename_i hg hn
    have hdn:C.dst d:=⟨by
     simp only [opSt,hd,Bool.and_eq_true] at hst
     exact nble_le hst.1,nble_le hn⟩
    split at h
    ·rename_i hk
     split at h
     ·rename_i hls
      obtain ⟨p,σ',e1,e2,e3,_⟩:=wS_sound hT hA (fun d' hd'=>by rw [hd] at hd';simp only [Option.some.injEq] at hd';subst hd';exact hdn) hst h hp
      exact ⟨p,σ',.inl ⟨hk,.inr (.inl ⟨e1,has⟩),fun _=> .inl ⟨e1,.inl (lateS_sound hT hA hg hls)⟩⟩,e2,e3⟩
     ·split at h
      ·rename_i hls
       obtain ⟨m,m1,m2,m3⟩:=frzM_sound hz (opsIo o.op) S σ hA
       obtain ⟨p,σ',e1,e2,e3⟩:=iS_istep hT m3 hΦ hΨ (fun d' hd'=>by rw [hd] at hd';simp only [Option.some.injEq] at hd';subst hd';exact hdn) h hp
       have hl:=lateIoS_sound m3 hΨ hg hd hls
       have hio:StepIo C PS σ o p σ':=⟨m,m1,fun t ht=>⟨(m2 t ht).1,opsIo_mem (m2 t ht).2⟩,e1,hl⟩
       exact ⟨p,σ',.inl ⟨hk,.inr (.inr (.inr (.inr hio))),fun _=> .inr hio⟩,e2,e3⟩
      ·cases h
    ·rename_i hk
     split at h
     ·rename_i hnr
      split at h
      ·rename_i qs a hlop
       split at h
       ·cases h
       ·rename_i hat
        simp only [Bool.or_eq_false_iff] at hat
        obtain ⟨⟨ha1,ha3⟩,ha2⟩:=hat
        simp only [Option.some.injEq,Prod.mk.injEq] at h
        obtain ⟨rfl,rfl⟩:=h
        obtain ⟨p,e1,e2⟩:=lopS_sound hT hA hΦ (g:=none) rfl hlop hp
        have el:lstep C ops σ o=some (p,σ.put d true (vz σ a)):=by
         unfold lstep
         have:gd ops σ o=some true:=by unfold gd;rw [hg]
         rw [this,hd]
         dsimp only
         rw [e1]
         dsimp only
         rw [if_pos hdn]
        have hro:RefOk PS (σ.put d true (vz σ a)) o:=by
         intro d' hd' s ver hr
         rw [hd] at hd';simp only [Option.some.injEq] at hd';subst hd'
         simp only [Env.put,if_true] at hr
         exact refIn_false ha3 hr
        refine ⟨p,_,.inr ⟨by simpa using hk,d,hd,ownE_sound hA ha2,.inl ⟨el,hro⟩,fun _=>⟨⟨hg,fun t ht=>norefO_sound hA (norefS_mem hnr _ (by simpa using ht))⟩,el,hro⟩⟩,e2,hA.put (g:=none) ha1 (fun _=>rfl)⟩
      ·cases h
     ·cases h
   ·cases h
  ·rename_i hm
   refine stpM'_sound hT hA hΦ hΨ hst has hz ?_ h hp
   unfold lateB
   rw [hd]
   dsimp only
   cases hc:PS.contains (d+800) with
   |false=>rfl
   |true=>
    have:=memN_iff.2 (show d+800∈PS by simpa using hc)
    rw [this] at hm;cases hm
 ·rename_i hd
  split at h
  ·rename_i hm
   split at h
   ·rename_i hg hk
    simp only [Bool.and_eq_true] at hk
    obtain ⟨p,σ',e1,e2,e3,_⟩:=wS_sound hT hA (fun d' hd'=>by rw [hd] at hd';cases hd') hst h hp
    exact ⟨p,σ',.inl ⟨hk.1,.inr (.inl ⟨e1,has⟩),fun _=> .inl ⟨e1,.inr (lateStS_sound hA hg hd hk.2)⟩⟩,e2,e3⟩
   ·cases h
  ·rename_i hm
   refine stpM'_sound hT hA hΦ hΨ hst has hz ?_ h hp
   unfold lateB
   rw [hd]
   dsimp only
   cases hc:PS.contains 998 with
   |false=>rfl
   |true=>
    have:=memN_iff.2 (show 998∈PS by simpa using hc)
    rw [this] at hm;cases hm
def asgOk (PS:List Nat):List Oper→Bool
 |[]=>true
 |o::l=>(match o.op,o.dst with
  | .assign _,some d=> !memN PS d
  |_,_=>true)&&asgOk PS l
theorem evP_sound {Bi:IBook} {PS:List Nat} (hT:TabOk C.P T) (hΦ:C.Φ=phi B) (hΨ:PsiOk C Bi) {ops:Array Oper} {K:Sta→Prop} {K':Env→Prop} (hK:∀S σ,K S→Agr S σ→K' σ) (hz:C.st=true→∀x∈PS,x<600):∀(l:List Oper) (S:Sta) (σ:Env),opsSt T C.lo C.st l=true→asgOk PS l=true→evP (std T) T B Bi PS C.nt ops.toList l S K→Agr S σ→evM C ops PS l (l.map (kM T PS)) σ K'
 |[],S,σ,_,_,h,hA=>hK S σ h hA
 |o::l,S,σ,hst,has,h,hA=>by
  simp only [opsSt,Bool.and_eq_true] at hst
  simp only [asgOk,Bool.and_eq_true] at has
  simp only [evP] at h
  split at h
  ·rename_i ps S' hs
   rw [conj_iff] at h
   obtain ⟨p,σ',e1,e2,e3⟩:=stpM_sound hT hA hΦ hΨ hst.1 (fun x hop d hd hm=>by
    have:=has.1
    rw [hop,hd] at this
    simp [memN_iff.2 hm] at this) hz hs h.1
   exact ⟨p,σ',e1,e2,evP_sound hT hΦ hΨ hK hz l S' σ' hst.2 has.2 h.2 e3⟩
  ·exact h.elim
theorem opsSt_iff {lo:Nat} {st:Bool}:∀{l:List Oper},opsSt T lo st l=true↔∀o∈l,opSt T lo st o=true
 |[]=>by simp [opsSt]
 |x::l=>by simp only [opsSt,Bool.and_eq_true,opsSt_iff (l:=l),List.mem_cons,forall_eq_or_imp]
def asg1 (PS:List Nat) (o:Oper):Bool:=match o.op,o.dst with
 | .assign _,some d=> !memN PS d
 |_,_=>true
theorem asgOk_iff {PS:List Nat}:∀{l:List Oper},asgOk PS l=true↔∀o∈l,asg1 PS o=true
 |[]=>by simp [asgOk]
 |x::l=>by
  simp only [asgOk,Bool.and_eq_true,asgOk_iff (l:=l),List.mem_cons,forall_eq_or_imp]
  exact Iff.rfl
theorem nthsO_mem {ops:List Oper}:∀{H:List Nat} {o:Oper},o∈nthsO ops H→o∈ops
 |[],o,h=>by simp [nthsO] at h
 |i::H,o,h=>by
  simp only [nthsO] at h
  split at h
  ·rename_i x hx
   rcases List.mem_cons.1 h with rfl|h
   ·exact List.mem_of_getElem? hx
   ·exact nthsO_mem h
  ·exact nthsO_mem h
theorem kM_moves {PS:List Nat} {ops:Array Oper}:∀{H:List Nat} {l:Array Bool},chkH ops H l=true→(nthsO ops.toList H).map (kM T PS)=(nthsO ops.toList H).map (fun _=>false)
 |[],_,_=>rfl
 |i::H,l,hc=>by
  simp only [chkH,Bool.and_eq_true] at hc
  have ih:=kM_moves (PS:=PS) hc.2
  have h1:=hc.1.1.1
  cases ho:ops[i]? with
  |none=>rw [ho] at h1;cases h1
  |some o=>
   rw [ho] at h1
   simp only [Bool.and_eq_true] at h1
   have ho':ops.toList[i]? =some o:=by simpa using ho
   simp only [nthsO,ho',List.map_cons,ih]
   congr 1
   have hm:=h1.1
   unfold kM
   cases hop:o.op<;>simp [isMove,hop] at hm
   simp [kO,kT,hop]
theorem kM_rest {PS:List Nat} {ops:Array Oper}:∀(R:List Nat),(∀i∈R,i<ops.size)→(nthsO ops.toList R).map (kM T PS)=R.map fun i=>(ops.toList.map (kM T PS)).getD i true
 |[],_=>rfl
 |i::R,hr=>by
  have hi:i<ops.size:=hr i (by simp)
  have ho:ops.toList[i]? =some ops[i]:=by simp [hi]
  simp only [nthsO,ho,List.map_cons,kM_rest R (fun j hj=>hr j (by simp [hj]))]
  congr 1
  simp [List.getD_eq_getElem?_getD,List.getElem?_map,hi]
theorem appS_eq:∀a b:List Oper,appS a b=a++b
 |[],_=>rfl
 |x::a,b=>by simp [appS,appS_eq a b]
theorem nthO_eq:∀(l:List Oper) (i:Nat),nthO l i=l[i]?
 |[],_=>by simp [nthO]
 |_::_,0=>rfl
 |_::l,i+1=>by simp [nthO,nthO_eq l i]
theorem nthsS_eq (ops:List Oper):∀H:List Nat,nthsS ops H=nthsO ops H
 |[]=>rfl
 |i::H=>by
  simp only [nthsS,nthsO,nthO_eq,nthsS_eq ops H]
  all_goals (cases ops[i]? <;>rfl)
theorem restS_eq (H:List Nat):∀(l:List Oper) (i:Nat) (ops:List Oper),(∀j,l[j]? =ops[i+j]?)→restS H i l=nthsO ops (((List.range l.length).map (i+ ·)).filter fun k=> !H.contains k)
 |[],i,ops,_=>by simp [restS,nthsO]
 |o::l,i,ops,h=>by
  have e:(List.range (o::l).length).map (i+ ·)=i::(List.range l.length).map (i+1+ ·):=by
   rw [List.length_cons,List.range_succ_eq_map]
   simp only [List.map_cons,List.map_map,Nat.add_zero,List.cons.injEq,true_and]
   apply List.map_congr_left
   intro j _
   simp only [Function.comp]
   omega
  have ih:=restS_eq H l (i+1) ops (fun j=>by have:=h (j+1);simpa [Nat.add_assoc,Nat.add_comm 1 j] using this)
  have hi:ops[i]? =some o:=by simpa using (h 0).symm
  rw [e]
  simp only [restS,List.filter_cons]
  cases hm:memN H i with
  |true=>
   have:H.contains i=true:=by simpa using memN_iff.1 hm
   rw [this]
   exact ih
  |false=>
   have:H.contains i=false:=by
    cases hh:H.contains i with
    |false=>rfl
    |true=>rw [memN_iff.2 (by simpa using hh)] at hm;cases hm
   rw [this]
   simp only [Bool.not_false,if_true,nthsO,hi]
   rw [ih]
theorem ordS_eq (ops:Array Oper) (H:List Nat):ordS ops.toList H=nthsO ops.toList H++nthsO ops.toList (restI ops.size H):=by
 have h0:(List.range ops.toList.length).map (0+ ·)=List.range ops.size:=by simp
 have h1:=restS_eq H ops.toList 0 ops.toList (fun j=>by simp)
 rw [h0] at h1
 cases H with
 |nil=>
  have h2:∀(l:List Oper) (i:Nat),restS [] i l=l:=by
   intro l
   induction l with
   |nil=>intro i;rfl
   |cons o l ih=>intro i;simp [restS,memN,ih]
  rw [h2] at h1
  exact h1
 |cons i H=>
  show appS _ _=_
  rw [appS_eq,nthsS_eq,h1]
  rfl
theorem allOff_sound:∀{l:List Nat},allOff l S=true→Agr S σ→∀s∈l,(σ s).owner=false
 |[],_,_,s,hs=>by cases hs
 |t::l,h,hA,s,hs=>by
  simp only [allOff,Bool.and_eq_true] at h
  rcases List.mem_cons.1 hs with rfl|hs
  ·have h1:=h.1
   split at h1
   ·rename_i hl
    exact hA.off _ (look_none hl)
   ·cases h1
  ·exact allOff_sound h.2 hA s hs
def chkCode (T:Tab) (ks:List Nat) (lo:Nat) (st:Bool):Code→Bool
 | .region id ops draw=>(!draw||(match psOf ks id,hdOf ks id with
  |[],[]=>chk ops (ops.toList.map (kO T))
  |ps,hs=>chkX ops ps (ops.toList.map (kM T ps)) hs&&chkU ops ps&&asgOk ps ops.toList&&Region.noSelect ops&&chkH ops hs (Array.replicate ops.size false)&&nbeq ((restI ops.size hs).length+hs.length) ops.size&&(!st||ps.all fun x=>nblt x 600)))&&opsSt T lo st ops.toList&&(!st||((fzOf ks id).isEmpty&&(psOf ks id).all fun x=>nblt x 600))
 | .seq x y=>chkCode T ks lo st x&&chkCode T ks lo st y
 | .cond _ x y=>chkCode T ks lo st x&&chkCode T ks lo st y
 | .block _ c=>chkCode T ks lo st c
 | .loop c=>chkCode T ks lo st c
 |_=>true
def GS (C:Ctx) (S:Sta) (a:Act) (w:World):Prop:=∃σ,Agr S σ∧G C σ a w
def postC (C:Ctx) (Q:PostS):Exit→Act→World→Prop:=fun e a w=>∃S,Q e S∧GS C S a w
def SW (C:Ctx) (c:Code) (Q:PostS) (S:Sta):Prop:=∀a w,GS C S a w→c.wp C.P (postC C Q) a w
theorem GS.keep {a:Act} {w:World} (h:GS C S a w) (ks:List Nat):GS C (keepS ks S) a w:=by
 obtain ⟨σ,hA,hG⟩:=h
 exact ⟨_,hA.keep ks,drpL_g _ _ hG⟩
theorem Inv.frzBox {F:Nat→Prop} {O:Nat→Nat→Prop} {a:Act} {w:World} (hI:Inv C F O (fun _=>False) σ a w) (hst:C.st=false) {s ver:Nat} {e:TypeId} {c:V} (hr:σ.own s ver=some (.box e c)):
 ∃F' O',Inv C F' O' (fun _=>False) ((σ.drp s).put s true (.val (.box e c.frz))) a w:=by
 obtain ⟨hgs,_,ha⟩:=Env.own_elim hr
 have hnew:∀b,O s b→C.w0.heap.size≤b∨(C.st=false∧C.X b):=fun b hb=>(hI.ofr s b hb).imp id (fun hx=>⟨hst,hx⟩)
 obtain ⟨cs,e1,e2,e3,e4⟩:=hI.takeAll hgs ha
 cases e2 with
 |box _ _ b cur cs' Oc _ hb hcs hO hOs hrc=>
  have hf:=e4.freezeZ (Zf:=Oc) (fun b' hb'=> .inr (hOs b' hb').1) (fun b' hb'=>hnew b' (hOs b' hb').1)
  have hrep:Rep C.cz w (fun b=>F b∨Oc b) (.box e c.frz) [.pointer (some ⟨b,0,none⟩)] (fun x=>x=b):= .box e c.frz b cur cs' (fun _=>False) _ hb hcs rfl (fun _ h=>h.elim) hrc.frz
  have hreg:(V.box e c.frz).reg [.pointer (some ⟨b,0,none⟩)] (a.tmps.getD s undef):=e1
  have h1:=hf.putVal (d:=s) (g:=true) (x:= .box e c.frz) (v:=a.tmps.getD s undef) (On:=fun x=>x=b) e3 (.inr rfl) (fun _=>⟨hreg,hrep⟩) (fun x hx=>by subst hx;exact ⟨.inr hO,fun h=>(hOs _ h).2 rfl⟩) (by simp)
  rw [put_same rfl e3] at h1
  exact ⟨_,_,h1.lessZ (fun _ h=>h.elim)⟩
theorem GS.fz1 (hst:C.st=false) {a:Act} {w:World} (h:GS C S a w) (s:Nat):GS C (fz1 (std T) S s) a w:=by
 unfold Go.Ax.fz1
 split
 ·rename_i e d es ho
  obtain ⟨σ,hA,F,O,hI⟩:=h
  obtain ⟨F',O',h1⟩:=hI.frz1 hst (ownS_sound hA ho)
  exact ⟨_,(hA.drp (d:=s)).put (d:=s) (g:=none) (a:= .val (.slc false e d.frz (V.frzs es))) (a':= .val (.slc false e d.frz (V.frzs es))) rfl (fun _=>rfl),F',O',h1⟩
 ·rename_i e c ho
  obtain ⟨σ,hA,F,O,hI⟩:=h
  obtain ⟨F',O',h1⟩:=hI.frzBox hst (ownS_sound hA ho)
  rw [frzT_std]
  exact ⟨_,(hA.drp (d:=s)).put (d:=s) (g:=none) (a:= .val (.box e c.frz)) (a':= .val (.box e c.frz)) rfl (fun _=>rfl),F',O',h1⟩
 ·exact h
theorem GS.fz2 (hst:C.st=false) {a:Act} {w:World} (h:GS C S a w) (s:Nat):GS C (fz2 (std T) S s) a w:=by
 unfold Go.Ax.fz2
 split
 ·rename_i e c ho
  obtain ⟨σ,hA,F,O,hI⟩:=h
  obtain ⟨F',O',h1⟩:=hI.frzG hst (ownS_sound hA ho)
  rw [frzT_std]
  exact ⟨_,(hA.drp (d:=s)).put (d:=s) (g:=none) (a:= .val (.fn 1000000000 [c.frz])) (a':= .val (.fn 1000000000 [c.frz])) rfl (fun _=>rfl),F',O',h1⟩
 ·exact h
theorem ghN_noBox (d:V):(ghN d).isBox=false:=by
 cases d<;>rfl
theorem GS.gh1 {a:Act} {w:World} (h:GS C S a w) (s:Nat):GS C (gh1 S s) a w:=by
 unfold Go.Ax.gh1
 split
 ·rename_i e d es ho
  obtain ⟨σ,hA,F,O,hI⟩:=h
  obtain ⟨F',O',h1⟩:=hI.ghost (d':=ghN d) (ownS_sound hA ho) (fun h=>by rw [ghN_noBox] at h;cases h)
  exact ⟨_,(hA.drp (d:=s)).put (d:=s) (g:=none) (a:= .val (.slc true e (ghN d) es)) (a':= .val (.slc true e (ghN d) es)) rfl (fun _=>rfl),F',O',h1⟩
 ·exact h
theorem GS.gh2 {a:Act} {w:World} (h:GS C S a w) (s:Nat):GS C (gh2 S s) a w:=by
 unfold Go.Ax.gh2
 split
 ·rename_i e e' d es fs ho
  obtain ⟨σ,hA,F,O,hI⟩:=h
  obtain ⟨F',O',h1⟩:=hI.ghost2 (d':=ghN d) (ownS_sound hA ho) (fun h=>by rw [ghN_noBox] at h;cases h)
  exact ⟨_,(hA.drp (d:=s)).put (d:=s) (g:=none) (a:= .val (.box e (.agg (.slc true e' (ghN d) es::fs)))) (a':= .val (.box e (.agg (.slc true e' (ghN d) es::fs)))) rfl (fun _=>rfl),F',O',h1⟩
 ·exact h
theorem GS.fzL {a:Act} {w:World}:∀(l:List Nat) {S:Sta},(C.st=true→l.isEmpty=true)→GS C S a w→GS C (fzL (std T) l S) a w
 |[],_,_,h=>h
 |s::l,S,hst,h=>by
  have h0:C.st=false:=by
   cases hh:C.st with
   |false=>rfl
   |true=>have:=hst hh;simp at this
  unfold Go.Ax.fzL
  split
  ·exact GS.fzL l (fun h1=>by rw [h0] at h1;cases h1) (h.fz2 h0 _)
  split
  ·exact GS.fzL l (fun h1=>by rw [h0] at h1;cases h1) (h.gh2 _)
  split
  ·exact GS.fzL l (fun h1=>by rw [h0] at h1;cases h1) (h.gh1 _)
  ·exact GS.fzL l (fun h1=>by rw [h0] at h1;cases h1) (h.fz1 h0 s)
theorem wpS_sound {Bi:IBook} (hC:CtxOk C) (hIO:IOk C) (hT:TabOk C.P T) (hΦ:C.Φ=phi B) (hΨ:PsiOk C Bi) (hm:C.P.follows .mixedOrders=true) {ks:List Nat} {lp:LoopA} (hlp:∀c Q S,chkCode T ks C.lo C.st c=true→lp c Q S→SW C (.loop c) Q S):
 ∀(c:Code) (Q:PostS) (S:Sta),chkCode T ks C.lo C.st c=true→wpS (std T) T lp B Bi C.nt ks c Q S→SW C c Q S:=by
 intro c
 induction c with
 |skip=>intro Q S _ h a w hG;exact wp_skip ⟨S,h,hG⟩
 |seq x y ihx ihy=>
  intro Q S hc h a w hG
  simp only [chkCode,Bool.and_eq_true] at hc
  simp only [wpS] at h
  refine wp_seq (Code.wp_mono (fun e a' w' hq=> ?_) (ihx _ _ hc.1 h a w hG))
  obtain ⟨S',hq1,hq2⟩:=hq
  cases e with
  |normal=>exact ihy Q S' hc.2 hq1 a' w' hq2
  |_=>exact ⟨S',hq1,hq2⟩
 |region id ops draw=>
  intro Q S hc h a w hG
  simp only [chkCode,Bool.and_eq_true] at hc
  simp only [wpS] at h
  have hcfz:C.st=true→(fzOf ks id).isEmpty=true:=by
   intro hh
   have:=hc.2
   rw [hh] at this
   simp only [Bool.not_true,Bool.false_or,Bool.and_eq_true] at this
   exact this.1
  have hcz:C.st=true→∀x∈psOf ks id,x<600:=by
   intro hh x hx
   have:=hc.2
   rw [hh] at this
   simp only [Bool.not_true,Bool.false_or,Bool.and_eq_true] at this
   exact nble_le (List.all_eq_true.1 this.2 x hx)
  obtain ⟨σ,hA,hG⟩:=(hG.keep ks).fzL (T:=T) (fzOf ks id) hcfz
  have hK:∀σ a w,(∃S',Q .normal S'∧Agr S' σ)→G C σ a w→postC C Q .normal a w:=fun σ a w ⟨S',h1,h2⟩ h3=>⟨S',h1,σ,h2,h3⟩
  cases draw with
  |false=>
   have hev:=evL_sound hcz (K':=fun σ'=>∃S',Q .normal S'∧Agr S' σ') hT hΦ hΨ (fun S σ h1 h2=>⟨S,h1,h2⟩) ops.toList _ σ hc.1.2 h hA
   exact region_text hC hIO hG hev hK
  |true=>
   have hc1:=hc.1.1
   simp only [Bool.not_true,Bool.false_or] at hc1
   dsimp only at h
   split at h
   ·rename_i hps hhs
    rw [hps,hhs] at hc1
    have hev:=evS_sound (K':=fun σ'=>∃S',Q .normal S'∧Agr S' σ') hT hΦ (fun S σ h1 h2=>⟨S,h1,h2⟩) ops.toList _ σ hc.1.2 h hA
    exact region_any hC hm hc1 hG hev hK
   ·rename_i hne
    split at hc1
    ·rename_i hps hhs
     exact (hne hps hhs).elim
    simp only [Bool.and_eq_true] at hc1
    obtain ⟨⟨⟨⟨⟨⟨k1,k2⟩,k3⟩,k4⟩,k5⟩,k6⟩,k7⟩:=hc1
    have hz:C.st=true→∀x∈psOf ks id,x<600:=fun hh x hx=>by
     rw [hh] at k7
     simp only [Bool.not_true,Bool.false_or] at k7
     exact nble_le (List.all_eq_true.1 k7 x hx)
    split at h
    ·rename_i hoff
     rw [ordS_eq] at h
     have hsub:∀o∈nthsO ops.toList (hdOf ks id)++nthsO ops.toList (restI ops.size (hdOf ks id)),o∈ops.toList:=fun o ho=>(List.mem_append.1 ho).elim nthsO_mem nthsO_mem
     have hev:=evP_sound (K':=fun σ'=>∃S',Q .normal S'∧Agr S' σ') hT hΦ hΨ (fun S σ h1 h2=>⟨S,h1,h2⟩) hz _ _ σ (opsSt_iff.2 fun o ho=>opsSt_iff.1 hc.1.2 o (hsub o ho)) (asgOk_iff.2 fun o ho=>asgOk_iff.1 k3 o (hsub o ho)) h hA
     have hts:(nthsO ops.toList (hdOf ks id)++nthsO ops.toList (restI ops.size (hdOf ks id))).map (kM T (psOf ks id))=(nthsO ops.toList (hdOf ks id)).map (fun _=>false)++(restI ops.size (hdOf ks id)).map fun i=>(ops.toList.map (kM T (psOf ks id))).getD i true:=by
      rw [List.map_append,kM_moves k5,kM_rest _ (fun i hi=>by
       have:=(List.mem_filter.1 hi).1
       simpa using this)]
     rw [hts] at hev
     exact region_priv hC hIO hm k1 k2 k4 k5 (nbeq_eq k6) hG (allOff_sound hoff hA) hev hK
    ·exact h.elim
 |cond c x y ihx ihy=>
  intro Q S hc h a w hG
  simp only [chkCode,Bool.and_eq_true] at hc
  simp only [wpS] at h
  split at h
  ·rename_i b hb
   have h':(b=true→wpS (std T) T lp B Bi C.nt ks x Q (keepS ks S))∧(b=false→wpS (std T) T lp B Bi C.nt ks y Q (keepS ks S)):=h
   have hG':=hG.keep ks
   obtain ⟨σ,hA,F,O,hI⟩:=hG
   have o1:=opdS_sound hT hA hb rfl
   have:=holds_bool (opd_sound hI o1 rfl).1
   refine wp_cond_split this (fun hb=>ihx Q _ hc.1 (h'.1 hb) a w hG') (fun hb=>ihy Q _ hc.2 (h'.2 hb) a w hG')
  ·exact h.elim
 |block id c ih=>
  intro Q S hc h a w hG
  simp only [wpS] at h
  refine wp_block (Code.wp_mono (fun e a' w' hq=> ?_) (ih _ _ hc h a w hG))
  obtain ⟨S',hq1,hq2⟩:=hq
  cases e with
  |exit id'=>
   simp only [blockS] at hq1
   simp only [Exit.inBlock]
   split at hq1
   ·rename_i hid
    rw [if_pos (nbeq_eq hid)]
    exact ⟨S',hq1,hq2⟩
   ·rename_i hid
    rw [if_neg (fun e=>by subst e;rw [nbeq_refl] at hid;cases hid)]
    exact ⟨S',hq1,hq2⟩
  |_=>exact ⟨S',hq1,hq2⟩
 |loop c ih=>
  intro Q S hc h a w hG
  exact hlp c Q _ hc h a w (hG.keep ks)
 |exit id=>intro Q S _ h a w hG;exact wp_exit ⟨S,h,hG⟩
 |ret=>intro Q S _ h a w hG;exact wp_ret ⟨S,h,hG⟩
 |_=>intro Q S _ h;exact h.elim
end
end Go.Ax
namespace Go.Ax
open Go.RowKit
section
variable {C:Ctx} {T:Tab} {S:Sta} {σ:Env} {B:Book}
mutual
def _root_.Go.Ax.V.lenOk:V→Prop
 | .slc _ _ _ es=>es.length≤9223372036854775807∧V.lenOks es
 | .agg fs=>V.lenOks fs
 | .tup fs=>V.lenOks fs
 | .box _ c=>c.lenOk
 |_=>True
def _root_.Go.Ax.V.lenOks:List V→Prop
 |[]=>True
 |x::l=>x.lenOk∧V.lenOks l
end
theorem lenOks_iff {l:List V}:V.lenOks l↔∀x∈l,x.lenOk:=by
 induction l with
 |nil=>simp [V.lenOks]
 |cons x l ih=>simp [V.lenOks,ih]
theorem lenOks_of {l:List V} (h:∀(i:Nat) (x:V),l[i]? =some x→x.lenOk):V.lenOks l:=by
 rw [lenOks_iff]
 intro x hx
 obtain ⟨i,hi⟩:=List.mem_iff_getElem?.1 hx
 exact h i x hi
theorem Rep.lenOk {cz:TypeId→Nat} {w:World} {F O:Nat→Prop} {x:V} {cs:List Value} (h:Rep cz w F x cs O):x.lenOk:=by
 induction h with
 |int=>trivial
 |bool=>trivial
 |str=>trivial
 |hole=>trivial
 |fz0=>exact ⟨by simp,trivial⟩
 |fz e d es b off len cap cs O hl hc hm hF hcs hr ih=>exact ⟨by have:maxLen=9223372036854775807:=rfl;omega,lenOks_of ih⟩
 |own0=>exact ⟨by simp,trivial⟩
 |own e d es b len cap cur cs Os O hb hsz hl hc hm hO hOs hdis hcs hr hd9 ih=>exact ⟨by have:maxLen=9223372036854775807:=rfl;omega,lenOks_of ih⟩
 |agg fs cs Os O hn hOs hdis hr ih=>exact lenOks_of ih
 |box e c b cur cs Oc O hb hcs hO hOs hr ih=>exact ih
 |tup fs vs cs Os O hn hOs hdis hv hr ih=>exact lenOks_of ih
 |fb=>trivial
 |fn=>trivial
def FactS:Sta→Prop
 |[]=>True
 |(_,none,.val x)::l=>x.lenOk∧FactS l
 |_::l=>FactS l
theorem factS {a:Act} {w:World}:∀{S:Sta},(∀t x,(t,none,.val x)∈S→∃w:World,∃F O cs,Rep C.cz w F x cs O)→FactS S
 |[],_=>trivial
 |(t,some g,b)::l,h=>factS (a:=a) (w:=w) (S:=l) (fun t x hx=>h t x (List.mem_cons_of_mem _ hx))
 |(t,none,.val x)::l,h=>⟨by obtain ⟨w,F,O,cs,hr⟩:=h t x (by simp);exact hr.lenOk,factS (a:=a) (w:=w) (S:=l) (fun t x hx=>h t x (List.mem_cons_of_mem _ hx))⟩
 |(t,none,.rf _ _ _)::l,h=>factS (a:=a) (w:=w) (S:=l) (fun t x hx=>h t x (List.mem_cons_of_mem _ hx))
 |(t,none,.ad _ _ _)::l,h=>factS (a:=a) (w:=w) (S:=l) (fun t x hx=>h t x (List.mem_cons_of_mem _ hx))
 |(t,none,.fz _)::l,h=>factS (a:=a) (w:=w) (S:=l) (fun t x hx=>h t x (List.mem_cons_of_mem _ hx))
 |(t,none,.ag _ _ _ _)::l,h=>factS (a:=a) (w:=w) (S:=l) (fun t x hx=>h t x (List.mem_cons_of_mem _ hx))
theorem GS.facts {a:Act} {w:World} (h:GS C S a w):FactS S:=by
 obtain ⟨σ,hA,F,O,hI⟩:=h
 refine factS (C:=C) (a:=a) (w:=w) (fun t x hx=> ?_)
 obtain ⟨e1,_,e3⟩:=hA.on _ _ _ hx
 obtain ⟨_,h2,_⟩:=hI.slot t e1
 obtain ⟨cs,_,hr⟩:=h2 x (e3 rfl)
 exact ⟨w,F,_,cs,hr⟩
def LoopOk (L:Alg) (T:Tab) (B:Book) (Bi:IBook) (n:Nat) (ks:List Nat) (lp:LoopA):Prop:=
 ∀(α:Type) (c:Code) (Q:PostS) (S0:Sta) (kl:List Nat) (st:α→Sta) (Inv:α→Prop) (m:α→Nat) (x0:α),keepS kl S0=st x0→Inv x0→
  (∀x,Inv x→FactS (st x)→∀ag:Sta→Prop,(∀x',Inv x'→m x'<m x→ag (st x'))→wpS L T lp B Bi n ks c (thenS (fun S'=>ag (keepS kl S')) Q) (st x))→lp c Q S0
def lpOf (T:Tab) (ks:List Nat) (C:Ctx):LoopA:=fun c Q S=>chkCode T ks C.lo C.st c=true→SW C (.loop c) Q S
theorem loopOk {Bi:IBook} (hC:CtxOk C) (hIO:IOk C) (hT:TabOk C.P T) (hΦ:C.Φ=phi B) (hΨ:PsiOk C Bi) (hm:C.P.follows .mixedOrders=true) (ks:List Nat):LoopOk (std T) T B Bi C.nt ks (lpOf T ks C):=by
 intro α c Q S0 kl st Inv m x0 h0 hi round hc
 have key:∀(n:Nat) (x:α),Inv x→m x<n→∀a w,GS C (st x) a w→Code.rounds C.P c (postC C Q) n a w:=by
  intro n
  induction n with
  |zero=>intro x _ h;exact absurd h (Nat.not_lt_zero _)
  |succ n ih=>
   intro x hx hn a w hG
   rw [rounds_succ]
   have hw:=wpS_sound hC hIO hT hΦ hΨ hm (lp:=lpOf T ks C) (fun c Q S h1 h2=>h2 h1) c _ (st x) hc (round x hx hG.facts (fun S'=>∃x',S'=st x'∧Inv x'∧m x'<m x) (fun x' h1 h2=>⟨x',rfl,h1,h2⟩)) a w hG
   refine Code.wp_mono (fun e a' w' hq=> ?_) hw
   obtain ⟨S',q1,q2⟩:=hq
   cases e with
   |normal=>
    obtain ⟨x',e1,e2,e3⟩:=q1
    have q3:=q2.keep kl
    rw [e1] at q3
    exact ih x' e2 (by omega) a' w' q3
   |_=>exact ⟨S',q1,q2⟩
 intro a w hG
 have hG':=hG.keep kl
 rw [h0] at hG'
 exact wp_loop_rounds (m x0+1) (key _ x0 hi (Nat.lt_succ_self _) a w hG')
def resM (tmps:Array Value):ResultVar→Sem Value
 | .tmp t=>pure (tmps.getD t undef)
 | .cell a t=>do loadVar t (←asAddr (tmps.getD a undef))
theorem results_all {fn:Func} (tmps:Array Value) (P:Program) (w:World) (vs:Nat→Value) (h:∀(i:Nat) (x:ResultVar),fn.results.toList[i]? =some x→(resM tmps x).run P w= .ok (vs i) w):
 ∃va:Array Value,va.size=fn.results.size∧(∀i,i<va.size→va.getD i undef=vs i)∧(results fn tmps).run P w= .ok (if h:va.size=1 then va[0] else .tuple va) w:=by
 have key:∀(f:ResultVar→Sem Value),(∀x,f x=resM tmps x)→∀(l:List ResultVar) (vs:Nat→Value),(∀(i:Nat) (x:ResultVar),l[i]? =some x→(resM tmps x).run P w= .ok (vs i) w)→(l.mapM f).run P w= .ok ((List.range l.length).map vs) w:=by
  intro f hf l
  induction l with
  |nil=>intro vs _;simp
  |cons x l ih=>
   intro vs h
   rw [List.mapM_cons]
   have h0:=h 0 x rfl
   simp only [Sem.run_bind,hf,h0,Result.andThen_ok,Sem.run_pure]
   rw [ih (fun i=>vs (i+1)) (fun i x hx=>h (i+1) x (by simpa using hx))]
   simp only [Result.andThen_ok]
   rw [List.length_cons,List.range_succ_eq_map]
   simp [Function.comp_def]
 refine ⟨((List.range fn.results.toList.length).map vs).toArray,by simp,fun i hi=> ?_,?_⟩
 ·simp only [List.size_toArray,List.length_map,List.length_range] at hi
  have hi':i<fn.results.size:=by simpa using hi
  simp [Array.getD_eq_getD_getElem?,List.getElem?_range hi']
 ·unfold results
  rw [Sem.run_bind,Array.mapM_eq_mapM_toList]
  simp only [Sem.run_map]
  rw [key _ ?hf fn.results.toList vs h]
  case hf=>intro x;cases x<;>rfl
  rfl
theorem resS_sound (hT:TabOk C.P T):∀(l:List ResultVar) (S:Sta) (σ:Env) (F:Nat→Prop) (O:Nat→Nat→Prop) (Z:Nat→Prop) (a:Act) (w:World) (ps:List Prop) (ys:List V),Inv C F O Z σ a w→Agr S σ→resS (std T) T l S=some (ps,ys)→Alls ps→
 ys.length=l.length∧∃(vs:Nat→Value) (css:Nat→List Value) (Ons:Nat→Nat→Prop),(∀(i:Nat) (x:ResultVar),l[i]? =some x→(resM a.tmps x).run C.P w= .ok (vs i) w)∧
  (∀(i:Nat) (y:V),ys[i]? =some y→y.reg (css i) (vs i)∧Rep C.cz w F y (css i) (Ons i))∧
  (∀i b,Ons i b→¬Z b)∧(∀i j b,i≠j→Ons i b→¬Ons j b)∧(∀i b,Ons i b→(C.w0.heap.size≤b∨C.X b)∧b<w.heap.size∧¬F b)
 |[],S,σ,F,O,Z,a,w,ps,ys,hI,hA,h,hp=>by
  simp only [resS,Option.some.injEq,Prod.mk.injEq] at h
  obtain ⟨_,rfl⟩:=h
  exact ⟨rfl,fun _=>undef,fun _=>[],fun _ _=>False,fun i x hx=>by simp at hx,fun i y hy=>by simp at hy,fun _ _ h=>h.elim,fun _ _ _ _ h=>h.elim,fun _ _ h=>h.elim⟩
 |x0::l,S,σ,F,O,Z,a,w,ps,ys,hI,hA,h,hp=>by
  have step:∃(p1 p2:List Prop) (y:V) (ys':List V) (S1:Sta) (σ1:Env) (v:Value) (cs:List Value) (On:Nat→Prop),ps=p1++p2∧ys=y::ys'∧resS (std T) T l S1=some (p2,ys')∧Agr S1 σ1∧(resM a.tmps x0).run C.P w= .ok v w∧y.reg cs v∧Rep C.cz w F y cs On∧(∀b,On b→¬Z b)∧
   ∃O',Inv C F O' (fun b=>Z b∨On b) σ1 a w:=by
   cases x0 with
   |tmp t=>
    simp only [resS] at h
    split at h
    ·rename_i gx A h1
     split at h
     ·rename_i qs y S1 h2
      split at h
      ·rename_i rs ys' h3
       simp only [Option.some.injEq,Prod.mk.injEq] at h
       obtain ⟨rfl,rfl⟩:=h
       rw [alls_append,alls_append] at hp
       obtain ⟨⟨p1,p2⟩,p3⟩:=hp
       have o1:=opdS_sound hT hA h1 (geG_sound p1 rfl)
       obtain ⟨q,σ1,t1,t2,t3⟩:=takeS_sound hA h2 p2
       obtain ⟨cs,On,e1,e2⟩:=takeA_sound hI (opd_sound hI o1 rfl).1 t1 t2
       exact ⟨_,rs,y,ys',S1,σ1,_,cs,On,rfl,rfl,h3,t3,rfl,e1,e2.rep,e2.new,e2.inv⟩
      ·cases h
     ·cases h
    ·cases h
   |cell t ty=>
    simp only [resS] at h
    split at h
    ·rename_i e c h1
     split at h
     ·rename_i hfit
      split at h
      ·rename_i rs ys' h3
       simp only [Option.some.injEq,Prod.mk.injEq] at h
       obtain ⟨rfl,rfl⟩:=h
       have ho:=ownS_sound hA h1
       obtain ⟨hg,_,ha⟩:=Env.own_elim ho
       obtain ⟨cs,e1,e2,e3,e4⟩:=hI.takeAll hg ha
       cases e2 with
       |box _ _ b cur cs' Oc _ hb hcs hO hOs hr=>
        have hcells:Cells w b 0 cs':=by
         intro j v hj
         rw [←hcs,Array.getElem?_toList] at hj
         simp only [World.cell?,hb,Option.isSome_none,Bool.false_eq_true,if_false,Nat.zero_add]
         exact hj
        obtain ⟨v,f1,f2⟩:=loadVar_run (C:=C) (fitT_sound hT hfit) hcells hr
        refine ⟨[],rs,c,ys',del t S,σ.drp t,v,cs',Oc,rfl,rfl,h3,hA.drp,?_,f2,hr,fun b' hb' hz=>hI.oz t b' (hOs b' hb').1 hz,_,e4.lessZ (fun b' hb'=>hb'.imp id (fun h=>(hOs b' h).1))⟩
        have hreg:a.tmps.getD t undef= .pointer (some ⟨b,0,none⟩):=e1
        simp only [resM,Sem.run_bind,hreg,asAddr,Sem.run_pure,Result.andThen_ok]
        exact f1
      ·cases h
     ·cases h
    ·cases h
  obtain ⟨p1,p2,y,ys',S1,σ1,v,cs,On,rfl,rfl,h3,t3,hrun,e1,e2,e3,O',hI'⟩:=step
  rw [alls_append] at hp
  obtain ⟨f2,vs,css,Ons,f1,f3,f4,f5,f6⟩:=resS_sound hT l S1 σ1 F O' _ a w p2 ys' hI' t3 h3 hp.2
  refine ⟨by simp [f2],fun i=>if i=0 then v else vs (i-1),fun i=>if i=0 then cs else css (i-1),fun i=>if i=0 then On else Ons (i-1),fun i x hx=> ?_,fun i z hz=> ?_,fun i b hb=> ?_,fun i j b hij hb=> ?_,fun i b hb=> ?_⟩
  ·cases i with
   |zero=>
    simp at hx
    subst hx
    exact hrun
   |succ i=>
    have:=f1 i x (by simpa using hx)
    simpa using this
  ·cases i with
   |zero=>
    simp at hz
    subst hz
    exact ⟨e1,e2⟩
   |succ i=>
    have:=f3 i z (by simpa using hz)
    exact ⟨by simpa using this.1,by simpa using this.2⟩
  ·dsimp only at hb
   split at hb
   ·exact e3 b hb
   ·exact fun hz=>f4 _ b hb (.inl hz)
  ·dsimp only at hb ⊢
   split at hb
   ·split
    ·omega
    ·exact fun hb'=>f4 _ b hb' (.inr hb)
   ·split
    ·exact fun hb'=>f4 _ b hb (.inr hb')
    ·exact f5 _ _ b (by omega) hb
  ·dsimp only at hb
   split at hb
   ·exact ⟨hI'.zfr b (.inr hb),hI'.zlt b (.inr hb),hI'.zf b (.inr hb)⟩
   ·exact f6 _ b hb
end
def Sat (P:Program) (k:FuncId) (f:Contract):Prop:=∀args ps r,f args=some (ps,r)→Alls ps→FnOk P k args r
def BookOk (P:Program) (B:Book):Prop:=∀k f,bget B k=some f→Sat P k f
theorem bookNil {P:Program}:BookOk P []:=fun k f h=>by simp [bget] at h
theorem bookCons {P:Program} {B:Book} {k:FuncId} {f:Contract} (h:Sat P k f) (hB:BookOk P B):BookOk P ((k,f)::B):=by
 intro k' f' h'
 simp only [bget] at h'
 split at h'
 ·rename_i hk
  simp only [Option.some.injEq] at h'
  subst h'
  rw [←nbeq_eq hk]
  exact h
 ·exact hB k' f' h'
theorem phi_ok {C:Ctx} {B:Book} (hG:GlC C) (hΦ:C.Φ=phi B) (hB:BookOk C.P B):CtxOk C:=by
 refine ⟨hG,?_⟩
 intro k args q r h hq
 rw [hΦ] at h
 unfold phi at h
 split at h
 ·rename_i f hf
  split at h
  ·rename_i ps r' hr
   simp only [Option.some.injEq,Prod.mk.injEq,and_true] at h
   obtain ⟨rfl,rfl⟩:=h
   exact hB k f hf args ps r' hr hq
  ·cases h
 ·cases h
def SatI (P:Program) (k j:Nat) (f:IContract):Prop:=∀args ps r y,f args=some (ps,r,y)→Alls ps→FnIO P k j args r y
def SatM (P:Program) (k j:Nat) (f:IContract):Prop:=∀args ps r y,f args=some (ps,r,y)→Alls ps→FnMv P k j args r
def BookIOk (P:Program) (Bi:IBook):Prop:=∀k j m f,iget Bi k=some (j,m,f)→match m with
 |false=>SatI P k j f
 |true=>SatM P k j f
theorem bookINil {P:Program}:BookIOk P []:=fun k j m f h=>by simp [iget] at h
theorem bookMCons {P:Program} {Bi:IBook} {k j:Nat} {f:IContract} (h:SatM P k j f) (hB:BookIOk P Bi):BookIOk P ((k,j,true,f)::Bi):=by
 intro k' j' m' f' h'
 simp only [iget] at h'
 split at h'
 ·rename_i hk
  simp only [Option.some.injEq,Prod.mk.injEq] at h'
  obtain ⟨rfl,rfl,rfl⟩:=h'
  rw [←nbeq_eq hk]
  exact h
 ·exact hB k' j' m' f' h'
theorem psi_ok {C:Ctx} {Bi:IBook} (hG:GlC C) (hΨ:C.Ψ=psi Bi) (hB:BookIOk C.P Bi):IOk C:=by
 refine ⟨hG,?_⟩
 intro k j m c args q r y h hc hq
 rw [hΨ] at h
 unfold psi at h
 split at h
 ·rename_i j' m' f hf
  simp only [Option.some.injEq,Prod.mk.injEq] at h
  obtain ⟨rfl,rfl,rfl⟩:=h
  dsimp only at hc
  split at hc
  ·rename_i ps r' y' hr
   simp only [Option.some.injEq,Prod.mk.injEq] at hc
   obtain ⟨rfl,rfl,rfl⟩:=hc
   have:=hB k _ _ f hf
   cases m' with
   |false=>exact this args ps _ _ hr hq
   |true=>exact this args ps _ _ hr hq
  ·cases hc
 ·cases h
theorem argS_mem:∀(l:List V) (i:Nat) (t:Nat) (g:Option Bool) (a:A),(t,g,a)∈argS i l→∃j x,t=i+j∧l[j]? =some x∧g=none∧a= .val x
 |[],i,t,g,a,h=>by simp [argS] at h
 |x::l,i,t,g,a,h=>by
  simp only [argS,List.mem_cons] at h
  rcases h with h|h
  ·simp only [Prod.mk.injEq] at h
   obtain ⟨rfl,rfl,rfl⟩:=h
   exact ⟨0,x,rfl,rfl,rfl,rfl⟩
  ·obtain ⟨j,y,e1,e2,e3,e4⟩:=argS_mem l (i+1) t g a h
   exact ⟨j+1,y,by omega,by simpa using e2,e3,e4⟩
theorem mem_argS:∀(l:List V) (i j:Nat) (x:V),l[j]? =some x→(i+j,none,.val x)∈argS i l
 |[],i,j,x,h=>by simp at h
 |y::l,i,0,x,h=>by simp at h;subst h;simp [argS]
 |y::l,i,j+1,x,h=>by
  simp only [argS,List.mem_cons]
  right
  have:=mem_argS l (i+1) j x (by simpa using h)
  rw [show i+(j+1)=i+1+j from by omega]
  exact this
theorem fnOk_gen {P:Program} {T:Tab} {B:Book} {Bi:IBook} {k:FuncId} {fn:Func} {body:Code} {args:List V} {R:V→Prop} {Qr:PostS} {n:Nat} (ks:List Nat) (hf:P.funcs[k]? =some fn) (hb:fn.body=some body) (hn:fn.ntmps=n) (hname:(fn.name== "runtime.NumGoroutine")=false)
 (hl:args.length≤n) (hm:P.follows .mixedOrders=true) (hT:TabOk P T) (hB:BookOk P B) (hBi:BookIOk P Bi) (hck:chkCode T ks 0 false body=true)
 (hQ:∀e S,Qr e S→(e= .normal∨e= .ret)∧(match resS (std T) T fn.results.toList S with
  |some (ps,l)=>conj ps (R (oneV l))
  |none=>False))
 (h:∀lp:LoopA,FactS (argS 0 args)→LoopOk (std T) T B Bi n ks lp→wpS (std T) T lp B Bi n ks body Qr (argS 0 args)):
 Callable P k∧
 ∀(vals:Array Value) (w:World) (F:Nat→Prop),vals.size=args.length→(∀(i:Nat) (x:V),args[i]? =some x→∃cs,x.reg cs (vals.getD i undef)∧Rep P.cellsOf w F x cs (fun _=>False))→(∀b,F b→b<w.heap.size)→Gl P w F→
  Calls P k vals w (fun e w'=>∃c,R c∧∃(v:Value) (cs:List Value) (On Fr:Nat→Prop),e= .returned v∧c.reg cs v∧Rep P.cellsOf w' (fun b=>F b∨Fr b) c cs On∧(∀b,On b∨Fr b→w.heap.size≤b∧b<w'.heap.size)∧(∀b,On b→¬Fr b)∧BelowD w.heap.size w w'):=by
 refine ⟨⟨fn,hf,hname,by rw [hb];rfl⟩,fun vals w F hsz hv hF hG=> ?_⟩
 refine calls_of_wp hf hb ?_
 let C:Ctx:={P:=P,Φ:=phi B,w0:=w,X:=fun _=>False,F0:=F,nt:=n,Ψ:=psi Bi,lo:=0,t0:= #[],st:=false}
 have hGC:GlC C:=⟨hG,fun b hb=>⟨hF b hb,fun h=>h⟩⟩
 have hC:CtxOk C:=phi_ok (C:=C) hGC rfl hB
 have hIO:IOk C:=psi_ok (C:=C) hGC rfl hBi
 let σ:Env:=fun t=>if t<args.length then ⟨true,true,0,.val (args.getD t (.hole 0))⟩ else ⟨false,true,0,.val (.hole 0)⟩
 have hts:(vals++Array.replicate (fn.ntmps-vals.size) undef).size=n:=by
  simp only [Array.size_append,Array.size_replicate]
  omega
 have hgl:∀t,t<args.length→(vals++Array.replicate (fn.ntmps-vals.size) undef).getD t undef=vals.getD t undef:=by
  intro t ht
  simp only [Array.getD_eq_getD_getElem?]
  rw [Array.getElem?_append_left (by omega)]
 have hgr:∀t,¬t<args.length→(vals++Array.replicate (fn.ntmps-vals.size) undef).getD t undef=undef:=by
  intro t ht
  simp only [Array.getD_eq_getD_getElem?]
  rw [Array.getElem?_append_right (by omega)]
  by_cases h:t-vals.size<fn.ntmps-vals.size
  ·simp [h]
  ·simp [h]
 have hA:Agr (argS 0 args) σ:=by
  refine ⟨fun t g a h=> ?_,fun t h=> ?_⟩
  ·obtain ⟨j,x,e1,e2,e3,e4⟩:=argS_mem _ _ _ _ _ h
   subst e3;subst e4
   simp only [Nat.zero_add] at e1
   subst e1
   have hlt:t<args.length:=(List.getElem?_eq_some_iff.1 e2).1
   simp only [σ,if_pos hlt,gb,vz,getD_of_some e2]
   exact ⟨trivial,trivial,fun _=>trivial⟩
  ·by_cases hlt:t<args.length
   ·exact absurd (by have:=mem_argS args 0 t _ (some_of_lt (.hole 0) hlt);simpa using this) (h (none,.val (args.getD t (.hole 0))))
   ·simp [σ,hlt,E.owner]
 have hI:Inv C F (fun _ _=>False) (fun _=>False) σ {tmps:=vals++Array.replicate (fn.ntmps-vals.size) undef,defers:=[]} w:=by
  refine ⟨fun t hg=> ?_,fun _ _ _ _ h=>h.elim,fun _ _ h=>h.elim,fun _ _ h=>h.elim,fun _ h=>h.elim,fun _ _ h=>h.elim,fun _ h=>h.elim,hF,fun _ _ h=>h.elim,fun _ h=>h.elim,fun _ h=>h,fun _ h=> .inl h,fun _ _ _=>rfl,Nat.le_refl _,rfl,rfl,OutK.refl _,rfl,fun t s ver hr=> ?_,fun t hg hu=> ?_,hts,fun _ h=>absurd h (Nat.not_lt_zero _),fun h=>by cases h⟩
  ·have hlt:t<args.length:=by
    by_cases hlt:t<args.length
    ·exact hlt
    ·simp [σ,hlt] at hg
   refine ⟨by rw [hts];omega,fun x hx=> ?_,fun hn=>absurd (by simp only [σ,if_pos hlt]) (hn (args.getD t (.hole 0)))⟩
   simp only [σ,if_pos hlt,A.val.injEq] at hx
   subst hx
   rw [hgl t hlt]
   exact hv t _ (some_of_lt (.hole 0) hlt)
  ·simp only [σ] at hr
   split at hr<;>simp [A.refs] at hr
  ·have hlt:¬t<args.length:=by
    intro hlt
    simp [σ,hlt] at hg
   exact hgr t hlt
 have hGS:GS C (argS 0 args) {tmps:=vals++Array.replicate (fn.ntmps-vals.size) undef,defers:=[]} w:=⟨σ,hA,F,_,hI⟩
 have hw:=wpS_sound (C:=C) hC hIO hT rfl ⟨rfl,fun h=>by cases h⟩ hm (lp:=lpOf T ks C) (fun c Q S h1 h2=>h2 h1) body _ _ hck (h (lpOf T ks C) hGS.facts (loopOk hC hIO hT rfl ⟨rfl,fun h=>by cases h⟩ hm ks)) _ w hGS
 refine Code.wp_mono (fun e a' w' hq=> ?_) hw
 obtain ⟨S',q1,σ',hA',F',O',hI'⟩:=hq
 have fin:(match resS (std T) T fn.results.toList S' with
  |some (ps,l)=>conj ps (R (oneV l))
  |none=>False)→a'.defers=[]∧∃v,(results fn a'.tmps).run P w'= .ok v w'∧∃(c:V),R c∧∃(v':Value) (cs:List Value) (On Fr:Nat→Prop),Ending.returned v= .returned v'∧c.reg cs v'∧Rep P.cellsOf w' (fun b=>F b∨Fr b) c cs On∧(∀b,On b∨Fr b→w.heap.size≤b∧b<w'.heap.size)∧(∀b,On b→¬Fr b)∧BelowD w.heap.size w w':=by
  intro hq
  split at hq
  ·rename_i ps l hres
   rw [conj_iff] at hq
   obtain ⟨f2,vf,css,Ons,f1,f3,f4,f5,f6⟩:=resS_sound (C:=C) hT _ _ _ _ _ _ _ _ _ _ hI' hA' hres hq.1
   obtain ⟨vs,g0,g1,g2⟩:=results_all (fn:=fn) a'.tmps P w' vf f1
   refine ⟨hI'.defers,_,g2,?_⟩
   have hbelow:BelowD w.heap.size w w':=⟨hI'.os,hI'.tape,hI'.output,hI'.size,fun k hk=>hI'.old k hk (fun h=>h)⟩
   have hFr:∀b,F' b→F b∨(F' b∧w.heap.size≤b):=fun b hb=>(hI'.ffr b hb).imp id (fun h=>⟨hb,h.resolve_right (fun h=>h.2)⟩)
   have hOn:∀i b,Ons i b→w.heap.size≤b∧b<w'.heap.size∧¬F' b:=fun i b hb=>⟨(f6 i b hb).1.elim id (fun h=>h.elim),(f6 i b hb).2⟩
   have hsz:vs.size=l.length:=by
    rw [g0,f2,Array.length_toList]
   by_cases h1:vs.size=1
   ·rw [dif_pos h1]
    have:∃y,l=[y]:=by
     match l,(by omega:l.length=1) with
     |[y],_=>exact ⟨y,rfl⟩
    obtain ⟨y,rfl⟩:=this
    have hr:R y:=hq.2
    obtain ⟨e1,e2⟩:=f3 0 y rfl
    have hv0:vs[0]=vf 0:=by
     rw [←g1 0 (by omega)]
     simp [Array.getD_eq_getD_getElem?,h1]
    refine ⟨y,hr,_,css 0,Ons 0,fun b=>F' b∧w.heap.size≤b,rfl,by rw [hv0];exact e1,e2.mono hFr (fun _ h=>h),fun b hb=> ?_,fun b hb hf=>(hOn 0 b hb).2.2 hf.1,hbelow⟩
    rcases hb with hb|hb
    ·exact ⟨(hOn 0 b hb).1,(hOn 0 b hb).2.1⟩
    ·exact ⟨hb.2,hI'.flt b hb.1⟩
   ·rw [dif_neg h1]
    have hr:R (.tup l):=by
     have:=hq.2
     unfold oneV at this
     split at this
     ·rename_i x;exact absurd (by simpa using hsz) h1
     ·exact this
    refine ⟨_,hr,_,[.tuple vs],fun b=>∃i,Ons i b,fun b=>F' b∧w.heap.size≤b,rfl,rfl,?_,fun b hb=> ?_,fun b hb hf=> ?_,hbelow⟩
    ·refine .tup l vs css Ons _ hsz (fun i b hb=>⟨i,hb⟩) f5 (fun i x hx=> ?_) (fun i x hx=>((f3 i x hx).2).mono hFr (fun _ h=>h))
     have hil:=(List.getElem?_eq_some_iff.1 hx).1
     rw [g1 i (by omega)]
     exact (f3 i x hx).1
    ·rcases hb with ⟨i,hb⟩|hb
     ·exact ⟨(hOn i b hb).1,(hOn i b hb).2.1⟩
     ·exact ⟨hb.2,hI'.flt b hb.1⟩
    ·obtain ⟨i,hb⟩:=hb
     exact (hOn i b hb).2.2 hf.1
  ·exact hq.elim
 obtain ⟨q0,q2⟩:=hQ _ _ q1
 rcases q0 with rfl|rfl
 ·exact fin q2
 ·exact fin q2
theorem fnOk_ofI {P:Program} {T:Tab} {B:Book} {Bi:IBook} {k:FuncId} {fn:Func} {body:Code} {args:List V} {r:V} {n:Nat} (ks:List Nat) (hf:P.funcs[k]? =some fn) (hb:fn.body=some body) (hn:fn.ntmps=n) (hname:(fn.name== "runtime.NumGoroutine")=false)
 (hl:args.length≤n) (hm:P.follows .mixedOrders=true) (hT:TabOk P T) (hB:BookOk P B) (hBi:BookIOk P Bi) (hck:chkCode T ks 0 false body=true)
 (h:∀(L:Alg) (lp:LoopA) (rr:V),L=std T→rr=r→FactS (argS 0 args)→LoopOk L T B Bi n ks lp→wpS L T lp B Bi n ks body (retS L T fn.results.toList rr) (argS 0 args)):FnOk P k args r:=by
 obtain ⟨h1,h2⟩:=fnOk_gen (R:=fun c=>c=r) (Qr:=retS (std T) T fn.results.toList r) ks hf hb hn hname hl hm hT hB hBi hck (fun e S hq=>by
  cases e with
  |normal=>exact ⟨.inl rfl,hq⟩
  |ret=>exact ⟨.inr rfl,hq⟩
  |_=>exact hq.elim) (fun lp h1 h2=>h (std T) lp r rfl rfl h1 h2)
 refine ⟨h1,fun vals w F hsz hv hF hG=> ?_⟩
 refine Calls.mono (h2 vals w F hsz hv hF hG) (fun e w' hq=> ?_)
 obtain ⟨c,rfl,hq⟩:=hq
 exact hq
theorem fnOk_of {P:Program} {T:Tab} {B:Book} {k:FuncId} {fn:Func} {body:Code} {args:List V} {r:V} {n:Nat} (ks:List Nat) (hf:P.funcs[k]? =some fn) (hb:fn.body=some body) (hn:fn.ntmps=n) (hname:(fn.name== "runtime.NumGoroutine")=false)
 (hl:args.length≤n) (hm:P.follows .mixedOrders=true) (hT:TabOk P T) (hB:BookOk P B) (hck:chkCode T ks 0 false body=true)
 (h:∀(L:Alg) (lp:LoopA) (rr:V),L=std T→rr=r→FactS (argS 0 args)→LoopOk L T B [] n ks lp→wpS L T lp B [] n ks body (retS L T fn.results.toList rr) (argS 0 args)):FnOk P k args r:=
 fnOk_ofI ks hf hb hn hname hl hm hT hB bookINil hck h
end Go.Ax
namespace Go.Ax
open Go.ChangeShapes Go.WideShapes Go.RowKit
inductive Wt (T:Tab):TypeId→V→Prop
 |int (t:TypeId) (ti:TI) (k:IntKind) (n:Int) (h:tget T t=some ti) (hk:ti.k= .int k) (hn:(Lit.int k n).wf=true):Wt T t (.int k n)
 |bool (t:TypeId) (ti:TI) (b:Bool) (h:tget T t=some ti) (hk:ti.k= .bool):Wt T t (.bool b)
 |str (t:TypeId) (ti:TI) (s:ByteArray) (h:tget T t=some ti) (hk:ti.k= .str) (hs:s.size≤maxLen):Wt T t (.str s)
 |slc (t:TypeId) (ti:TI) (e:TypeId) (es:List V) (h:tget T t=some ti) (hk:ti.k= .slc e) (hl:es.length≤maxLen) (he:∀(i:Nat) (y:V),es[i]? =some y→Wt T e y):Wt T t (.slc false e (dZ ti.zero).frz es)
 |agg (t:TypeId) (ti:TI) (fts:List (Nat×TypeId)) (fs:List V) (h:tget T t=some ti) (hk:ti.k= .agg fts) (hl:fs.length=fts.length)
  (he:∀(i:Nat) (o:Nat) (ft:TypeId) (y:V),fts[i]? =some (o,ft)→fs[i]? =some y→Wt T ft y):Wt T t (.agg fs)
section
variable {P:Program} {T:Tab}
theorem offs_wt:∀(fts:List (Nat×TypeId)) (n m:Nat) (fs:List V),offsC T fts n=some m→fs.length=fts.length→
 (∀(i:Nat) (o:Nat) (ft:TypeId) (y:V),fts[i]? =some (o,ft)→fs[i]? =some y→y.size=tcells T ft)→
 n+V.sizes fs=m∧∀(i:Nat) (o:Nat) (ft:TypeId),fts[i]? =some (o,ft)→o=n+V.offs fs i
 |[],n,m,fs,h,hl,_=>by
  simp only [offsC,Option.some.injEq] at h
  subst h
  have:fs=[]:=List.eq_nil_of_length_eq_zero hl
  subst this
  exact ⟨by simp [V.sizes],fun i o ft h=>by simp at h⟩
 |(o,t)::fts,n,m,[],h,hl,_=>by simp at hl
 |(o,t)::fts,n,m,y::fs,h,hl,hs=>by
  simp only [offsC] at h
  split at h
  ·rename_i ti hti
   split at h
   ·rename_i hc
    obtain ⟨ho,_⟩:=hc
    subst ho
    have hy:y.size=ti.cells:=by
     have:=hs 0 o t y rfl rfl
     simp only [tcells,hti] at this
     exact this
    obtain ⟨h1,h2⟩:=offs_wt fts (o+ti.cells) m fs h (by simpa using hl) (fun i o ft y a b=>hs (i+1) o ft y (by simpa using a) (by simpa using b))
    refine ⟨by simp only [V.sizes];omega,fun i o' ft hi=> ?_⟩
    cases i with
    |zero=>
     simp only [List.getElem?_cons_zero,Option.some.injEq,Prod.mk.injEq] at hi
     obtain ⟨rfl,rfl⟩:=hi
     simp [V.offs,V.sizes]
    |succ i=>
     have:=h2 i o' ft (by simpa using hi)
     simp only [V.offs,List.take_succ_cons,V.sizes] at this ⊢
     omega
   ·cases h
  ·cases h
theorem kind_of {T:Tab} {t:TypeId} {ti:TI} {k:IntKind} (h:tget T t=some ti) (hk:ti.k= .int k):kindT T t=some k:=by
 obtain ⟨tk,tc,tz⟩:=ti
 simp only at hk
 subst hk
 simp [kindT,h]
theorem bool_of {T:Tab} {t:TypeId} {ti:TI} (h:tget T t=some ti) (hk:ti.k= .bool):isBoolT T t=true:=by
 obtain ⟨tk,tc,tz⟩:=ti
 simp only at hk
 subst hk
 simp [isBoolT,h]
theorem str_of {T:Tab} {t:TypeId} {ti:TI} (h:tget T t=some ti) (hk:ti.k= .str):isStrT T t=true:=by
 obtain ⟨tk,tc,tz⟩:=ti
 simp only at hk
 subst hk
 simp [isStrT,h]
theorem elem_of {T:Tab} {t e:TypeId} {ti:TI} (h:tget T t=some ti) (hk:ti.k= .slc e):elemT T t=some e:=by
 obtain ⟨tk,tc,tz⟩:=ti
 simp only at hk
 subst hk
 simp [elemT,h]
theorem fields_of {T:Tab} {t:TypeId} {ti:TI} {fs:List (Nat×TypeId)} (h:tget T t=some ti) (hk:ti.k= .agg fs):fieldsT T t=some fs:=by
 obtain ⟨tk,tc,tz⟩:=ti
 simp only at hk
 subst hk
 simp [fieldsT,h]
theorem Wt.size (hT:TabOk P T) {t:TypeId} {x:V} (h:Wt T t x):x.size=tcells T t∧x.owned=false:=by
 induction h with
 |int t ti k n h hk hn=>
  have hc:=hT.c h
  simp only [chkTI,hk,decide_eq_true_eq] at hc
  exact ⟨by simp [V.size,tcells,h,hc],rfl⟩
 |bool t ti b h hk=>
  have hc:=hT.c h
  simp only [chkTI,hk,decide_eq_true_eq] at hc
  exact ⟨by simp [V.size,tcells,h,hc],rfl⟩
 |str t ti s h hk hs=>
  have hc:=hT.c h
  simp only [chkTI,hk,decide_eq_true_eq] at hc
  exact ⟨by simp [V.size,tcells,h,hc],rfl⟩
 |slc t ti e es h hk hl he ih=>
  have hc:=hT.c h
  simp only [chkTI,hk,Bool.and_eq_true,decide_eq_true_eq] at hc
  exact ⟨by simp [V.size,tcells,h,hc.1],rfl⟩
 |agg t ti fts fs h hk hl he ih=>
  have hc:=hT.c h
  simp only [chkTI,hk,decide_eq_true_eq] at hc
  obtain ⟨h1,_⟩:=offs_wt fts 0 ti.cells fs hc hl (fun i o ft y a b=>(ih i o ft y a b).1)
  refine ⟨by simp only [V.size,tcells,h];omega,?_⟩
  simp only [V.owned,V.owneds_eq,List.any_eq_false]
  intro y hy
  obtain ⟨i,hi⟩:=List.getElem?_of_mem hy
  have hil:i<fts.length:=by
   have:=(List.getElem?_eq_some_iff.1 hi).1
   omega
  rw [(ih i (fts[i]'hil).1 (fts[i]'hil).2 y (List.getElem?_eq_getElem hil) hi).2]
  simp
section
variable {H:Type} {enc:TypeId×Value→H} {w:World} {base:Nat} {spare:Nat→Bool} {held:Bool}
theorem cells_of {w:World} {base:Nat} {a:Addr} {n:Nat} {cs:List Value} (h:w.cells? base a n=some cs) (hs:a.spot=none):cs.length=n∧Cells w a.block a.off cs:=by
 obtain ⟨_,h1,h2⟩:=World.cells?_some h
 refine ⟨h1,fun j v hj=> ?_⟩
 have hjn:j<n:=by
  have:=(List.getElem?_eq_some_iff.1 hj).1
  omega
 rw [←hj,←h2 j hjn]
 congr 1
 unfold Addr.add
 split
 ·rename_i h0;subst h0;cases a;simp_all
 ·rfl
theorem trod_wt (hT:TabOk P T):∀(fuel:Nat) (t:TypeId) (ti:TI) (cs:List Value) (x:DataW H×List MemPlace),tget T t=some ti→ti.k≠.oth→
 (∀t ti,tget T t=some ti→ti.k≠.oth)→
 DataW.trod enc P w base spare held fuel t cs=some x→∃y,Wt T t y∧Rep P.cellsOf w (fun b=>b<w.heap.size) y cs (fun _=>False):=by
 intro fuel
 induction fuel with
 |zero=>intro t ti cs x _ _ _ h;simp [DataW.trod] at h
 |succ fuel ih=>
  intro t ti cs x ht hk hno h
  have hg:=hT.got ht
  cases hkk:ti.k with
  |int k=>
   have hu:P.underlying t=some (.int k):=by
    have:intT P t=some k:=hT.kind (kind_of ht hkk)
    unfold intT at this
    split at this
    ·rename_i heq;simp only [Option.some.injEq] at this;rw [heq,this]
    ·cases this
   obtain ⟨n,rfl,_,hw⟩:=DataW.trod_int hu h
   exact ⟨.int k n,.int t ti k n ht hkk hw,.int k n _⟩
  |bool=>
   have hu:P.underlying t=some .bool:=by
    have:boolT P t=true:=hT.bool (bool_of ht hkk)
    unfold boolT at this
    split at this
    ·rename_i heq;exact heq
    ·cases this
   obtain ⟨b,rfl,_⟩:=DataW.trod_bool hu h
   exact ⟨.bool b,.bool t ti b ht hkk,.bool b _⟩
  |str=>
   have hu:P.underlying t=some .string:=by
    have:isStr P t=true:=hT.str (str_of ht hkk)
    unfold isStr at this
    split at this
    ·rename_i heq;exact heq
    ·cases this
   obtain ⟨s,rfl,_,hs⟩:=DataW.trod_string hu h
   exact ⟨.str s,.str t ti s ht hkk hs,.str s _⟩
  |slc e=>
   have hu:P.underlying t=some (.slice e):=by
    have:elemOf P t=some e:=hT.elem (elem_of ht hkk)
    unfold elemOf at this
    split at this
    ·rename_i heq;simp only [Option.some.injEq] at this;rw [heq,this]
    ·cases this
   have hc:=hT.c ht
   simp only [chkTI,hkk,Bool.and_eq_true,decide_eq_true_eq] at hc
   rcases DataW.trod_slice hu h with ⟨rfl,_⟩|⟨a,len,cap,elems,rest,n,hn,rfl,_,hb,hl,hm,hlen,hel,hsA,hsB⟩
   ·exact ⟨.slc false e (dZ ti.zero).frz [],.slc t ti e [] ht hkk (Nat.zero_le _) (fun i y h=>by simp at h),.fz0 e _ _ _ _⟩
   ·obtain rfl:n=fuel:=by omega
    cases hte:tget T e with
    |none=>rw [hte] at hc;simp at hc
    |some te=>
     rw [hte] at hc
     simp only [decide_eq_true_eq] at hc
     have hce:P.cellsOf e=te.cells:=hT.cells hte
     by_cases h0:len=0
     ·subst h0
      exact ⟨.slc false e (dZ ti.zero).frz [],.slc t ti e [] ht hkk (Nat.zero_le _) (fun i y h=>by simp at h),.fz0 e _ _ _ _⟩
     ·have hspot:a.spot=none∧a.block<w.heap.size:=by
       have h1:=hel 0 (by omega)
       obtain ⟨y0,hy0⟩:∃y,elems[0]? =some y:=⟨_,List.getElem?_eq_getElem (by omega)⟩
       rw [hy0,Option.bind_eq_some_iff] at h1
       obtain ⟨cs',hcs,_⟩:=h1
       obtain ⟨_,h2,h3⟩:=World.cells?_some hcs
       have h4:=h3 0 (by omega)
       rw [Nat.zero_mul] at h4
       have hp:0<cs'.length:=by omega
       rw [List.getElem?_eq_getElem hp] at h4
       have hadd:(a.add 0).add 0=a:=by simp [Addr.add]
       rw [hadd] at h4
       unfold World.cell? at h4
       split at h4
       ·rename_i heq
        refine ⟨?_,(Array.getElem?_eq_some_iff.1 heq).1⟩
        cases hsp:a.spot with
        |none=>rfl
        |some s=>simp [hsp] at h4
       ·cases h4
      have each:∀i,i<len→∃y cs',Wt T e y∧Rep P.cellsOf w (fun b=>b<w.heap.size) y cs' (fun _=>False)∧cs'.length=P.cellsOf e∧Cells w a.block (a.off+i*P.cellsOf e) cs':=by
       intro i hi
       have h1:=hel i hi
       obtain ⟨y0,hy0⟩:∃y,elems[i]? =some y:=⟨_,List.getElem?_eq_getElem (by omega)⟩
       rw [hy0,Option.bind_eq_some_iff] at h1
       obtain ⟨cs',hcs,htr⟩:=h1
       obtain ⟨y,hy1,hy2⟩:=ih e te cs' y0 hte (hno e te hte) hno htr
       have hadd:(a.add (i*P.cellsOf e)).spot=none∧(a.add (i*P.cellsOf e)).block=a.block∧(a.add (i*P.cellsOf e)).off=a.off+i*P.cellsOf e:=by
        unfold Addr.add
        split
        ·rename_i h0;exact ⟨hspot.1,rfl,by omega⟩
        ·exact ⟨rfl,rfl,rfl⟩
       obtain ⟨c1,c2⟩:=cells_of hcs hadd.1
       rw [hadd.2.1,hadd.2.2] at c2
       exact ⟨y,cs',hy1,hy2,c1,c2⟩
      have:∃(es:List V) (cf:Nat→List Value),es.length=len∧∀i y,es[i]? =some y→Wt T e y∧Rep P.cellsOf w (fun b=>b<w.heap.size) y (cf i) (fun _=>False)∧(cf i).length=P.cellsOf e∧Cells w a.block (a.off+i*P.cellsOf e) (cf i):=by
       clear hel hlen hl hm h0 h hsA hsB
       induction len with
       |zero=>exact ⟨[],fun _=>[],rfl,fun i y h=>by simp at h⟩
       |succ len ihl=>
        obtain ⟨es,cf,e1,e2⟩:=ihl (fun i hi=>each i (by omega))
        obtain ⟨y,cs',q1,q2,q3,q4⟩:=each len (by omega)
        refine ⟨es++[y],fun i=>if i=len then cs' else cf i,by simp [e1],fun i z hz=> ?_⟩
        by_cases hi:i<es.length
        ·rw [List.getElem?_append_left hi] at hz
         simp only [if_neg (show ¬i=len by omega)]
         exact e2 i z hz
        ·rw [List.getElem?_append_right (by omega)] at hz
         have hil:=(List.getElem?_eq_some_iff.1 hz).1
         simp only [List.length_cons,List.length_nil] at hil
         obtain rfl:i=len:=by omega
         have:i-es.length=0:=by omega
         rw [this] at hz
         simp only [List.getElem?_cons_zero,Option.some.injEq] at hz
         subst hz
         simp only [if_true]
         exact ⟨q1,q2,q3,q4⟩
      obtain ⟨es,cf,e1,e2⟩:=this
      have ha:(some a)=some ⟨a.block,a.off,none⟩:=by rw [←hspot.1]
      rw [ha]
      exact ⟨.slc false e (dZ ti.zero).frz es,.slc t ti e es ht hkk (by omega) (fun i y hi=>(e2 i y hi).1),
       .fz e _ es a.block a.off len cap cf _ e1.symm (by omega) hm hspot.2 (fun i hi=>by
        obtain ⟨y,hy⟩:∃y,es[i]? =some y:=⟨_,List.getElem?_eq_getElem hi⟩
        exact ⟨(e2 i y hy).2.2.1,(e2 i y hy).2.2.2⟩) (fun i y hi=>(e2 i y hi).2.1)⟩
  |agg fts=>
   have hf:fieldsOf P t=some fts:=hT.fields (fields_of ht hkk)
   have hu:∃fs:Array Field,P.underlying t=some (.struct fs)∧fts=fs.toList.map fun x=>(x.offset,x.type):=by
    unfold fieldsOf at hf
    split at hf
    ·rename_i fs heq
     simp only [Option.some.injEq] at hf
     exact ⟨fs,heq,hf.symm⟩
    ·cases hf
   obtain ⟨fa,hu,rfl⟩:=hu
   have hc:=hT.c ht
   simp only [chkTI,hkk,decide_eq_true_eq] at hc
   obtain ⟨xs,n,hn,_,hcl,hxl,hxs⟩:=DataW.trod_struct hu h
   obtain rfl:n=fuel:=by omega
   have hmem:∀(i o:Nat) (ft:TypeId),(fa.toList.map fun x=>(x.offset,x.type))[i]? =some (o,ft)→∃te,tget T ft=some te:=by
    intro i o ft hi
    have key:∀(l:List (Nat×TypeId)) (n m:Nat),offsC T l n=some m→∀(i:Nat) (o:Nat) (ft:TypeId),l[i]? =some (o,ft)→∃te,tget T ft=some te:=by
     intro l
     induction l with
     |nil=>intro n m _ i o ft h;simp at h
     |cons z l ihl=>
      intro n m hh i o ft hz
      obtain ⟨o',t'⟩:=z
      simp only [offsC] at hh
      split at hh
      ·rename_i te hte
       split at hh
       ·cases i with
        |zero=>
         simp only [List.getElem?_cons_zero,Option.some.injEq,Prod.mk.injEq] at hz
         obtain ⟨rfl,rfl⟩:=hz
         exact ⟨te,hte⟩
        |succ i=>exact ihl _ _ hh i o ft (by simpa using hz)
       ·cases hh
      ·cases hh
    exact key _ _ _ hc i o ft hi
   have each:∀(i:Nat) (f:Field),fa[i]? =some f→∃y,Wt T f.type y∧Rep P.cellsOf w (fun b=>b<w.heap.size) y ((cs.drop f.offset).take (P.cellsOf f.type)) (fun _=>False):=by
    intro i f hi
    have h1:=hxs i f hi
    have hil:i<xs.length:=by
     have:=(Array.getElem?_eq_some_iff.1 hi).1
     omega
    rw [List.getElem?_eq_getElem hil] at h1
    obtain ⟨te,hte⟩:=hmem i f.offset f.type (by rw [List.getElem?_map,Array.getElem?_toList,hi];rfl)
    exact ih f.type te _ _ hte (hno _ _ hte) hno h1
   have:∃ys:List V,ys.length=fa.size∧∀(i:Nat) (f:Field) (y:V),fa[i]? =some f→ys[i]? =some y→Wt T f.type y∧Rep P.cellsOf w (fun b=>b<w.heap.size) y ((cs.drop f.offset).take (P.cellsOf f.type)) (fun _=>False):=by
    have key:∀m,m≤fa.size→∃ys:List V,ys.length=m∧∀(i:Nat) (f:Field) (y:V),fa[i]? =some f→ys[i]? =some y→Wt T f.type y∧Rep P.cellsOf w (fun b=>b<w.heap.size) y ((cs.drop f.offset).take (P.cellsOf f.type)) (fun _=>False):=by
     intro m
     induction m with
     |zero=>intro _;exact ⟨[],rfl,fun i f y _ h=>by simp at h⟩
     |succ m ihm=>
      intro hm
      obtain ⟨ys,e1,e2⟩:=ihm (by omega)
      obtain ⟨y,q1,q2⟩:=each m (fa[m]'(by omega)) (Array.getElem?_eq_getElem (by omega))
      refine ⟨ys++[y],by simp [e1],fun i f z hf hz=> ?_⟩
      by_cases hi:i<ys.length
      ·rw [List.getElem?_append_left hi] at hz
       exact e2 i f z hf hz
      ·rw [List.getElem?_append_right (by omega)] at hz
       have hil:=(List.getElem?_eq_some_iff.1 hz).1
       simp only [List.length_cons,List.length_nil] at hil
       obtain rfl:i=m:=by omega
       have:i-ys.length=0:=by omega
       rw [this] at hz
       simp only [List.getElem?_cons_zero,Option.some.injEq] at hz
       subst hz
       rw [Array.getElem?_eq_getElem (by omega)] at hf
       simp only [Option.some.injEq] at hf
       subst hf
       exact ⟨q1,q2⟩
    exact key fa.size (Nat.le_refl _)
   obtain ⟨ys,e1,e2⟩:=this
   have hw:∀(i:Nat) (o:Nat) (ft:TypeId) (y:V),(fa.toList.map fun x=>(x.offset,x.type))[i]? =some (o,ft)→ys[i]? =some y→Wt T ft y:=by
    intro i o ft y hi hy
    rw [List.getElem?_map,Array.getElem?_toList] at hi
    cases hfi:fa[i]? with
    |none=>rw [hfi] at hi;cases hi
    |some f=>
     rw [hfi] at hi
     simp only [Option.map_some,Option.some.injEq,Prod.mk.injEq] at hi
     obtain ⟨rfl,rfl⟩:=hi
     exact (e2 i f y hfi hy).1
   have hwt:Wt T t (.agg ys):= .agg t ti _ ys ht hkk (by simp [e1]) hw
   obtain ⟨o1,o2⟩:=offs_wt _ 0 ti.cells ys hc (by simp [e1]) (fun i o ft y a b=>((hw i o ft y a b).size hT).1)
   refine ⟨.agg ys,hwt,.agg ys cs (fun _ _=>False) _ ?_ (fun _ _ h=>h) (fun _ _ _ _ h=>h.elim) (fun i y hy=> ?_)⟩
   ·rw [hcl,hT.cells ht]
    omega
   ·have hif:i<fa.size:=by
     have:=(List.getElem?_eq_some_iff.1 hy).1
     omega
    obtain ⟨w1,w2⟩:=e2 i fa[i] y (Array.getElem?_eq_getElem hif) hy
    have hoff:=o2 i fa[i].offset fa[i].type (by rw [List.getElem?_map,Array.getElem?_toList,Array.getElem?_eq_getElem hif];rfl)
    rw [Nat.zero_add] at hoff
    have hsz:y.size=P.cellsOf fa[i].type:=by
     rw [(w1.size hT).1]
     obtain ⟨te,hte⟩:=hmem i fa[i].offset fa[i].type (by rw [List.getElem?_map,Array.getElem?_toList,Array.getElem?_eq_getElem hif];rfl)
     rw [hT.cells hte]
     simp [tcells,hte]
    rw [←hoff,hsz]
    exact w2
  |oth=>exact absurd hkk hk
theorem reg_of {t:TypeId} {ti:TI} {r:Reach} {b0:Nat} {v:Value} {y:V} (hT:TabOk P T) (ht:tget T t=some ti) (hv:Value.okWide P w r b0 t v) (hy:Wt T t y):y.reg v.cells.toList v:=by
 have hnagg:kAgg ti.k=false→v.cells.toList=[v]:=by
  intro hk
  have hag:=hT.agg ht
  rw [hk] at hag
  have hcell:∀w' r' b',Cell.okWide P w' r' b' t v→v.cells.toList=[v]:=by
   intro w' r' b' hc
   unfold Cell.okWide at hc
   split at hc<;>first|rfl|skip
   unfold Cell.ok at hc
   split at hc<;>first|rfl|exact hc.elim
  unfold Value.okWide at hv
  unfold aggT at hag
  split at hv
  ·rename_i heq;rw [heq] at hag;simp at hag
  ·rename_i heq;rw [heq] at hag;simp at hag
  ·exact hcell _ _ _ hv
 cases hy with
 |int _ ti' k n h hk hn=>rw [ht] at h;cases h;rw [hnagg (by rw [hk];rfl)];rfl
 |bool _ ti' b h hk=>rw [ht] at h;cases h;rw [hnagg (by rw [hk];rfl)];rfl
 |str _ ti' s' h hk hs=>rw [ht] at h;cases h;rw [hnagg (by rw [hk];rfl)];rfl
 |slc _ ti' e es h hk hl he=>rw [ht] at h;cases h;rw [hnagg (by rw [hk];rfl)];rfl
 |agg _ ti' fts fs h hk hl he=>
  rw [ht] at h;cases h
  have hag:=hT.agg ht
  rw [hk] at hag
  unfold aggT at hag
  unfold Value.okWide at hv
  split at hv
  ·obtain ⟨cs,rfl,_⟩:=hv;simp [V.reg,Value.cells]
  ·obtain ⟨cs,rfl,_⟩:=hv;simp [V.reg,Value.cells]
  ·rename_i h1 h2
   split at hag
   ·rename_i heq;exact (h1 _ heq).elim
   ·rename_i heq;exact (h2 _ _ heq).elim
   ·simp [kAgg] at hag
   ·cases hag
end
end
section
variable {H:Type} {enc:TypeId×Value→H} {P:Program} {T:Tab}
theorem trodAll_length:∀{ts:List TypeId} {vs:List Value} {ds:List (DataW H)} {ps:List MemPlace} {w:World} {b:Nat} {sp:Nat→Bool} {hd:Bool},DataW.TrodAll enc P w b sp hd ts vs ds ps→vs.length=ts.length∧ds.length=ts.length
 |[],[],[],_,_,_,_,_,_=>⟨rfl,rfl⟩
 |_::ts,_::vs,_::ds,_,_,_,_,_,h=>by
  obtain ⟨p,q,_,h2,_⟩:=h
  obtain ⟨a,b⟩:=trodAll_length h2
  exact ⟨by simp [a],by simp [b]⟩
 |[],_::_,_,_,_,_,_,_,h=>h.elim
 |[],[],_::_,_,_,_,_,_,h=>h.elim
 |_::_,[],_,_,_,_,_,_,h=>h.elim
 |_::_,_::_,[],_,_,_,_,_,h=>h.elim
theorem trodAll_open (hT:TabOk P T) (hno:∀t ti,tget T t=some ti→ti.k≠.oth) {W:World} {r:Reach} {b0:Nat}:∀{ts:List TypeId} {vs:List Value} {ds:List (DataW H)} {ps:List MemPlace} {b:Nat} {sp:Nat→Bool} {hd:Bool},
 DataW.TrodAll enc P W b sp hd ts vs ds ps→(∀t∈ts,(tget T t).isSome=true)→(∀(j:Nat) (t:TypeId) (v:Value),ts[j]? =some t→vs[j]? =some v→Value.okWide P W r b0 t v)→
 ∃xs:List V,xs.length=ts.length∧(∀(j:Nat) (t:TypeId) (x:V),ts[j]? =some t→xs[j]? =some x→Wt T t x)∧
  ∀(j:Nat) (x:V) (v:Value),xs[j]? =some x→vs[j]? =some v→x.reg v.cells.toList v∧Rep P.cellsOf W (fun b=>b<W.heap.size) x v.cells.toList (fun _=>False)
 |[],[],[],_,_,_,_,_,_,_=>⟨[],rfl,fun j t x h=>by simp at h,fun j x v h=>by simp at h⟩
 |t::ts,v::vs,d::ds,_,_,_,_,h,ht,hv=>by
  obtain ⟨p,q,⟨fuel,h1⟩,h2,_⟩:=h
  obtain ⟨xs,e1,e2,e3⟩:=trodAll_open hT hno h2 (fun t ht'=>ht t (List.mem_cons_of_mem _ ht')) (fun j t v a b=>hv (j+1) t v (by simpa using a) (by simpa using b))
  obtain ⟨ti,hti⟩:=Option.isSome_iff_exists.1 (ht t (by simp))
  obtain ⟨y,y1,y2⟩:=trod_wt hT fuel t ti _ _ hti (hno _ _ hti) hno h1
  refine ⟨y::xs,by simp [e1],fun j t' x a b=> ?_,fun j x v' a b=> ?_⟩
  ·cases j with
   |zero=>
    simp only [List.getElem?_cons_zero,Option.some.injEq] at a b
    subst a;subst b
    exact y1
   |succ j=>exact e2 j t' x (by simpa using a) (by simpa using b)
  ·cases j with
   |zero=>
    simp only [List.getElem?_cons_zero,Option.some.injEq] at a b
    subst a;subst b
    exact ⟨reg_of hT hti (hv 0 t v rfl rfl) y1,y2⟩
   |succ j=>exact e3 j x v' (by simpa using a) (by simpa using b)
 |[],_::_,_,_,_,_,_,h,_,_=>h.elim
 |[],[],_::_,_,_,_,_,h,_,_=>h.elim
 |_::_,[],_,_,_,_,_,h,_,_=>h.elim
 |_::_,_::_,[],_,_,_,_,h,_,_=>h.elim
theorem trodAll_below (hl:laidOutB P=true) {W W':World} (hb:Below W.heap.size W W'):∀{ts:List TypeId} {vs:List Value} {ds:List (DataW H)} {ps:List MemPlace},
 (∀t∈ts,P.readableRec t=true∧t<P.types.size)→DataW.TrodAll enc P W 0 (fun _=>true) true ts vs ds ps→(∀x∈ps,x.block<W.heap.size)→
 DataW.TrodAll enc P W' 0 (fun b=>decide (b<W.heap.size)) true ts vs ds ps
 |[],[],[],_,_,h,_=>h
 |t::ts,v::vs,d::ds,_,ht,h,hlt=>by
  obtain ⟨p,q,h1,h2,rfl⟩:=h
  exact ⟨p,q,Below.trod hl (ht t (by simp)).1 (ht t (by simp)).2 h1 hb (fun x hx=>hlt x (List.mem_append_left _ hx)),
   trodAll_below hl hb (fun t ht'=>ht t (List.mem_cons_of_mem _ ht')) h2 (fun x hx=>hlt x (List.mem_append_right _ hx)),rfl⟩
 |[],_::_,_,_,_,h,_=>h.elim
 |[],[],_::_,_,_,h,_=>h.elim
 |_::_,[],_,_,_,h,_=>h.elim
 |_::_,_::_,[],_,_,h,_=>h.elim
theorem law_calls {f:Func} {k:FuncId} {s:ChangeSpec} (hl:laidOutB P=true) (hT:TabOk P T) (hno:∀t ti,tget T t=some ti→ti.k≠.oth)
 (hps:∀t∈f.params.toList,(tget T t).isSome=true∧P.readableRec t=true∧t<P.types.size) (tb:TypeId) (hres:f.resultTypes= #[tb]) (htb:P.underlying tb=some .bool)
 (hvars:s.vars=[]) (hfn:∀ds:List (DataW H),ds.length=f.params.size→s.fn H ds={results:=[.lit (.bool true)],args:=ds})
 (hok:∀xs:List V,xs.length=f.params.size→(∀(j:Nat) (t:TypeId) (x:V),f.params[j]? =some t→xs[j]? =some x→Wt T t x)→FnOk P k xs (.bool true))
 {W:World} {base:Nat} {args:Array Value} {ds gs:List (DataW H)} {before:List MemPlace}
 (hval:∀(j:Nat) (t:TypeId) (v:Value),f.params[j]? =some t→args[j]? =some v→Value.okWide P W .any base t v)
 (hW:DataW.Whole enc P f.params.toList s.vars false W args.toList ds gs before) (hG:Gl P W (fun b=>b<W.heap.size):=by exact gl_none (by kernel_rfl) _ _):
 Calls P k args W (fun e W'=>∃v,e= .returned v∧s.post enc P f false true false false W args v W'):=by
 have hW':=hW
 obtain ⟨p,q,hA,hV,rfl,hfz,hnd⟩:=hW
 rw [hvars] at hV
 obtain ⟨rfl,rfl⟩:=trodVars_none hV
 obtain ⟨xs,x1,x2,x3⟩:=trodAll_open hT hno hA (fun t ht=>(hps t ht).1) (fun j t v a b=>hval j t v (by simpa using a) (by simpa using b))
 have hlen:=trodAll_length hA
 have hsz:args.size=xs.length:=by
  have:=hlen.1
  simp only [Array.length_toList] at this
  rw [x1,this,Array.length_toList]
 have hok':=hok xs (by rw [x1,Array.length_toList]) (fun j t x a b=>x2 j t x (by simpa using a) b)
 refine (hok'.2 args W (fun b=>b<W.heap.size) hsz (fun i x hx=> ?_) (fun b h=>h) hG).mono ?_
 ·have hi:i<args.size:=by
   have:=(List.getElem?_eq_some_iff.1 hx).1
   omega
  have hgi:args.toList[i]? =some (args.getD i undef):=by
   rw [Array.getElem?_toList,Array.getElem?_eq_getElem hi,Array.getD_eq_getD_getElem?,Array.getElem?_eq_getElem hi]
   rfl
  exact ⟨_,x3 i x _ hx hgi⟩
 ·rintro e W' ⟨v,cs,On,Fr,he,hreg,hrep,_,_,hbelow⟩
  have hv:v= .bool true:=by
   cases hrep
   exact hreg
  subst hv
  refine ⟨_,he,?_⟩
  have hold:∀p'∈p++[],(fun b=>decide (b<W.heap.size)) p'.block=true:=fun p' hp=>by simpa using hW'.lt p' hp
  have hargs:DataW.TrodAll enc P W' 0 (fun b=>decide (b<W.heap.size)) true f.params.toList args.toList ds p:=
   trodAll_below hl hbelow.below (fun t ht=>⟨(hps t ht).2.1,(hps t ht).2.2⟩) hA (fun x hx=>hW'.lt x (List.mem_append_left _ hx))
  have hf2:=hfn ds (by rw [hlen.2,Array.length_toList])
  refine ⟨ds,[],p++[],[],p,[],hW',?_,?_,?_,World.keptBut_mono (fun p' hp=>hp.elim) (hbelow.below.frame (fun _=>False)),fun h=>(Bool.false_ne_true h).elim⟩
  ·rw [List.append_nil,hf2,hres]
   exact trodAll_mk1 (shut_bool htb true)
  ·rw [List.append_nil,hf2]
   exact hargs
  ·rw [List.append_nil,hf2,hvars]
   exact rfl
end
end Go.Ax
namespace Go.Ax
open Go.RowKit
section
theorem fnMv_of {P:Program} {T:Tab} {B:Book} {Bi:IBook} {k:FuncId} {fn:Func} {body:Code} {args:List V} {r:V} {n:Nat} (j:Nat) (ks:List Nat) (hf:P.funcs[k]? =some fn) (hb:fn.body=some body) (hn:fn.ntmps=n) (hname:(fn.name== "runtime.NumGoroutine")=false)
 (hl:args.length≤n) (hm:P.follows .mixedOrders=true) (hT:TabOk P T) (hB:BookOk P B) (hBi:BookIOk P Bi) (hck:chkCode T ks 0 false body=true) (hj:j<args.length)
 (h:∀(L:Alg) (lp:LoopA) (rr:V),L=std T→rr=r→FactS (argS 0 args)→LoopOk L T B Bi n ks lp→wpS L T lp B Bi n ks body (retS L T fn.results.toList rr) (argS 0 args)):FnMv P k j args r:=by
 refine ⟨⟨fn,hf,hname,by rw [hb];rfl⟩,hj,fun vals w F Oj hsz hv hF hOj hG=> ?_⟩
 refine calls_of_wp hf hb ?_
 let C:Ctx:={P:=P,Φ:=phi B,w0:=w,X:=Oj,F0:=F,nt:=n,Ψ:=psi Bi,lo:=0,t0:= #[],st:=false}
 have hGC:GlC C:=⟨hG,fun b hb=>⟨hF b hb,fun h=>(hOj b h).2 hb⟩⟩
 have hC:CtxOk C:=phi_ok (C:=C) hGC rfl hB
 have hIO:IOk C:=psi_ok (C:=C) hGC rfl hBi
 let σ:Env:=fun t=>if t<args.length then ⟨true,true,0,.val (args.getD t (.hole 0))⟩ else ⟨false,true,0,.val (.hole 0)⟩
 have hts:(vals++Array.replicate (fn.ntmps-vals.size) undef).size=n:=by
  simp only [Array.size_append,Array.size_replicate]
  omega
 have hgl:∀t,t<args.length→(vals++Array.replicate (fn.ntmps-vals.size) undef).getD t undef=vals.getD t undef:=by
  intro t ht
  simp only [Array.getD_eq_getD_getElem?]
  rw [Array.getElem?_append_left (by omega)]
 have hgr:∀t,¬t<args.length→(vals++Array.replicate (fn.ntmps-vals.size) undef).getD t undef=undef:=by
  intro t ht
  simp only [Array.getD_eq_getD_getElem?]
  rw [Array.getElem?_append_right (by omega)]
  by_cases h:t-vals.size<fn.ntmps-vals.size
  ·simp [h]
  ·simp [h]
 have hA:Agr (argS 0 args) σ:=by
  refine ⟨fun t g a h=> ?_,fun t h=> ?_⟩
  ·obtain ⟨j,x,e1,e2,e3,e4⟩:=argS_mem _ _ _ _ _ h
   subst e3;subst e4
   simp only [Nat.zero_add] at e1
   subst e1
   have hlt:t<args.length:=(List.getElem?_eq_some_iff.1 e2).1
   simp only [σ,if_pos hlt,gb,vz,getD_of_some e2]
   exact ⟨trivial,trivial,fun _=>trivial⟩
  ·by_cases hlt:t<args.length
   ·exact absurd (by have:=mem_argS args 0 t _ (some_of_lt (.hole 0) hlt);simpa using this) (h (none,.val (args.getD t (.hole 0))))
   ·simp [σ,hlt,E.owner]
 have hI:Inv C F (fun t=>if t=j then Oj else fun _=>False) (fun _=>False) σ {tmps:=vals++Array.replicate (fn.ntmps-vals.size) undef,defers:=[]} w:=by
  have hO:∀s b,(if s=j then Oj else fun _=>False) b→s=j∧Oj b:=by
   intro s b hb
   split at hb
   ·rename_i e;exact ⟨e,hb⟩
   ·exact hb.elim
  refine ⟨fun t hg=> ?_,fun s t b hst hb hb'=>hst ((hO s b hb).1.trans (hO t b hb').1.symm),fun s b hb=>(hOj b (hO s b hb).2).2,fun _ _ _ h=>h,fun _ h=>h.elim,fun s b hb=>(hOj b (hO s b hb).2).1,fun _ h=>h.elim,hF,fun s b hb=> .inr (hO s b hb).2,fun _ h=>h.elim,fun _ h=>h,fun _ h=> .inl h,fun _ _ _=>rfl,Nat.le_refl _,rfl,rfl,OutK.refl _,rfl,fun t s ver hr=> ?_,fun t hg hu=> ?_,hts,fun _ h=>absurd h (Nat.not_lt_zero _),fun h=>by cases h⟩
  ·have hlt:t<args.length:=by
    by_cases hlt:t<args.length
    ·exact hlt
    ·simp [σ,hlt] at hg
   refine ⟨by rw [hts];omega,fun x hx=> ?_,fun hn=>absurd (by simp only [σ,if_pos hlt]) (hn (args.getD t (.hole 0)))⟩
   simp only [σ,if_pos hlt,A.val.injEq] at hx
   subst hx
   rw [hgl t hlt]
   obtain ⟨v1,v2,v3⟩:=hv t _ (some_of_lt (.hole 0) hlt)
   exact ⟨v1,v2,v3⟩
  ·simp only [σ] at hr
   split at hr<;>simp [A.refs] at hr
  ·have hlt:¬t<args.length:=by
    intro hlt
    simp [σ,hlt] at hg
   exact hgr t hlt
 have hGS:GS C (argS 0 args) {tmps:=vals++Array.replicate (fn.ntmps-vals.size) undef,defers:=[]} w:=⟨σ,hA,F,_,hI⟩
 have hw:=wpS_sound (C:=C) hC hIO hT rfl ⟨rfl,fun h=>by cases h⟩ hm (lp:=lpOf T ks C) (fun c Q S h1 h2=>h2 h1) body _ _ hck (h (std T) (lpOf T ks C) r rfl rfl hGS.facts (loopOk hC hIO hT rfl ⟨rfl,fun h=>by cases h⟩ hm ks)) _ w hGS
 refine Code.wp_mono (fun e a' w' hq=> ?_) hw
 obtain ⟨S',q1,σ',hA',F',O',hI'⟩:=hq
 have fin:(match resS (std T) T fn.results.toList S' with
  |some (ps,l)=>conj ps (oneV l=r)
  |none=>False)→a'.defers=[]∧∃v,(results fn a'.tmps).run P w'= .ok v w'∧∃(v':Value) (cs:List Value) (On Fr:Nat→Prop),Ending.returned v= .returned v'∧r.reg cs v'∧Rep P.cellsOf w' (fun b=>F b∨Fr b) r cs On∧(∀b,On b∨Fr b→Oj b∨(w.heap.size≤b∧b<w'.heap.size))∧(∀b,On b→¬Fr b)∧
  w.heap.size≤w'.heap.size∧w'.os=w.os∧w'.tape=w.tape∧OutK w w'∧(∀k,k<w.heap.size→¬Oj k→w'.heap[k]? =w.heap[k]?):=by
  intro hq
  split at hq
  ·rename_i ps l hres
   rw [conj_iff] at hq
   obtain ⟨f2,vf,css,Ons,f1,f3,f4,f5,f6⟩:=resS_sound (C:=C) hT _ _ _ _ _ _ _ _ _ _ hI' hA' hres hq.1
   obtain ⟨vs,g0,g1,g2⟩:=results_all (fn:=fn) a'.tmps P w' vf f1
   refine ⟨hI'.defers,_,g2,?_⟩
   have hFr:∀b,F' b→F b∨(F' b∧(Oj b∨w.heap.size≤b)):=fun b hb=>(hI'.ffr b hb).imp id (fun h=>⟨hb,h.elim .inr (fun h=> .inl h.2)⟩)
   have hOn:∀i b,Ons i b→(Oj b∨(w.heap.size≤b∧b<w'.heap.size))∧¬F' b:=fun i b hb=>⟨(f6 i b hb).1.elim (fun h=> .inr ⟨h,(f6 i b hb).2.1⟩) .inl,(f6 i b hb).2.2⟩
   have hFn:∀b,F' b∧(Oj b∨w.heap.size≤b)→Oj b∨(w.heap.size≤b∧b<w'.heap.size):=fun b hb=>hb.2.imp id (fun h=>⟨h,hI'.flt b hb.1⟩)
   have hsz:vs.size=l.length:=by
    rw [g0,f2,Array.length_toList]
   by_cases h1:vs.size=1
   ·rw [dif_pos h1]
    have:∃y,l=[y]:=by
     match l,(by omega:l.length=1) with
     |[y],_=>exact ⟨y,rfl⟩
    obtain ⟨y,rfl⟩:=this
    have hr:y=r:=hq.2
    subst hr
    obtain ⟨e1,e2⟩:=f3 0 y rfl
    have hv0:vs[0]=vf 0:=by
     rw [←g1 0 (by omega)]
     simp [Array.getD_eq_getD_getElem?,h1]
    refine ⟨_,css 0,Ons 0,fun b=>F' b∧(Oj b∨w.heap.size≤b),rfl,by rw [hv0];exact e1,e2.mono hFr (fun _ h=>h),fun b hb=> ?_,fun b hb hf=>(hOn 0 b hb).2 hf.1,hI'.size,hI'.os,hI'.tape,hI'.output,fun k hk hn=>hI'.old k hk hn⟩
    rcases hb with hb|hb
    ·exact (hOn 0 b hb).1
    ·exact hFn b hb
   ·rw [dif_neg h1]
    have hr: .tup l=r:=by
     have:=hq.2
     unfold oneV at this
     split at this
     ·rename_i x;exact absurd (by simpa using hsz) h1
     ·exact this
    subst hr
    refine ⟨_,[.tuple vs],fun b=>∃i,Ons i b,fun b=>F' b∧(Oj b∨w.heap.size≤b),rfl,rfl,?_,fun b hb=> ?_,fun b hb hf=> ?_,hI'.size,hI'.os,hI'.tape,hI'.output,fun k hk hn=>hI'.old k hk hn⟩
    ·refine .tup l vs css Ons _ hsz (fun i b hb=>⟨i,hb⟩) f5 (fun i x hx=> ?_) (fun i x hx=>((f3 i x hx).2).mono hFr (fun _ h=>h))
     have hil:=(List.getElem?_eq_some_iff.1 hx).1
     rw [g1 i (by omega)]
     exact (f3 i x hx).1
    ·rcases hb with ⟨i,hb⟩|hb
     ·exact (hOn i b hb).1
     ·exact hFn b hb
    ·obtain ⟨i,hb⟩:=hb
     exact (hOn i b hb).2 hf.1
  ·exact hq.elim
 cases e with
 |normal=>exact fin q1
 |ret=>exact fin q1
 |_=>exact q1.elim
end
end Go.Ax
namespace Go.Ax
section
variable {cz:TypeId→Nat} {w:World} {F:Nat→Prop} {x:V} {cs:List Value} {O:Nat→Prop}
end
end Go.Ax
