/-
  AX, AxP3: parts U to ZA of the abstract executor: values, environments, steps, regions, loops, functions. No conditions.
-/
import Derived.Test.YtnhfpgcicpfohaaDoorAxP2p1
set_option linter.all false
namespace Go.Ax
open Go.RowKit
def step (C:Ctx) (ops:Array Oper) (t:Bool) (σ:Env) (o:Oper):Option (Prop×Env):=
 if t then
  match lstep C ops σ o with
  |some r=>some r
  |none=>wstep C σ o
 else match o.dst with
  |some d=>if (σ d).owner then none else lstep C ops σ o
  |none=>none
def ev (C:Ctx) (ops:Array Oper):List Oper→List Bool→Env→(Env→Prop)→Prop
 |o::l,t::ts,σ,K=>match step C ops t σ o with
  |some (p,σ')=>p∧ev C ops l ts σ' K
  |none=>False
 |[],_,σ,K=>K σ
 |_::_,[],_,_=>False
section
variable {C:Ctx} {F:Nat→Prop} {O:Nat→Nat→Prop} {Z:Nat→Prop} {σ σ':Env} {a:Act} {w w':World} {ops:Array Oper}
theorem wstep_sound (hI:Inv C F O (fun _=>False) σ a w) {o:Oper} {i:Nat} (hi:ops[i]? =some o) {p:Prop} (h:wstep C σ o=some (p,σ')) (hp:p) {Q:Exit→Act→World→Prop}:wpOp C.P ops Q i (G C σ') a w:=by
 have hg:o.guard=none:=by
  cases hh:o.guard with
  |none=>rfl
  |some g=>simp [wstep,hh] at h
 have hw:o.wp C.P a w (G C σ') Q:=by
  have h':=h
  simp only [wstep,hg] at h'
  split at h'
  ·rename_i x d hop hd;exact wstep_assign hI hg hop hd h hp
  ·rename_i t x v hop hd;exact wstep_store hI hg hop hd h hp
  ·rename_i args ats d hop hd;exact wstep_append hI hg hop hd h hp
  ·cases h'
 unfold wpOp
 rw [hi]
 dsimp only
 rw [show Region.wanted o (yielded ops a.tmps)=true from by unfold Region.wanted;rw [hg]]
 exact .inl hw
theorem step_sound (hC:CtxOk C) {t:Bool} {o:Oper} {i:Nat} (hi:ops[i]? =some o) {p:Prop} (h:step C ops t σ o=some (p,σ')) (hp:p) {Q:Exit→Act→World→Prop} (hG:G C σ a w):wpOp C.P ops Q i (G C σ') a w:=by
 obtain ⟨F,O,hI⟩:=hG
 unfold step at h
 split at h
 ·split at h
  ·rename_i r hr
   simp only [Option.some.injEq] at h
   subst h
   exact lstep_sound hC hI hi hr hp
  ·exact wstep_sound hI hi h hp
 ·split at h
  ·split at h
   ·cases h
   ·exact lstep_sound hC hI hi h hp
  ·cases h
theorem G.drew (h:G C σ a w):G C σ a {w with drawn:=w.drawn+1}:=by
 obtain ⟨F,O,hI⟩:=h
 exact ⟨F,O,hI.worldZ (Nat.le_refl _) (fun _ _ _=>rfl) (fun _ h=>h.elim) (fun _ _ _ _ _ h=>h.elim) rfl rfl ⟨rfl,drN_le (Nat.le_succ _)⟩⟩
def St (C:Ctx) (ops:Array Oper) (ts:List Bool) (i:Nat) (σ σ':Env):Prop:=∃o p,ops[i]? =some o∧step C ops (ts.getD i true) σ o=some (p,σ')∧p
theorem anyA_sound (hC:CtxOk C) {ts:List Bool} {K:Env→Prop} {Q:Exit→Act→World→Prop} (hK:∀σ a w,K σ→G C σ a w→Q .normal a w):∀(n:Nat) (listed:Array Bool) (σ:Env) (a:Act) (w:World),anyA (St C ops ts) ops K n listed σ→G C σ a w→
 wpAny C.P .any ops Q n listed a w
 |0,_,σ,a,w,h,hG=>⟨h.1,hK σ a w h.2 hG⟩
 |n+1,listed,σ,a,w,h,hG=>by
  refine ⟨fun h0=>hK σ a w (h.1 h0) hG,fun i hi=> ?_⟩
  obtain ⟨σ',⟨o,p,ho,hs,hp⟩,h2⟩:=h.2 i hi
  exact wpOp_mono (fun a' w' hG'=>anyA_sound hC hK n _ σ' a' w' h2 hG') (step_sound hC ho hs hp hG)
theorem mem_looksAt_tmp {o:Oper} {t:Nat} (h:Operand.tmp t∈o.op.operands):t∈o.looksAt ops:=by
 unfold Oper.looksAt
 refine List.mem_append.2 (.inl (List.mem_filterMap.2 ⟨.tmp t,by simpa using h,rfl⟩))
theorem opd_put {P:Program} {ty:TypeId} {x:Operand} {d:Nat} {g:Bool} {A:A} (h:x≠.tmp d):opd P (σ.put d g A) ty x=opd P σ ty x:=by
 cases x with
 |tmp t=>
  have htd:t≠d:=fun e=>h (by rw [e])
  simp only [opd,Env.put,htd,if_false]
 |_=>rfl
theorem gd_put {o:Oper} {d:Nat} {g:Bool} {A:A} (h:d∉o.looksAt ops):gd ops (σ.put d g A) o=gd ops σ o:=by
 unfold gd
 cases hg:o.guard with
 |none=>rfl
 |some jw=>
  obtain ⟨j,want⟩:=jw
  cases ht:(ops[j]?).bind (·.dst) with
  |none=>simp [ht]
  |some t=>
   have:t≠d:=by
    rintro rfl
    refine h ?_
    unfold Oper.looksAt
    refine List.mem_append.2 (.inr ?_)
    simp [hg,ht]
   simp [ht,Env.put,this]
def lres (C:Ctx) (ops:Array Oper) (σ:Env) (o:Oper):Option (Prop×Bool×A):=
 match gd ops σ o with
 |some true=>match lop C σ true o with
  |some (p,A)=>some (p,true,A)
  |none=>none
 |some false=>some (True,false,.val (.hole 0))
 |none=>none
theorem lstep_eq {o:Oper} {d:Nat} (hd:o.dst=some d):lstep C ops σ o=match lres C ops σ o with
 |some (p,g,A)=>if C.dst d then some (p,σ.put d g A) else none
 |none=>none:=by
 unfold lstep lres
 rw [hd]
 cases gd ops σ o with
 |none=>rfl
 |some b=>
  cases b with
  |true=>
   dsimp only
   cases hl:lop C σ true o with
   |none=>rfl
   |some r=>rfl
  |false=>rfl
theorem lres_refs (hw:Wf σ) {o:Oper} {p:Prop} {g:Bool} {A:A} (h:lres C ops σ o=some (p,g,A)):∀s ver,A.refs=some (s,ver)→ver≤(σ s).ver:=by
 unfold lres at h
 split at h
 ·split at h
  ·rename_i hl
   simp only [Option.some.injEq,Prod.mk.injEq] at h
   obtain ⟨_,_,rfl⟩:=h
   exact lop_refs hw hl
  ·cases h
 ·simp only [Option.some.injEq,Prod.mk.injEq] at h
  obtain ⟨_,_,rfl⟩:=h
  intro s ver hr
  simp [A.refs] at hr
 ·cases h
theorem lres_mono {o:Oper} {r:Prop×Bool×A} (hg:gd ops σ o=gd ops σ' o) (h:LeR C.P σ σ' o.op.operands.toList) (ho:∀ty x,x∈o.op.operands→opd C.P σ ty x=opd C.P σ' ty x) (hl:lres C ops σ o=some r):lres C ops σ' o=some r:=by
 unfold lres at hl ⊢
 rw [←hg]
 split at hl
 ·split at hl
  ·rename_i h2
   rw [lop_mono h ho h2]
   exact hl
  ·cases hl
 ·exact hl
 ·cases hl
theorem put_comm {d e:Nat} {g h:Bool} {A B:Go.Ax.A} (hne:d≠e):(σ.put d g A).put e h B=(σ.put e h B).put d g A:=by
 funext t
 simp only [Env.put]
 by_cases h1:t=d
 ·subst h1
  simp [hne]
 ·by_cases h2:t=e
  ·subst h2
   simp [h1]
  ·simp [h1,h2]
theorem Wf.put (hw:Wf σ) {d:Nat} {g:Bool} {A:A} (h:∀s ver,A.refs=some (s,ver)→ver≤(σ s).ver):Wf (σ.put d g A):=by
 intro t s ver hr
 have hle:(σ s).ver≤((σ.put d g A) s).ver:=by simp only [Env.put];split<;>simp_all
 by_cases ht:t=d
 ·subst ht
  simp only [Env.put,if_true] at hr
  exact Nat.le_trans (h s ver hr) hle
 ·simp only [Env.put,ht,if_false] at hr
  exact Nat.le_trans (hw t s ver hr) hle
theorem Env.own_put_some {d s ver:Nat} {g:Bool} {A:Go.Ax.A} {y:V} (ho:(σ d).owner=false) (h:σ.own s ver=some y):(σ.put d g A).own s ver=some y:=by
 by_cases hs:s=d
 ·subst hs
  obtain ⟨h1,h2,h3,h4⟩:=Env.own_iff'.1 h
  simp [E.owner,h1,h3,h4] at ho
 ·rw [Env.own_put_ne hs];exact h
theorem lstep_comm {oi oj:Oper} {di dj:Nat} (hap:oi.apart ops oj=true) (hdi:oi.dst=some di) (hdj:oj.dst=some dj) (hw:Wf σ) (hoi:(σ di).owner=false) {σi σij:Env} {pi pj:Prop}
 (hi:lstep C ops σ oi=some (pi,σi)) (hoj:(σi dj).owner=false) (hj:lstep C ops σi oj=some (pj,σij)):
 ∃σj,lstep C ops σ oj=some (pj,σj)∧lstep C ops σj oi=some (pi,σij)∧(σ dj).owner=false∧(σj di).owner=false∧Wf σj:=by
 obtain ⟨a1,a2,a3⟩:=Oper.apart_spec hap
 have hne:di≠dj:=fun e=>a2 di hdi (by rw [hdj,e])
 rw [lstep_eq hdi] at hi
 split at hi
 ·rename_i p g A hli
  split at hi
  ·rename_i hdn
   simp only [Option.some.injEq,Prod.mk.injEq] at hi
   obtain ⟨rfl,rfl⟩:=hi
   rw [lstep_eq hdj] at hj
   split at hj
   ·rename_i p' g' B hlj
    split at hj
    ·rename_i hdn'
     simp only [Option.some.injEq,Prod.mk.injEq] at hj
     obtain ⟨rfl,rfl⟩:=hj
     have n1:∀x,x∈oj.op.operands.toList→x≠.tmp di:=fun x hx e=>a1 di hdi (mem_looksAt_tmp (by subst e;simpa using hx))
     have n2:∀x,x∈oi.op.operands.toList→x≠.tmp dj:=fun x hx e=>a3 dj hdj (mem_looksAt_tmp (by subst e;simpa using hx))
     have hlj':lres C ops σ oj=some (p',g',B):=by
      refine lres_mono (gd_put (a1 di hdi)) (fun ty x gx A' s ver y hx ho hr hy=> ?_) (fun ty x hx=>opd_put (n1 x (by simpa using hx))) hlj
      rw [opd_put (n1 x hx)] at ho
      by_cases hs:s=di
      ·subst hs
       rw [Env.own_put_eq (opd_refs hw ho _ _ hr)] at hy;cases hy
      ·rwa [Env.own_put_ne hs] at hy
     have hod:(σ dj).owner=false:=by
      have:=hoj
      simp only [Env.put,if_neg (Ne.symm hne)] at this
      exact this
     have hli':lres C ops (σ.put dj g' B) oi=some (p,g,A):=by
      refine lres_mono (gd_put (a3 dj hdj)).symm (fun ty x gx A' s ver y hx ho hr hy=>Env.own_put_some hod hy) (fun ty x hx=>(opd_put (n2 x (by simpa using hx))).symm) hli
     refine ⟨σ.put dj g' B,?_,?_,hod,?_,Wf.put hw (lres_refs hw hlj')⟩
     ·rw [lstep_eq hdj,hlj']
      dsimp only
      rw [if_pos hdn']
     ·rw [lstep_eq hdi,hli']
      dsimp only
      rw [if_pos hdn,put_comm (Ne.symm hne)]
     ·simp only [Env.put,if_neg hne];exact hoi
    ·cases hj
   ·cases hj
  ·cases hi
 ·cases hi
def Grow (σ σ':Env):Prop:=∀t,(σ t).ver≤(σ' t).ver∧((σ' t).a=(σ t).a∨(σ' t).a.refs=none)
theorem Grow.refl:Grow σ σ:=fun _=>⟨Nat.le_refl _,.inl rfl⟩
theorem Grow.trans {σ'':Env} (h:Grow σ σ') (h':Grow σ' σ''):Grow σ σ'':=fun t=>⟨Nat.le_trans (h t).1 (h' t).1,by
 rcases (h' t).2 with e|e
 ·rcases (h t).2 with e'|e'
  ·exact .inl (e.trans e')
  ·exact .inr (by rw [e];exact e')
 ·exact .inr e⟩
theorem Grow.wf (h:Grow σ σ') (hw:Wf σ):Wf σ':=fun t s ver hr=>by
 rcases (h t).2 with e|e
 ·rw [e] at hr;exact Nat.le_trans (hw t s ver hr) (h s).1
 ·rw [e] at hr;cases hr
theorem Grow.drp {d:Nat}:Grow σ (σ.drp d):=fun t=>by
 simp only [Env.drp]
 split
 ·rename_i h;subst h;exact ⟨Nat.le_succ _,.inr rfl⟩
 ·exact ⟨Nat.le_refl _,.inl rfl⟩
theorem Grow.mod {d:Nat} {x:V}:Grow σ (σ.mod d x):=fun t=>by
 simp only [Env.mod]
 split
 ·rename_i h;subst h;exact ⟨Nat.le_refl _,.inr rfl⟩
 ·exact ⟨Nat.le_refl _,.inl rfl⟩
theorem Grow.bmp {d:Nat} {x:V}:Grow σ (σ.bmp d x):=fun t=>by
 simp only [Env.bmp]
 split
 ·rename_i h;subst h;exact ⟨Nat.le_succ _,.inr rfl⟩
 ·exact ⟨Nat.le_refl _,.inl rfl⟩
theorem Grow.putVal {d:Nat} {g:Bool} {x:V}:Grow σ (σ.put d g (.val x)):=fun t=>by
 simp only [Env.put]
 split
 ·rename_i h;subst h;exact ⟨Nat.le_succ _,.inr rfl⟩
 ·exact ⟨Nat.le_refl _,.inl rfl⟩
mutual
theorem takeP_grow {s ver:Nat}:∀(x:V) (p:List Nat) (σ σ':Env) (q:Prop) (y:V),takeP s ver x p σ=some (q,y,σ')→Grow σ σ'
 | .agg fs,p,σ,σ',q,y,h=>by
   simp only [takeP] at h
   split at h
   ·rename_i q1 vs σ1 h1
    simp only [Option.some.injEq,Prod.mk.injEq] at h
    obtain ⟨_,_,rfl⟩:=h
    exact takePs_grow fs p 0 σ _ _ _ h1
   ·cases h
 | .slc true e d es,p,σ,σ',q,y,h=>by
   simp only [takeP] at h
   split at h
   ·simp only [Option.some.injEq,Prod.mk.injEq] at h
    obtain ⟨_,_,rfl⟩:=h
    exact .mod
   ·cases h
 | .slc false e d es,p,σ,σ',q,y,h=>by
   simp only [takeP] at h
   split at h
   ·cases h
   ·simp only [Option.some.injEq,Prod.mk.injEq] at h
    obtain ⟨_,_,rfl⟩:=h
    exact .refl
 | .box e c,p,σ,σ',q,y,h=>by
   simp only [takeP] at h
   split at h
   ·simp only [Option.some.injEq,Prod.mk.injEq] at h
    obtain ⟨_,_,rfl⟩:=h
    exact .mod
   ·cases h
 | .int _ _,p,σ,σ',q,y,h=>by
   simp only [takeP] at h
   split at h
   ·cases h
   ·simp only [Option.some.injEq,Prod.mk.injEq] at h
    obtain ⟨_,_,rfl⟩:=h
    exact .refl
 | .bool _,p,σ,σ',q,y,h=>by
   simp only [takeP] at h
   split at h
   ·cases h
   ·simp only [Option.some.injEq,Prod.mk.injEq] at h
    obtain ⟨_,_,rfl⟩:=h
    exact .refl
 | .str _,p,σ,σ',q,y,h=>by
   simp only [takeP] at h
   split at h
   ·cases h
   ·simp only [Option.some.injEq,Prod.mk.injEq] at h
    obtain ⟨_,_,rfl⟩:=h
    exact .refl
 | .tup _,p,σ,σ',q,y,h=>by
   simp only [takeP] at h
   split at h
   ·cases h
   ·simp only [Option.some.injEq,Prod.mk.injEq] at h
    obtain ⟨_,_,rfl⟩:=h
    exact .refl
 | .fn _ _,p,σ,σ',q,y,h=>by
   simp only [takeP] at h
   split at h
   ·cases h
   ·simp only [Option.some.injEq,Prod.mk.injEq] at h
    obtain ⟨_,_,rfl⟩:=h
    exact .refl
 | .hole _,p,σ,σ',q,y,h=>by
   simp only [takeP] at h
   split at h
   ·cases h
   ·simp only [Option.some.injEq,Prod.mk.injEq] at h
    obtain ⟨_,_,rfl⟩:=h
    exact .refl
theorem takePs_grow {s ver:Nat}:∀(fs:List V) (p:List Nat) (i:Nat) (σ σ':Env) (q:Prop) (ys:List V),takePs s ver fs p i σ=some (q,ys,σ')→Grow σ σ'
 |[],p,i,σ,σ',q,ys,h=>by
  simp only [takePs,Option.some.injEq,Prod.mk.injEq] at h
  obtain ⟨_,_,rfl⟩:=h
  exact .refl
 |x::xs,p,i,σ,σ',q,ys,h=>by
  simp only [takePs] at h
  split at h
  ·rename_i q1 v σ1 h1
   split at h
   ·rename_i q2 vs σ2 h2
    simp only [Option.some.injEq,Prod.mk.injEq] at h
    obtain ⟨_,_,rfl⟩:=h
    exact (takeP_grow x _ σ σ1 _ _ h1).trans (takePs_grow xs p _ σ1 _ _ _ h2)
   ·cases h
  ·cases h
end
theorem takeA_grow {A:A} {q:Prop} {x:V} (h:takeA σ A=some (q,x,σ')):Grow σ σ':=by
 unfold takeA at h
 split at h
 ·simp only [Option.some.injEq,Prod.mk.injEq] at h
  obtain ⟨_,_,rfl⟩:=h
  exact .refl
 ·split at h
  ·split at h
   ·simp only [Option.some.injEq,Prod.mk.injEq] at h
    obtain ⟨_,_,rfl⟩:=h
    exact .drp
   ·split at h
    ·split at h
     ·simp only [Option.some.injEq,Prod.mk.injEq] at h
      obtain ⟨_,_,rfl⟩:=h
      exact .mod
     ·cases h
    ·simp only [Option.some.injEq,Prod.mk.injEq] at h
     obtain ⟨_,_,rfl⟩:=h
     exact .mod
  ·cases h
 ·exact takeP_grow _ _ _ _ _ _ h
 ·cases h
theorem lstep_wf (hw:Wf σ) {o:Oper} {p:Prop} (h:lstep C ops σ o=some (p,σ')):Wf σ':=by
 cases hd:o.dst with
 |none=>unfold lstep at h;rw [hd] at h;split at h<;>simp_all
 |some d=>
  rw [lstep_eq hd] at h
  split at h
  ·rename_i hl
   split at h
   ·simp only [Option.some.injEq,Prod.mk.injEq] at h
    obtain ⟨_,rfl⟩:=h
    exact hw.put (lres_refs hw hl)
   ·cases h
  ·cases h
theorem wstep_wf (hw:Wf σ) {o:Oper} {p:Prop} (h:wstep C σ o=some (p,σ')):Wf σ':=by
 unfold wstep at h
 split at h
 ·cases h
 ·split at h
  ·split at h
   ·rename_i gx A h1
    split at h
    ·rename_i q y σ1 ht
     have g1:=takeA_grow ht
     split at h
     ·split at h
      ·split at h
       ·cases h
       ·rename_i s ver hsd
        simp only [Option.some.injEq,Prod.mk.injEq] at h
        obtain ⟨_,rfl⟩:=h
        refine Wf.put ((g1.trans .putVal).wf hw) (fun s' ver' hr=> ?_)
        simp only [A.refs,Option.some.injEq,Prod.mk.injEq] at hr
        obtain ⟨rfl,rfl⟩:=hr
        simp [Env.put]
      ·simp only [Option.some.injEq,Prod.mk.injEq] at h
       obtain ⟨_,rfl⟩:=h
       exact (g1.trans .putVal).wf hw
     ·cases h
    ·cases h
   ·cases h
  ·split at h
   ·split at h
    ·rename_i q y σ1 ht
     have g1:=takeA_grow ht
     split at h
     ·split at h
      ·split at h
       ·simp only [Option.some.injEq,Prod.mk.injEq] at h
        obtain ⟨_,rfl⟩:=h
        split
        ·exact (g1.trans .mod).wf hw
        ·exact (g1.trans .bmp).wf hw
       ·cases h
      ·cases h
     ·split at h
      ·split at h
       ·split at h
        ·simp only [Option.some.injEq,Prod.mk.injEq] at h
         obtain ⟨_,rfl⟩:=h
         split
         ·exact (g1.trans .mod).wf hw
         ·exact (g1.trans .bmp).wf hw
        ·cases h
       ·cases h
      ·cases h
     ·cases h
    ·cases h
   ·cases h
  ·split at h
   ·split at h
    ·split at h
     ·split at h
      ·rename_i q e' dd es σ1 ht
       have g1:=takeA_grow ht
       split at h
       ·split at h
        ·split at h
         ·split at h
          ·split at h
           ·rename_i q2 e2 d2 es3 σ2 ht2
            simp only [Option.some.injEq,Prod.mk.injEq] at h
            obtain ⟨_,rfl⟩:=h
            exact ((g1.trans (takeA_grow ht2)).trans .putVal).wf hw
           ·cases h
          ·simp only [Option.some.injEq,Prod.mk.injEq] at h
           obtain ⟨_,rfl⟩:=h
           exact (g1.trans .putVal).wf hw
         ·cases h
        ·cases h
       ·cases h
      ·cases h
     ·cases h
    ·cases h
   ·cases h
  ·cases h
theorem step_wf (hw:Wf σ) {t:Bool} {o:Oper} {p:Prop} (h:step C ops t σ o=some (p,σ')):Wf σ':=by
 unfold step at h
 split at h
 ·split at h
  ·rename_i r hr
   simp only [Option.some.injEq] at h
   subst h
   exact lstep_wf hw hr
  ·exact wstep_wf hw h
 ·split at h
  ·split at h
   ·cases h
   ·exact lstep_wf hw h
  ·cases h
theorem getD_false {l:Array Bool} {i:Nat} (h:l.getD i true=false):l.getD i false=false:=by
 simp only [Array.getD_eq_getD_getElem?] at h ⊢
 cases hh:l[i]? with
 |none=>simp [hh] at h
 |some b=>simp [hh] at h ⊢;exact h
theorem ready_apart {ts:List Bool} (hk:chk ops ts=true) {listed:Array Bool} (hc:Closed ops listed) {i j:Nat} (hi:i∈Region.ready .any ops listed) (hj:j∈Region.ready .any ops listed) (hne:i≠j):
 ts.getD i true=false∧ts.getD j true=false∧∃x y,ops[i]? =some x∧ops[j]? =some y∧x.apart ops y=true∧y.apart ops x=true:=by
 have key:∀i j,i<j→i∈Region.ready .any ops listed→j∈Region.ready .any ops listed→ts.getD i true=false∧ts.getD j true=false∧∃x y,ops[i]? =some x∧ops[j]? =some y∧x.apart ops y=true∧y.apart ops x=true:=by
  intro i j hij hi hj
  obtain ⟨hju,oj,hoj,hall⟩:=mem_ready.1 hj
  obtain ⟨hiu,oi,hoi,_⟩:=mem_ready.1 hi
  simp only [chk,Bool.and_eq_true] at hk
  have hjn:j<ops.size:=(Array.getElem?_eq_some_iff.1 hoj).1
  rcases chkPairs_spec hk.2 j (by simpa using hjn) i hij with hb|hb
  ·have hw:=masks_spec (ops:=ops) ops.toList [] (fun j=>by simp) (fun j i h=>by simp at h) j i hb
   have:=hw.listed hc (fun o ho=>by rw [hoj] at ho;simp only [Option.some.injEq] at ho;subst ho;exact hall)
   rw [getD_false hiu] at this
   cases this
  ·exact hb
 rcases Nat.lt_or_gt_of_ne hne with h|h
 ·exact key i j h hi hj
 ·obtain ⟨h1,h2,x,y,h3,h4,h5,h6⟩:=key j i h hj hi
  exact ⟨h2,h1,y,x,h4,h3,h6,h5⟩
theorem step_false {o:Oper} {p:Prop} (h:step C ops false σ o=some (p,σ')):∃d,o.dst=some d∧(σ d).owner=false∧lstep C ops σ o=some (p,σ'):=by
 unfold step at h
 rw [if_neg (by simp)] at h
 split at h
 ·rename_i d hd
  split at h
  ·cases h
  ·rename_i ho
   exact ⟨d,hd,by simpa using ho,h⟩
 ·cases h
theorem step_false' {o:Oper} {p:Prop} {d:Nat} (hd:o.dst=some d) (ho:(σ d).owner=false) (h:lstep C ops σ o=some (p,σ')):step C ops false σ o=some (p,σ'):=by
 unfold step
 rw [if_neg (by simp),hd]
 dsimp only
 rw [ho,if_neg (by simp)]
 exact h
theorem ev_any {ts:List Bool} {K:Env→Prop} (hk:chk ops ts=true):∀(l:List Oper) (k:Nat) (tl:List Bool) (σ:Env),(∀j,l[j]? =ops[k+j]?)→(∀j,tl[j]? =ts[k+j]?)→k+l.length=ops.size→ev C ops l tl σ K→Wf σ→
 anyA (St C ops ts) ops K l.length (upto ops.size k) σ
 |[],k,tl,σ,hl,ht,hn,h,hw=>by
  have hK:K σ:=by cases tl<;>exact h
  refine ⟨?_,hK⟩
  cases hr:Region.ready .any ops (upto ops.size k) with
  |nil=>rfl
  |cons x xs=>
   have hx:x∈Region.ready .any ops (upto ops.size k):=by rw [hr];simp
   obtain ⟨h1,o,ho,_⟩:=mem_ready.1 hx
   have hxn:x<ops.size:=(Array.getElem?_eq_some_iff.1 ho).1
   rw [upto_get,if_pos hxn] at h1
   simp at hn h1
   omega
 |o::l,k,tl,σ,hl,ht,hn,h,hw=>by
  cases tl with
  |nil=>exact h.elim
  |cons t tl=>
   simp only [ev] at h
   split at h
   ·rename_i p σ' hs
    have ho:ops[k]? =some o:=by simpa using (hl 0).symm
    have htk:ts.getD k true=t:=by
     have:=(ht 0).symm
     simp at this
     simp [List.getD_eq_getElem?_getD,this]
    have hkn:k<ops.size:=by simp at hn;omega
    have hr:k∈Region.ready .any ops (upto ops.size k):=by
     refine mem_ready.2 ⟨by rw [upto_get,if_pos hkn];simp,o,ho,fun e he hb=> ?_⟩
     have:=hk
     simp only [chk,Bool.and_eq_true] at this
     have:=chkEdges_spec this.1 k o (by simpa using ho) e he hb
     rw [upto_get,if_pos (by omega)]
     simpa using this
    have hcl:Closed ops (upto ops.size k):=by
     intro j oj hoj hj e he hb
     have hjn:j<ops.size:=(Array.getElem?_eq_some_iff.1 hoj).1
     rw [upto_get,if_pos hjn] at hj
     simp at hj
     have:=hk
     simp only [chk,Bool.and_eq_true] at this
     have:=chkEdges_spec this.1 j oj (by simpa using hoj) e he hb
     rw [upto_get,if_pos (by omega)]
     simp;omega
    refine anyA_first (I:=Wf) (i:=k) (fun listed j σ σi σij hc hi hj hne hw ⟨oi,pi,hoi,hsi,hpi⟩ ⟨oj,pj,hoj,hsj,hpj⟩=> ?ex) l.length _ σ σ' hcl hw hr ⟨o,p,ho,by rw [htk];exact hs,h.1⟩ ?main
    case ex=>
     obtain ⟨t1,t2,x,y,hx,hy,ap1,_⟩:=ready_apart hk hc hi hj (Ne.symm hne)
     rw [hoi] at hx;rw [hoj] at hy
     simp only [Option.some.injEq] at hx hy
     subst hx;subst hy
     rw [t1] at hsi;rw [t2] at hsj
     obtain ⟨di,hdi,hoi',hli⟩:=step_false hsi
     obtain ⟨dj,hdj,hoj',hlj⟩:=step_false hsj
     obtain ⟨σj,e1,e2,e3,e4,e5⟩:=lstep_comm ap1 hdi hdj hw hoi' hli hoj' hlj
     exact ⟨σj,⟨oj,pj,hoj,by rw [t2];exact step_false' hdj e3 e1,hpj⟩,⟨oi,pi,hoi,by rw [t1];exact step_false' hdi e4 e2,hpi⟩,e5⟩
    case main=>
     rw [upto_set hkn]
     exact ev_any hk l (k+1) tl σ' (fun j=>by have:=hl (j+1);simpa [Nat.add_assoc,Nat.add_comm 1 j] using this) (fun j=>by have:=ht (j+1);simpa [Nat.add_assoc,Nat.add_comm 1 j] using this) (by simp at hn;omega) h.2 (step_wf hw hs)
   ·exact h.elim
theorem upto_zero (n:Nat):upto n 0=Array.replicate n false:=by
 apply Array.ext'
 simp [upto]
 induction n with
 |zero=>rfl
 |succ n ih=>rw [List.range_succ,List.map_append,ih,List.replicate_succ'];rfl
theorem region_any (hC:CtxOk C) (hm:C.P.follows .mixedOrders=true) {id:Nat} {ts:List Bool} {K:Env→Prop} {Q:Exit→Act→World→Prop} (hk:chk ops ts=true) (hG:G C σ a w) (h:ev C ops ops.toList ts σ K)
 (hK:∀σ a w,K σ→G C σ a w→Q .normal a w):(Code.region id ops true).wp C.P Q a w:=by
 refine wp_region_any hm ?_
 have hw:Wf σ:=by obtain ⟨F,O,hI⟩:=hG;exact hI.wf
 have:=ev_any (C:=C) hk ops.toList 0 ts σ (fun j=>by simp) (fun j=>by simp) (by simp) h hw
 rw [upto_zero] at this
 exact anyA_sound hC hK _ _ σ a _ (by simpa using this) hG.drew
end
end Go.Ax
namespace Go.Ax
open Go.RowKit
def StepL (C:Ctx) (ops:Array Oper) (σ:Env) (o:Oper) (r:Prop×Env):Prop:=
 lstep C ops σ o=some r∨wstep C σ o=some r∨istep C σ o=some r∨bstep C σ o=some r∨mstep C σ o=some r∨fstep C σ o=some r∨vstep C σ o=some r
def zstep (C:Ctx) (ops:Array Oper) (σ:Env) (o:Oper):Option (Prop×Env):=match o.dst with
 |some d=>match lstep C ops σ o with
  |some (p,σ1)=>match σ1.own d (σ1 d).ver with
   |some y=>some (p∧C.st=false,(σ1.drp d).put d true (.val y.frz))
   |none=>none
  |none=>none
 |none=>none
def Gh (σ σ':Env):Prop:=σ'=σ∨∃s ver e d d' es,σ.own s ver=some (.slc true e d es)∧(d'.isBox=true→es≠[])∧σ'=(σ.drp s).put s true (.val (.slc true e d' es))
def frzO (σ:Env):List Nat→Env
 |[]=>σ
 |t::l=>match σ.own t (σ t).ver with
  |some y=>frzO ((σ.drp t).put t true (.val y.frz)) l
  |none=>frzO σ l
def FzR (C:Ctx) (σ σ0:Env):Prop:=∃l,(l=[]∨C.st=false)∧σ0=frzO σ l
theorem FzR.refl {C:Ctx} {σ:Env}:FzR C σ σ:=⟨[],.inl rfl,rfl⟩
def gistep (C:Ctx) (ops:Array Oper) (σ:Env) (o:Oper):Option (Prop×Env):=match gd ops σ o with
 |some true=>istep C σ {o with guard:=none}
 |_=>none
def evO (C:Ctx) (ops:Array Oper):List Oper→Env→(Env→Prop)→Prop
 |o::l,σ,K=>(∃σ0 p σ1 σ',FzR C σ σ0∧(StepL C ops σ0 o (p,σ1)∨zstep C ops σ0 o=some (p,σ1)∨kstep C σ0 o=some (p,σ1)∨nstep C σ0 o=some (p,σ1))∧p∧Gh σ1 σ'∧evO C ops l σ' K)∨
   (∃p σ',gistep C ops σ o=some (p,σ')∧p∧evO C ops l σ' K)∨
   (∃d q es xx ng,nilCmp C σ o=some (d,q,es,xx,ng)∧q∧∀b:Bool,(es≠[]→b=false)→(xx=true→es=[]→b=true)→evO C ops l (σ.put d true (.val (.bool (b !=ng)))) K)∨
   (∃p σ',rstep C σ o=some (p,σ')∧p∧evO C ops l σ' K)∨
   (match l with
    |o2::l2=>∃p σ',c2step C σ o o2=some (p,σ')∧p∧evO C ops l2 σ' K
    |[]=>False)
 |[],σ,K=>K σ
section
variable {C:Ctx} {F:Nat→Prop} {O:Nat→Nat→Prop} {Z:Nat→Prop} {σ σ':Env} {a:Act} {w w':World} {ops:Array Oper}
theorem stepL_sound (hC:CtxOk C) (hIO:IOk C) {o:Oper} {i:Nat} (hi:ops[i]? =some o) {p:Prop} (h:StepL C ops σ o (p,σ')) (hp:p) {Q:Exit→Act→World→Prop} (hG:G C σ a w):wpOp C.P ops Q i (G C σ') a w:=by
 obtain ⟨F,O,hI⟩:=hG
 have fin:o.guard=none∧o.wp C.P a w (G C σ') Q→wpOp C.P ops Q i (G C σ') a w:=by
  rintro ⟨hg,hw⟩
  unfold wpOp
  rw [hi]
  dsimp only
  rw [show Region.wanted o (yielded ops a.tmps)=true from by unfold Region.wanted;rw [hg]]
  exact .inl hw
 rcases h with h|h|h|h|h|h|h
 ·exact lstep_sound hC hI hi h hp
 ·exact wstep_sound hI hi h hp
 ·exact fin (istep_sound hIO hI h hp)
 ·exact fin (bstep_sound hI h hp)
 ·exact fin (mstep_sound hI h hp)
 ·exact fin (fstep_sound hI h hp)
 ·exact fin (vstep_sound hIO hI h hp)
theorem zstep_sound (hC:CtxOk C) {o:Oper} {i:Nat} (hi:ops[i]? =some o) {p:Prop} (h:zstep C ops σ o=some (p,σ')) (hp:p) {Q:Exit→Act→World→Prop} (hG:G C σ a w):wpOp C.P ops Q i (G C σ') a w:=by
 obtain ⟨F,O,hI⟩:=hG
 unfold zstep at h
 split at h
 ·split at h
  ·rename_i hl
   split at h
   ·rename_i hy
    simp only [Option.some.injEq,Prod.mk.injEq] at h
    obtain ⟨rfl,rfl⟩:=h
    refine wpOp_mono (fun a' w' hG'=> ?_) (lstep_sound hC hI hi hl hp.1)
    obtain ⟨F',O',hI'⟩:=hG'
    exact hI'.frzG hp.2 hy
   ·cases h
  ·cases h
 ·cases h
theorem kstep_op {o:Oper} {i:Nat} (hi:ops[i]? =some o) {p:Prop} (h:kstep C σ o=some (p,σ')) (hp:p) {Q:Exit→Act→World→Prop} (hG:G C σ a w):wpOp C.P ops Q i (G C σ') a w:=by
 obtain ⟨F,O,hI⟩:=hG
 obtain ⟨hg,hw⟩:=kstep_sound hI h hp (Q:=Q)
 unfold wpOp
 rw [hi]
 dsimp only
 rw [show Region.wanted o (yielded ops a.tmps)=true from by unfold Region.wanted;rw [hg]]
 exact .inl hw
theorem nstep_op {o:Oper} {i:Nat} (hi:ops[i]? =some o) {p:Prop} (h:nstep C σ o=some (p,σ')) {Q:Exit→Act→World→Prop} (hG:G C σ a w):wpOp C.P ops Q i (G C σ') a w:=by
 obtain ⟨F,O,hI⟩:=hG
 obtain ⟨hg,hw⟩:=nstep_sound hI h (Q:=Q)
 unfold wpOp
 rw [hi]
 dsimp only
 rw [show Region.wanted o (yielded ops a.tmps)=true from by unfold Region.wanted;rw [hg]]
 exact .inl hw
theorem Gh.g {a:Act} {w:World} (h:Gh σ σ') (hG:G C σ a w):G C σ' a w:=by
 rcases h with rfl|⟨s,ver,e,d,d',es,h1,h2,rfl⟩
 ·exact hG
 ·obtain ⟨F,O,hI⟩:=hG
  obtain ⟨F',O',hI'⟩:=hI.ghost h1 h2
  exact ⟨F',O',hI'⟩
theorem frzO_g (hst:C.st=false):∀(l:List Nat) {σ:Env} {a:Act} {w:World},G C σ a w→G C (frzO σ l) a w
 |[],_,_,_,h=>h
 |t::l,σ,a,w,h=>by
  simp only [frzO]
  split
  ·rename_i y hy
   obtain ⟨F,O,hI⟩:=h
   exact frzO_g hst l (hI.frzG hst hy)
  ·exact frzO_g hst l h
theorem FzR.g {σ0:Env} {a:Act} {w:World} (h:FzR C σ σ0) (hG:G C σ a w):G C σ0 a w:=by
 obtain ⟨l,h1|h1,rfl⟩:=h
 ·subst h1;exact hG
 ·exact frzO_g h1 l hG
theorem gistep_sound (hIO:IOk C) {o:Oper} {i:Nat} (hi:ops[i]? =some o) {p:Prop} (h:gistep C ops σ o=some (p,σ')) (hp:p) {Q:Exit→Act→World→Prop} (hG:G C σ a w):wpOp C.P ops Q i (G C σ') a w:=by
 obtain ⟨F,O,hI⟩:=hG
 unfold gistep at h
 split at h
 ·rename_i hg
  obtain ⟨_,hw⟩:=istep_sound hIO hI h hp (Q:=Q)
  unfold wpOp
  rw [hi]
  dsimp only
  rw [gd_sound hI hg]
  exact .inl hw
 ·cases h
theorem evO_ops (hC:CtxOk C) (hIO:IOk C) {K:Env→Prop} {Q:Exit→Act→World→Prop} (hK:∀σ a w,K σ→G C σ a w→Q .normal a w):∀(l:List Oper) (k:Nat) (σ:Env) (a:Act) (w:World),(∀j,l[j]? =ops[k+j]?)→evO C ops l σ K→G C σ a w→
 wpOps C.P ops Q ((List.range l.length).map (k+ ·)) a w
 |[],k,σ,a,w,_,h,hG=>hK σ a w h hG
 |o::l,k,σ,a,w,hl,h,hG=>by
  have hi:ops[k]? =some o:=by simpa using (hl 0).symm
  have e:(List.range (o::l).length).map (k+ ·)=k::(List.range l.length).map (k+1+ ·):=by
   rw [List.length_cons,List.range_succ_eq_map]
   simp only [List.map_cons,List.map_map,Nat.add_zero,List.cons.injEq,true_and]
   apply List.map_congr_left
   intro j _
   simp only [Function.comp]
   omega
  have hl':∀j,l[j]? =ops[k+1+j]? :=fun j=>by have:=hl (j+1);simpa [Nat.add_assoc,Nat.add_comm 1 j] using this
  rw [e,wpOps_cons]
  unfold evO at h
  rcases h with ⟨σ0,p,σ1,σ',hfz,hs,hpp,hgh,hk⟩|⟨p,σ',hs,hpp,hk⟩|⟨d,q,es,xx,ng,hn,hq,hk⟩|⟨p,σ',hs,hpp,hk⟩|hs2
  ·have hG:=hfz.g hG
   exact wpOp_mono (fun a' w' hG'=>evO_ops hC hIO hK l (k+1) σ' a' w' hl' hk (hgh.g hG')) (hs.elim (fun hs=>stepL_sound hC hIO hi hs hpp hG) (fun hs=>hs.elim (fun hs=>zstep_sound hC hi hs hpp hG) (fun hs=>hs.elim (fun hs=>kstep_op hi hs hpp hG) (fun hs=>nstep_op hi hs hG))))
  ·exact wpOp_mono (fun a' w' hG'=>evO_ops hC hIO hK l (k+1) σ' a' w' hl' hk hG') (gistep_sound hIO hi hs hpp hG)
  ·obtain ⟨F,O,hI⟩:=hG
   obtain ⟨hg,hw⟩:=nilCmp_sound hI hn hq (Q:=Q)
   have:wpOp C.P ops Q k (fun a' w'=>∃b:Bool,(es≠[]→b=false)∧(xx=true→es=[]→b=true)∧G C (σ.put d true (.val (.bool (b !=ng)))) a' w') a w:=by
    unfold wpOp
    rw [hi]
    dsimp only
    rw [show Region.wanted o (yielded ops a.tmps)=true from by unfold Region.wanted;rw [hg]]
    exact .inl hw
   exact wpOp_mono (fun a' w' ⟨b,hb,hx,hG'⟩=>evO_ops hC hIO hK l (k+1) _ a' w' hl' (hk b hb hx) hG') this
  ·obtain ⟨F,O,hI⟩:=hG
   obtain ⟨hg,hw⟩:=rstep_sound hI hs hpp (Q:=Q)
   have:wpOp C.P ops Q k (G C σ') a w:=by
    unfold wpOp
    rw [hi]
    dsimp only
    rw [show Region.wanted o (yielded ops a.tmps)=true from by unfold Region.wanted;rw [hg]]
    exact .inl hw
   exact wpOp_mono (fun a' w' hG'=>evO_ops hC hIO hK l (k+1) σ' a' w' hl' hk hG') this
  ·cases l with
   |nil=>exact hs2.elim
   |cons o2 l2=>
    obtain ⟨p,σ',hs,hpp,hk⟩:=hs2
    obtain ⟨F,O,hI⟩:=hG
    have hi2:ops[k+1]? =some o2:=by simpa using (hl' 0).symm
    have e2:(List.range (o2::l2).length).map (k+1+ ·)=(k+1)::(List.range l2.length).map (k+1+1+ ·):=by
     rw [List.length_cons,List.range_succ_eq_map]
     simp only [List.map_cons,List.map_map,Nat.add_zero,List.cons.injEq,true_and]
     apply List.map_congr_left
     intro j _
     simp only [Function.comp]
     omega
    have hl2:∀j,l2[j]? =ops[k+1+1+j]? :=fun j=>by
     have:=hl' (j+1)
     rw [show k+1+(j+1)=k+1+1+j by omega] at this
     simpa using this
    rw [e2]
    refine wpOp_mono (fun a' w' h=> ?_) (c2step_sound hI hs hpp hi hi2 (Q:=Q))
    rw [wpOps_cons]
    exact wpOp_mono (fun a'' w'' hG'=>evO_ops hC hIO hK l2 (k+1+1) σ' a'' w'' hl2 hk hG') h
theorem region_text (hC:CtxOk C) (hIO:IOk C) {id:Nat} {K:Env→Prop} {Q:Exit→Act→World→Prop} (hG:G C σ a w) (h:evO C ops ops.toList σ K)
 (hK:∀σ a w,K σ→G C σ a w→Q .normal a w):(Code.region id ops false).wp C.P Q a w:=by
 refine wp_region ?_
 have:=evO_ops hC hIO (Q:=Q) hK ops.toList 0 σ a w (fun j=>by simp) h hG
 simpa using this
end
end Go.Ax
namespace Go.Ax
open Go.RowKit
def whole (PS:List Nat) (σ:Env):Operand→Bool
 | .tmp t=>match (σ t).a with
   | .val x=> !x.owned||PS.contains t
   |_=>false
 |_=>true
def wholes (PS:List Nat) (σ:Env) (l:List Operand):Bool:=l.all (whole PS σ)
def plain (σ:Env):Operand→Bool
 | .tmp t=>match (σ t).a with
   | .val x=> !x.owned
   |_=>false
 |_=>true
def plainArg (σ:Env):List Operand→Bool
 |[_,y]=>plain σ y
 |_=>false
def ownArg (C:Ctx) (σ:Env):List Operand→List TypeId→Bool
 |[x,.tmp u],[t,_]=>(match (σ u).a with
  | .val z=>z.owned
  |_=>false)&&(match x with
  | .tmp v=>v !=u
  |_=>false)&&(match elemOf C.P t with
  |some e=>scalP C.P e
  |none=>false)
 |_,_=>false
def pstep (C:Ctx) (PS:List Nat) (σ:Env) (o:Oper):Option (Prop×Env):=
 if wholes PS σ o.op.operands.toList then
  match o.guard,o.op,o.dst with
  |none,.assign x,some d=>match opd C.P σ o.type x with
   |some (gx,A)=>match takeA σ A with
    |some (q,y,σ1)=>if C.dst d&& !y.isHole then some (gx=true∧q,σ1.put d true (.val y)) else none
    |none=>none
   |none=>none
  |none,.call ⟨.builtin .append,args,ats⟩,some _=>if plainArg σ args.toList||ownArg C σ args.toList ats.toList then wstep C σ o else none
  |_,_,_=>mstep C σ o
 else none
section
variable {C:Ctx} {F:Nat→Prop} {O:Nat→Nat→Prop} {Z:Nat→Prop} {σ σ' σ'':Env} {a:Act} {w w':World} {ops:Array Oper} {PS:List Nat}
theorem pstep_sound (hI:Inv C F O (fun _=>False) σ a w) {o:Oper} {p:Prop} (h:pstep C PS σ o=some (p,σ')) (hp:p) {Q:Exit→Act→World→Prop}:o.guard=none∧o.wp C.P a w (G C σ') Q:=by
 unfold pstep at h
 split at h
 ·split at h
  ·rename_i x d hg hop hd
   refine ⟨hg,?_⟩
   split at h
   ·rename_i gx A hA
    split at h
    ·rename_i q y σ1 ht
     split at h
     ·rename_i hc
      simp only [Bool.and_eq_true,decide_eq_true_eq] at hc
      have hdl:d<a.tmps.size:=by rw [hI.ts];exact hc.1.2
      simp only [Option.some.injEq,Prod.mk.injEq] at h
      obtain ⟨rfl,rfl⟩:=h
      obtain ⟨cs,On,e1,e2⟩:=takeA_sound hI (opd_sound hI hA hp.1).1 ht hp.2
      obtain ⟨O1,hI1⟩:=e2.inv
      have run:(execOp a.eval o).run C.P w= .ok (.value (a.eval x)) w:=by simp [execOp,hop]
      unfold Oper.wp
      rw [run,Oper.upon_value,hd]
      exact ⟨F,_,(hI1.putVal hdl (.inl hc.1.1) (g:=true) (fun _=>⟨e1,e2.rep⟩) (fun b hb=> .inr hb) (by simp)).lessZ (fun _ h=>h.elim)⟩
     ·cases h
    ·cases h
   ·cases h
  ·rename_i args ats d hg hop hd
   split at h
   ·exact ⟨hg,wstep_append hI hg hop hd h hp⟩
   ·cases h
  ·exact mstep_sound hI h hp
 ·cases h
def Dropped (e e':E):Prop:=e'.a.refs=none∧e.ver≤e'.ver∧(∀x,e'.a= .val x→x.owned=false)
theorem take_whole {x:Operand} {ty:TypeId} {gx:Bool} {A:A} {q:Prop} {y:V} {σ1:Env} (hw:whole PS σ x=true) (h1:opd C.P σ ty x=some (gx,A)) (h2:takeA σ A=some (q,y,σ1)):
 (∀t,σ1 t=σ t∨(x= .tmp t∧t∈PS∧Dropped (σ t) (σ1 t)))∧∀σ2:Env,(∀t,x= .tmp t→σ2 t=σ t)→opd C.P σ2 ty x=some (gx,A)∧∃σ3,takeA σ2 A=some (q,y,σ3)∧(∀t,x= .tmp t→σ3 t=σ1 t)∧(∀t,x≠.tmp t→σ3 t=σ2 t):=by
 have val:∀{v:V},A= .val v→(∀t,σ1 t=σ t)∧∀σ2:Env,takeA σ2 A=some (q,y,σ2):=by
  rintro v rfl
  simp only [takeA,Option.some.injEq,Prod.mk.injEq] at h2
  obtain ⟨rfl,rfl,rfl⟩:=h2
  exact ⟨fun _=>rfl,fun σ2=>rfl⟩
 cases x with
 |tmp t=>
  simp only [opd] at h1
  cases ha:(σ t).a with
  |val v=>
   simp only [ha] at h1
   split at h1
   ·rename_i ho
    simp only [Option.some.injEq,Prod.mk.injEq] at h1
    obtain ⟨rfl,rfl⟩:=h1
    have hm:t∈PS:=by simpa [whole,ha,ho] using hw
    simp only [takeA] at h2
    split at h2
    ·rename_i r hr
     simp only [Option.some.injEq,Prod.mk.injEq] at h2
     obtain ⟨rfl,rfl,rfl⟩:=h2
     refine ⟨fun s=> ?_,fun σ2 hs=> ?_⟩
     ·by_cases hst:s=t
      ·subst hst
       refine .inr ⟨rfl,hm,?_⟩
       simp [Env.drp,Dropped,A.refs,V.owned]
      ·left
       simp [Env.drp,hst]
     ·have ht:=hs t rfl
      refine ⟨by simp only [opd,ht,ha,ho,if_true],σ2.drp t,?_,fun s hs'=> ?_,fun s hs'=> ?_⟩
      ·have:σ2.own t (σ t).ver=some r:=by
        unfold Env.own at hr ⊢
        rw [ht]
        exact hr
       simp only [takeA,this]
      ·simp only [Operand.tmp.injEq] at hs'
       subst hs'
       simp [Env.drp,ht]
      ·have:s≠t:=fun e=>hs' (by rw [e])
       simp [Env.drp,this]
    ·cases h2
   ·rename_i ho
    simp only [Option.some.injEq,Prod.mk.injEq] at h1
    obtain ⟨rfl,rfl⟩:=h1
    obtain ⟨v1,v2⟩:=val rfl
    refine ⟨fun s=> .inl (v1 s),fun σ2 hs=>⟨?_,σ2,v2 σ2,fun s hs'=>by rw [hs s hs',v1],fun _ _=>rfl⟩⟩
    have ht:=hs t rfl
    simp only [opd,ht,ha]
    rw [if_neg ho]
  |_=>simp [whole,ha] at hw
 |const v=>
  simp only [opd,Option.map_eq_some_iff,Prod.mk.injEq] at h1
  obtain ⟨z,h3,rfl,rfl⟩:=h1
  obtain ⟨v1,v2⟩:=val rfl
  exact ⟨fun s=> .inl (v1 s),fun σ2 hs=>⟨by simp [opd,h3],σ2,v2 σ2,fun s hs'=>(by cases hs'),fun _ _=>rfl⟩⟩
 |func f=>
  simp only [opd,Option.some.injEq,Prod.mk.injEq] at h1
  obtain ⟨rfl,rfl⟩:=h1
  obtain ⟨v1,v2⟩:=val rfl
  exact ⟨fun s=> .inl (v1 s),fun σ2 hs=>⟨rfl,σ2,v2 σ2,fun s hs'=>(by cases hs'),fun _ _=>rfl⟩⟩
 |global g=>simp [opd] at h1
theorem Dropped.refl_of {e e' e'':E} (h:Dropped e e') (h':e''=e'∨Dropped e' e''):Dropped e e'':=by
 rcases h' with rfl|h'
 ·exact h
 ·exact ⟨h'.1,Nat.le_trans h.2.1 h'.2.1,h'.2.2⟩
theorem whole_of {x:Operand} {σ1:Env} (hw:whole PS σ x=true) (h:∀t,σ1 t=σ t∨(t∈PS∧Dropped (σ t) (σ1 t)∧∃z,(σ1 t).a= .val z)):whole PS σ1 x=true:=by
 cases x with
 |tmp t=>
  rcases h t with h|⟨h1,h2,z,h3⟩
  ·simpa [whole,h] using hw
  ·simp [whole,h3,h2.2.2 z h3]
 |_=>rfl
theorem drop_val {x:Operand} {ty:TypeId} {gx:Bool} {A:A} {q:Prop} {y:V} {σ1:Env} (hw:whole PS σ x=true) (h1:opd C.P σ ty x=some (gx,A)) (h2:takeA σ A=some (q,y,σ1)):∀t,σ1 t=σ t∨(t∈PS∧Dropped (σ t) (σ1 t)∧∃z,(σ1 t).a= .val z):=by
 intro t
 rcases (take_whole hw h1 h2).1 t with h|⟨h3,h4,h5⟩
 ·exact .inl h
 ·refine .inr ⟨h4,h5,?_⟩
  subst h3
  simp only [opd] at h1
  cases ha:(σ t).a with
  |val v=>
   simp only [ha] at h1
   split at h1
   ·simp only [Option.some.injEq,Prod.mk.injEq] at h1
    obtain ⟨rfl,rfl⟩:=h1
    simp only [takeA] at h2
    split at h2
    ·simp only [Option.some.injEq,Prod.mk.injEq] at h2
     obtain ⟨rfl,rfl,rfl⟩:=h2
     exact ⟨.hole 0,by simp [Env.drp]⟩
    ·cases h2
   ·simp only [Option.some.injEq,Prod.mk.injEq] at h1
    obtain ⟨rfl,rfl⟩:=h1
    simp only [takeA,Option.some.injEq,Prod.mk.injEq] at h2
    obtain ⟨rfl,rfl,rfl⟩:=h2
    exact ⟨v,ha⟩
  |_=>simp [whole,ha] at hw
theorem takesV_whole {ty:Nat→TypeId}:∀(l:List (Nat×Operand)) (σ σ':Env) (p:Prop) (vs:List (Nat×V)),(∀e∈l,whole PS σ e.2=true)→takesV C ty σ l=some (p,vs,σ')→
 (∀t,σ' t=σ t∨(Operand.tmp t∈l.map (·.2)∧t∈PS∧Dropped (σ t) (σ' t)))∧
 ∀σ2:Env,(∀t,Operand.tmp t∈l.map (·.2)→σ2 t=σ t)→∃σ3,takesV C ty σ2 l=some (p,vs,σ3)∧(∀t,Operand.tmp t∈l.map (·.2)→σ3 t=σ' t)∧(∀t,Operand.tmp t∉l.map (·.2)→σ3 t=σ2 t)
 |[],σ,σ',p,vs,_,h=>by
  simp only [takesV,Option.some.injEq,Prod.mk.injEq] at h
  obtain ⟨rfl,rfl,rfl⟩:=h
  exact ⟨fun _=> .inl rfl,fun σ2 _=>⟨σ2,rfl,fun t h=>by simp at h,fun _ _=>rfl⟩⟩
 |(i,x)::xs,σ,σ',p,vs,hw,h=>by
  simp only [takesV] at h
  split at h
  ·rename_i gx A hA
   split at h
   ·rename_i q y σ1 ht
    split at h
    ·cases h
    rename_i hnh
    split at h
    ·rename_i p' vs' σ2 hr
     simp only [Option.some.injEq,Prod.mk.injEq] at h
     obtain ⟨rfl,rfl,rfl⟩:=h
     have hwx:=hw (i,x) (by simp)
     obtain ⟨a1,a2⟩:=take_whole hwx hA ht
     have hdv:=drop_val hwx hA ht
     dsimp only at a1 a2
     obtain ⟨b1,b2⟩:=takesV_whole xs σ1 _ _ _ (fun e he=>whole_of (hw e (by simp [he])) hdv) hr
     refine ⟨fun t=> ?_,fun σb hb=> ?_⟩
     ·rcases a1 t with h1|⟨h1,h2,h3⟩
      ·rcases b1 t with h4|⟨h4,h5,h6⟩
       ·exact .inl (h4.trans h1)
       ·exact .inr ⟨by simp at h4 ⊢;exact .inr h4,h5,by rw [←h1];exact h6⟩
      ·refine .inr ⟨by rw [h1];simp,h2,h3.refl_of ?_⟩
       rcases b1 t with h4|⟨h4,h5,h6⟩
       ·exact .inl h4
       ·exact .inr h6
     ·obtain ⟨c1,σ3,c2,c3,c4⟩:=a2 σb (fun t ht=>hb t (by rw [ht];simp))
      obtain ⟨σ4,d1,d2,d3⟩:=b2 σ3 (fun t ht=>by
       by_cases hxt:x= .tmp t
       ·exact c3 t hxt
       ·rw [c4 t hxt,hb t (by simp at ht ⊢;exact .inr ht)]
        rcases a1 t with h1|⟨h1,_⟩
        ·exact h1.symm
        ·exact absurd h1 hxt)
      refine ⟨σ4,?_,fun t ht=> ?_,fun t ht=> ?_⟩
      ·simp only [takesV,c1,c2,d1]
       rw [if_neg hnh]
      ·by_cases htx:Operand.tmp t∈xs.map (·.2)
       ·exact d2 t htx
       ·have hxt:x= .tmp t:=by
         simp only [List.map_cons,List.mem_cons] at ht
         rcases ht with ht|ht
         ·exact ht.symm
         ·exact absurd ht htx
        rw [d3 t htx,c3 t hxt]
        rcases b1 t with h4|⟨h4,_⟩
        ·exact h4.symm
        ·exact absurd h4 htx
      ·simp only [List.map_cons,List.mem_cons,not_or] at ht
       rw [d3 t ht.2,c4 t (fun e=>ht.1 e.symm)]
    ·cases h
   ·cases h
  ·cases h
structure Foot (C:Ctx) (PS:List Nat) (σ:Env) (o:Oper) (p:Prop) (σ':Env) (d:Nat) (v:V) (τ:Env):Prop where
 dst:o.dst=some d
 eq:σ'=τ.put d true (.val v)
 off:∀t,τ t=σ t∨(Operand.tmp t∈o.op.operands∧t∈PS∧Dropped (σ t) (τ t))
 same:∀σ2:Env,(∀t,Operand.tmp t∈o.op.operands→σ2 t=σ t)→∃τ2:Env,pstep C PS σ2 o=some (p,τ2.put d true (.val v))∧(∀t,Operand.tmp t∈o.op.operands→τ2 t=τ t)∧(∀t,Operand.tmp t∉o.op.operands→τ2 t=σ2 t)
theorem wholes_same {l:List Operand} {σ2:Env} (h:∀t,Operand.tmp t∈l→σ2 t=σ t):wholes PS σ2 l=wholes PS σ l:=by
 unfold wholes
 induction l with
 |nil=>rfl
 |cons x l ih=>
  simp only [List.all_cons]
  rw [ih (fun t ht=>h t (List.mem_cons_of_mem _ ht))]
  congr 1
  cases x with
  |tmp t=>simp only [whole,h t (by simp)]
  |_=>rfl
theorem plain_opd {P:Program} {ty:TypeId} {y:Operand} {gy:Bool} {Ay:A} (h:plain σ y=true) (ho:opd P σ ty y=some (gy,Ay)):
 (∃v,Ay= .val v)∧∀τ:Env,(∀t,y= .tmp t→τ t=σ t)→opd P τ ty y=some (gy,Ay):=by
 cases y with
 |tmp t=>
  simp only [plain] at h
  have hs:∀τ:Env,τ t=σ t→opd P τ ty (.tmp t)=opd P σ ty (.tmp t):=fun τ hτ=>by simp only [opd,hτ]
  refine ⟨?_,fun τ hτ=>by rw [hs τ (hτ t rfl)];exact ho⟩
  cases ha:(σ t).a with
  |val z=>
   rw [ha] at h
   simp only [Bool.not_eq_true'] at h
   simp only [opd,ha] at ho
   rw [if_neg (by rw [h];simp)] at ho
   simp only [Option.some.injEq,Prod.mk.injEq] at ho
   exact ⟨z,ho.2.symm⟩
  |_=>rw [ha] at h;cases h
 |const v=>
  have ho':=ho
  simp only [opd,Option.map_eq_some_iff,Prod.mk.injEq] at ho
  obtain ⟨z,_,_,rfl⟩:=ho
  exact ⟨⟨z,rfl⟩,fun τ _=>ho'⟩
 |func f=>
  have ho':=ho
  simp only [opd,Option.some.injEq,Prod.mk.injEq] at ho
  exact ⟨⟨_,ho.2.symm⟩,fun τ _=>ho'⟩
 |global g=>simp [opd] at ho
theorem take_plain {x:Operand} {ty:TypeId} {gx:Bool} {Ax:A} {q:Prop} {v:V} {σ1:Env} {u:Nat} (h:plain σ (.tmp u)=true) (ho:opd C.P σ ty x=some (gx,Ax)) (ht:takeA σ Ax=some (q,v,σ1)) (hx:x= .tmp u):σ1 u=σ u:=by
 subst hx
 obtain ⟨⟨z,rfl⟩,_⟩:=plain_opd h ho
 simp only [takeA,Option.some.injEq,Prod.mk.injEq] at ht
 rw [ht.2.2]
theorem pstep_foot {o:Oper} {p:Prop} (h:pstep C PS σ o=some (p,σ')):∃d v τ,Foot C PS σ o p σ' d v τ:=by
 have h0:=h
 unfold pstep at h
 split at h
 ·rename_i hw
  have hw':∀x∈o.op.operands.toList,whole PS σ x=true:=List.all_eq_true.1 hw
  split at h
  ·rename_i x d hg hop hd
   have hops:o.op.operands= #[x]:=by simp [hop,Op.operands]
   split at h
   ·rename_i gx A hA
    split at h
    ·rename_i q y σ1 ht
     split at h
     ·rename_i hc
      simp only [Option.some.injEq,Prod.mk.injEq] at h
      obtain ⟨rfl,rfl⟩:=h
      obtain ⟨a1,a2⟩:=take_whole (hw' x (by simp [hops])) hA ht
      refine ⟨d,y,σ1,hd,rfl,fun t=> ?_,fun σ2 hs=> ?_⟩
      ·rcases a1 t with h1|⟨h1,h2,h3⟩
       ·exact .inl h1
       ·exact .inr ⟨by simp [hops,h1],h2,h3⟩
      ·obtain ⟨c1,σ3,c2,c3,c4⟩:=a2 σ2 (fun t ht=>hs t (by simp [hops,ht]))
       refine ⟨σ3,?_,fun t ht=>c3 t (by rw [hops] at ht;simp at ht;exact ht.symm),fun t ht=>c4 t (fun e=>ht (by simp [hops,e]))⟩
       unfold pstep
       rw [wholes_same (fun t ht=>hs t (by simpa using ht)),hw,if_pos rfl]
       simp only [hg,hop,hd,c1,c2]
       rw [if_pos hc]
     ·cases h
    ·cases h
   ·cases h
  ·rename_i args ats d hg hop hd
   split at h
   ·rename_i hpo
    by_cases hpl:plainArg σ args.toList=true
    ·clear hpo
     simp only [wstep,hg,hop,hd] at h
     split at h
     ·rename_i x y t t' hargs hats
      have hops:o.op.operands.toList=[x,y]:=by rw [hop];simpa [Op.operands,Call.operands] using hargs
      have hmem:∀z,z∈o.op.operands↔z=x∨z=y:=fun z=>by
       have:z∈o.op.operands↔z∈o.op.operands.toList:=by simp
       rw [this,hops];simp
      split at h
      ·rename_i htt
       split at h
       ·rename_i e gx Ax he hA
        split at h
        ·rename_i q e' dd es σ1 ht
         split at h
         ·rename_i gy Ay hAy
          split at h
          ·rename_i z oy ey d2 es2 hz hlk
           split at h
           ·rename_i hc
            obtain ⟨a1,a2⟩:=take_whole (hw' x (by rw [hops];simp)) hA ht
            have hpy:plain σ y=true:=by rw [hargs] at hpl;exact hpl
            have hy1:∀u,y= .tmp u→σ1 u=σ u:=fun u hu=>by
             by_cases hxu:x= .tmp u
             ·exact take_plain (by rw [←hu];exact hpy) hA ht hxu
             ·rcases a1 u with h1|⟨h1,_⟩
              ·exact h1
              ·exact absurd h1 hxu
            have hpy1:plain σ1 y=true:=by
             cases y with
             |tmp u=>simp only [plain,hy1 u rfl] at hpy ⊢;exact hpy
             |_=>rfl
            obtain ⟨⟨vy,rfl⟩,hoy⟩:=plain_opd hpy1 hAy
            have main:∃vv,σ'=σ1.put d true (.val vv)∧∀τ τ3:Env,opd C.P τ t x=some (gx,Ax)→takeA τ Ax=some (q,.slc true e' dd es,τ3)→opd C.P τ3 t y=some (gy,.val vy)→wstep C τ o=some (p,τ3.put d true (.val vv)):=by
             simp only [A.look,Option.some.injEq] at hlk
             subst hlk
             by_cases hos:(oy&& !scalP C.P e)=true
             ·rw [if_pos hos] at h
              have ho1:oy=true:=by simp only [Bool.and_eq_true] at hos;exact hos.1
              subst ho1
              simp only [takeA,Option.some.injEq,Prod.mk.injEq] at h
              obtain ⟨rfl,rfl⟩:=h
              refine ⟨_,rfl,fun τ τ3 k1 k2 k3=> ?_⟩
              simp only [wstep,hg,hop,hd,hargs,hats]
              rw [if_pos htt]
              simp only [he,k1,k2,k3,hz,A.look]
              rw [if_pos hc,if_pos hos]
              rfl
             ·rw [if_neg hos] at h
              simp only [Option.some.injEq,Prod.mk.injEq] at h
              obtain ⟨rfl,rfl⟩:=h
              refine ⟨_,rfl,fun τ τ3 k1 k2 k3=> ?_⟩
              simp only [wstep,hg,hop,hd,hargs,hats]
              rw [if_pos htt]
              simp only [he,k1,k2,k3,hz,A.look]
              rw [if_pos hc,if_neg hos]
              rfl
            obtain ⟨vv,rfl,hm⟩:=main
            refine ⟨d,vv,σ1,hd,rfl,fun t=> ?_,fun σ2 hs=> ?_⟩
            ·rcases a1 t with h1|⟨h1,h2,h3⟩
             ·exact .inl h1
             ·exact .inr ⟨(hmem _).2 (.inl h1.symm),h2,h3⟩
            ·obtain ⟨c1,σ3,c2,c3,c4⟩:=a2 σ2 (fun t ht=>hs t ((hmem _).2 (.inl ht.symm)))
             have hy3:∀u,y= .tmp u→σ3 u=σ1 u:=fun u hu=>by
              by_cases hxu:x= .tmp u
              ·exact c3 u hxu
              ·rw [c4 u hxu,hs u ((hmem _).2 (.inr hu.symm)),hy1 u hu]
             refine ⟨σ3,?_,fun t ht=> ?_,fun t ht=>c4 t (fun e=>ht ((hmem _).2 (.inl e.symm)))⟩
             ·have hpl2:plainArg σ2 args.toList=true:=by
               rw [hargs] at hpl ⊢
               cases y with
               |tmp u=>simp only [plainArg,plain,hs u ((hmem _).2 (.inr rfl))] at hpl ⊢;exact hpl
               |_=>rfl
              unfold pstep
              rw [wholes_same (fun t ht=>hs t (by simpa using ht)),hw,if_pos rfl]
              simp only [hg,hop,hd]
              rw [if_pos (by rw [hpl2];rfl)]
              exact hm σ2 σ3 c1 c2 (hoy σ3 hy3)
             ·by_cases hxt:x= .tmp t
              ·exact c3 t hxt
              ·rcases (hmem _).1 ht with h1|h1
               ·exact absurd h1.symm hxt
               ·exact hy3 t h1.symm
           ·cases h
          ·cases h
         ·cases h
        ·cases h
       ·cases h
      ·cases h
     ·cases h
    ·have hoa:ownArg C σ args.toList ats.toList=true:=by simpa [hpl] using hpo
     clear hpo
     simp only [wstep,hg,hop,hd] at h
     split at h
     ·rename_i x y t t' hargs hats
      have hops:o.op.operands.toList=[x,y]:=by rw [hop];simpa [Op.operands,Call.operands] using hargs
      have hmem:∀z,z∈o.op.operands↔z=x∨z=y:=fun z=>by
       have:z∈o.op.operands↔z∈o.op.operands.toList:=by simp
       rw [this,hops];simp
      rw [hargs,hats] at hoa
      split at h
      ·rename_i htt
       split at h
       ·rename_i e gx Ax he hA
        split at h
        ·rename_i q e' dd es σ1 ht
         split at h
         ·rename_i gy Ay hAy
          split at h
          ·rename_i z oy ey d2 es2 hz hlk
           split at h
           ·rename_i hc
            obtain ⟨a1,a2⟩:=take_whole (hw' x (by rw [hops];simp)) hA ht
            cases y with
            |tmp u=>
             simp only [ownArg,he,Bool.and_eq_true] at hoa
             obtain ⟨⟨o1,o2⟩,o3⟩:=hoa
             have hxu:x≠.tmp u:=by
              rintro rfl
              simp at o2
             have hs1:σ1 u=σ u:=by
              rcases a1 u with h1|⟨h1,_⟩
              ·exact h1
              ·exact absurd h1 hxu
             have hos:¬(oy&& !scalP C.P e)=true:=by rw [o3];simp
             rw [if_neg hos] at h
             simp only [Option.some.injEq,Prod.mk.injEq] at h
             obtain ⟨rfl,rfl⟩:=h
             have hAe:Ay= .rf u (σ u).ver []∧gy=(σ u).g:=by
              rw [←hs1] at o1 ⊢
              cases ha:(σ1 u).a with
              |val v=>
               rw [ha] at o1
               simp only [opd,ha] at hAy
               rw [if_pos o1] at hAy
               simp only [Option.some.injEq,Prod.mk.injEq] at hAy
               exact ⟨hAy.2.symm,hAy.1.symm⟩
              |_=>rw [ha] at o1;cases o1
             obtain ⟨rfl,rfl⟩:=hAe
             have keep:∀τ:Env,τ u=σ1 u→opd C.P τ t (.tmp u)=some ((σ u).g,.rf u (σ u).ver [])∧A.look τ (.rf u (σ u).ver [])=A.look σ1 (.rf u (σ u).ver [])∧A.okA τ (.rf u (σ u).ver [])=A.okA σ1 (.rf u (σ u).ver []):=fun τ hτ=>by
              refine ⟨?_,by simp only [A.look,Env.own,hτ],by simp only [A.okA,Env.own,hτ]⟩
              rw [←hAy]
              simp only [opd,hτ]
             refine ⟨d,_,σ1,hd,rfl,fun t=> ?_,fun σ2 hs=> ?_⟩
             ·rcases a1 t with h1|⟨h1,h2,h3⟩
              ·exact .inl h1
              ·exact .inr ⟨(hmem _).2 (.inl h1.symm),h2,h3⟩
             ·obtain ⟨c1,σ3,c2,c3,c4⟩:=a2 σ2 (fun t ht=>hs t ((hmem _).2 (.inl ht.symm)))
              have hy3:σ3 u=σ1 u:=by rw [c4 u hxu,hs u ((hmem _).2 (.inr rfl)),hs1]
              obtain ⟨e1,e2,e3⟩:=keep σ3 hy3
              refine ⟨σ3,?_,fun t ht=> ?_,fun t ht=>c4 t (fun e=>ht ((hmem _).2 (.inl e.symm)))⟩
              ·unfold pstep
               rw [wholes_same (fun t ht=>hs t (by simpa using ht)),hw,if_pos rfl]
               simp only [hg,hop,hd]
               have ho2:ownArg C σ2 args.toList ats.toList=true:=by
                rw [hargs,hats]
                simp only [ownArg,he,hs u ((hmem _).2 (.inr rfl)),o1,o2,o3,Bool.and_self]
               rw [if_pos (by rw [ho2,Bool.or_true])]
               simp only [wstep,hg,hop,hd,hargs,hats]
               rw [if_pos htt]
               simp only [he,c1,c2,e1,e2,e3,hz,hlk]
               rw [if_pos hc,if_neg hos]
              ·by_cases hxt:x= .tmp t
               ·exact c3 t hxt
               ·rcases (hmem _).1 ht with h1|h1
                ·exact absurd h1.symm hxt
                ·simp only [Operand.tmp.injEq] at h1
                 rw [h1];exact hy3
            |_=>simp [ownArg] at hoa
           ·cases h
          ·cases h
         ·cases h
        ·cases h
       ·cases h
      ·cases h
     ·cases h
   ·cases h
  ·rename_i hna hnb
   have h':=h
   unfold mstep at h
   split at h
   ·rename_i t parts d hg hop hd
    have hops:o.op.operands.toList=parts.toList.map (·.2):=by simp [hop,Op.operands]
    split at h
    ·rename_i zs p' vs σ1 h1 h2
     split at h
     ·rename_i fs hf
      split at h
      ·rename_i hdd
       simp only [Option.some.injEq,Prod.mk.injEq] at h
       obtain ⟨rfl,rfl⟩:=h
       obtain ⟨a1,a2⟩:=takesV_whole parts.toList σ _ _ _ (fun e he=>hw' _ (by rw [hops];exact List.mem_map.2 ⟨e,he,rfl⟩)) h2
       have hm:∀t,Operand.tmp t∈o.op.operands↔Operand.tmp t∈parts.toList.map (·.2):=fun t=>by rw [←hops];simp
       refine ⟨d,.agg fs,σ1,hd,rfl,fun t=> ?_,fun σ2 hs=> ?_⟩
       ·rcases a1 t with h1|⟨h1,h2,h3⟩
        ·exact .inl h1
        ·exact .inr ⟨(hm t).2 h1,h2,h3⟩
       ·obtain ⟨σ3,c2,c3,c4⟩:=a2 σ2 (fun t ht=>hs t ((hm t).2 ht))
        refine ⟨σ3,?_,fun t ht=>c3 t ((hm t).1 ht),fun t ht=>c4 t (fun e=>ht ((hm t).2 e))⟩
        unfold pstep
        rw [wholes_same (fun t ht=>hs t (by simpa using ht)),hw,if_pos rfl]
        simp only [hg,hop,hd,mstep,h1,c2,hf]
        rw [if_pos hdd]
      ·cases h
     ·cases h
    ·cases h
   ·rename_i t n parts d hg hop hd
    have hops:o.op.operands.toList=parts.toList.map (·.2):=by simp [hop,Op.operands]
    split at h
    ·rename_i e he
     split at h
     ·rename_i z p' vs σ1 hz h1
      split at h
      ·rename_i hcz
       split at h
       ·rename_i es hf
        split at h
        ·rename_i hdd
         simp only [Option.some.injEq,Prod.mk.injEq] at h
         obtain ⟨rfl,rfl⟩:=h
         obtain ⟨a1,a2⟩:=takesV_whole parts.toList σ _ _ _ (fun e he=>hw' _ (by rw [hops];exact List.mem_map.2 ⟨e,he,rfl⟩)) h1
         have hm:∀t,Operand.tmp t∈o.op.operands↔Operand.tmp t∈parts.toList.map (·.2):=fun t=>by rw [←hops];simp
         refine ⟨d,.slc true e z es,σ1,hd,rfl,fun t=> ?_,fun σ2 hs=> ?_⟩
         ·rcases a1 t with h1|⟨h1,h2,h3⟩
          ·exact .inl h1
          ·exact .inr ⟨(hm t).2 h1,h2,h3⟩
         ·obtain ⟨σ3,c2,c3,c4⟩:=a2 σ2 (fun t ht=>hs t ((hm t).2 ht))
          refine ⟨σ3,?_,fun t ht=>c3 t ((hm t).1 ht),fun t ht=>c4 t (fun e=>ht ((hm t).2 e))⟩
          unfold pstep
          rw [wholes_same (fun t ht=>hs t (by simpa using ht)),hw,if_pos rfl]
          simp only [hg,hop,hd,mstep,he,hz,c2]
          rw [if_pos hcz,hf]
          dsimp only
          rw [if_pos hdd]
        ·cases h
       ·cases h
      ·cases h
     ·cases h
    ·cases h
   ·cases h
 ·cases h
end
end Go.Ax
namespace Go.Ax
open Go.RowKit
def NR (PS:List Nat) (σ:Env):Prop:=∀s∈PS,∀t ver,(σ t).a.refs=some (s,ver)→σ.own s ver=none
def RefOk (PS:List Nat) (σ':Env) (o:Oper):Prop:=∀d,o.dst=some d→∀s ver,(σ' d).a.refs=some (s,ver)→s∉PS
def NoRefs (PS:List Nat) (σ:Env) (o:Oper):Prop:=o.guard=none∧∀t,Operand.tmp t∈o.op.operands→(∀s v,(σ t).a.refs=some (s,v)→s+800∉PS)∧∀x,(σ t).a= .val x→x.owned=true→t+800∉PS
def LateA (C:Ctx) (PS:List Nat) (σ:Env) (o:Oper):Prop:=∃args ats tx ty t t' s ver i q r z,o.guard=none∧o.op= .call ⟨.builtin .append,args,ats⟩∧args.toList=[.tmp tx,.tmp ty]∧ats.toList=[t,t']∧(∀e,elemOf C.P t=some e→scalP C.P e=true)∧
 (σ tx).a= .rf s ver (i::q)∧σ.own s ver=some r∧(∀fs,r≠.tup fs)∧s≠ty∧(σ ty).a= .val z∧s+800∈PS
def LateSt (PS:List Nat) (σ:Env) (o:Oper):Prop:=∃t tx tv s ver p r y,o.guard=none∧o.dst=none∧o.op= .store t (.tmp tx) (.tmp tv)∧((σ tx).a= .ad s ver p∨(σ tx).a= .rf s ver p∨(tx=s∧p=[]))∧σ.own s ver=some r∧s+800∈PS∧(σ tv).a= .val y∧y.owned=false
def LateW (C:Ctx) (PS:List Nat) (σ:Env) (o:Oper):Prop:=LateA C PS σ o∨LateSt PS σ o
def LateIo (C:Ctx) (PS:List Nat) (σ:Env) (o:Oper):Prop:=∃k args ats j c x gx s ver d,o.guard=none∧o.op= .call ⟨.value (.func k),args,ats⟩∧o.dst=some d∧C.Ψ k=some (j,false,c)∧getAt (j%1000) args.toList=some (.tmp x)∧opd C.P σ 0 (.tmp x)=some (gx,.rf s ver [])∧s+800∈PS∧
 ∀t,Operand.tmp t∈skipAt (j%1000) args.toList→∃z,(σ t).a= .val z
def StepIo (C:Ctx) (PS:List Nat) (σ:Env) (o:Oper) (p:Prop) (σ':Env):Prop:=∃l:List Nat,(l=[]∨C.st=false)∧(∀t∈l,t+800∈PS∧Operand.tmp t∈o.op.operands)∧istep C (frzO σ l) o=some (p,σ')∧LateIo C PS (frzO σ l) o
def lateB (PS:List Nat) (o:Oper):Bool:=match o.dst with
 |some d=>PS.contains (d+800)
 |none=>PS.contains 998
def StepM (C:Ctx) (ops:Array Oper) (PS:List Nat) (t:Bool) (σ:Env) (o:Oper) (p:Prop) (σ':Env):Prop:=
 (t=true∧((lstep C ops σ o=some (p,σ')∧RefOk PS σ' o)∨(wstep C σ o=some (p,σ')∧∀x,o.op= .assign x→∀d,o.dst=some d→d∉PS)∨vstep C σ o=some (p,σ')∨zstep C ops σ o=some (p,σ')∨StepIo C PS σ o p σ')∧(lateB PS o=true→(wstep C σ o=some (p,σ')∧LateW C PS σ o)∨StepIo C PS σ o p σ'))∨
 (t=false∧∃d,o.dst=some d∧(σ d).owner=false∧((lstep C ops σ o=some (p,σ')∧RefOk PS σ' o)∨pstep C PS σ o=some (p,σ'))∧(lateB PS o=true→NoRefs PS σ o∧lstep C ops σ o=some (p,σ')∧RefOk PS σ' o))
section
variable {C:Ctx} {F:Nat→Prop} {O:Nat→Nat→Prop} {Z:Nat→Prop} {σ σ' σ'':Env} {a:Act} {w w':World} {ops:Array Oper} {PS:List Nat}
theorem stepM_sound (hC:CtxOk C) (hIO:IOk C) {t:Bool} {o:Oper} {i:Nat} (hi:ops[i]? =some o) {p:Prop} (h:StepM C ops PS t σ o p σ') (hp:p) {Q:Exit→Act→World→Prop} (hG:G C σ a w):wpOp C.P ops Q i (G C σ') a w:=by
 obtain ⟨F,O,hI⟩:=hG
 rcases h with ⟨_,⟨h,_⟩|⟨h,_⟩|h|h|h,_⟩|⟨_,d,_,_,⟨h,_⟩|h,_⟩
 ·exact lstep_sound hC hI hi h hp
 ·exact wstep_sound hI hi h hp
 ·obtain ⟨hg,hw⟩:=vstep_sound hIO hI h hp (Q:=Q)
  unfold wpOp
  rw [hi]
  dsimp only
  rw [show Region.wanted o (yielded ops a.tmps)=true from by unfold Region.wanted;rw [hg]]
  exact .inl hw
 ·unfold zstep at h
  split at h
  ·split at h
   ·rename_i hl
    split at h
    ·rename_i hy
     simp only [Option.some.injEq,Prod.mk.injEq] at h
     obtain ⟨rfl,rfl⟩:=h
     refine wpOp_mono (fun a' w' hG'=> ?_) (lstep_sound hC hI hi hl hp.1)
     obtain ⟨F',O',hI'⟩:=hG'
     exact hI'.frzG hp.2 hy
    ·cases h
   ·cases h
  ·cases h
 ·obtain ⟨l,hl,_,h,_⟩:=h
  obtain ⟨F',O',hI'⟩:=FzR.g ⟨l,hl,rfl⟩ (⟨F,O,hI⟩:G C σ a w)
  obtain ⟨hg,hw⟩:=istep_sound hIO hI' h hp (Q:=Q)
  unfold wpOp
  rw [hi]
  dsimp only
  rw [show Region.wanted o (yielded ops a.tmps)=true from by unfold Region.wanted;rw [hg]]
  exact .inl hw
 ·exact lstep_sound hC hI hi h hp
 ·obtain ⟨hg,hw⟩:=pstep_sound hI h hp (Q:=Q)
  unfold wpOp
  rw [hi]
  dsimp only
  rw [show Region.wanted o (yielded ops a.tmps)=true from by unfold Region.wanted;rw [hg]]
  exact .inl hw
def GrowO (σ σ':Env):Prop:=∀s,(σ s).ver≤(σ' s).ver∧∀ver y,σ'.own s ver=some y→(∃z,σ.own s ver=some z)∨(σ s).ver<ver
theorem GrowO.refl:GrowO σ σ:=fun _=>⟨Nat.le_refl _,fun _ y h=> .inl ⟨y,h⟩⟩
theorem GrowO.trans (h:GrowO σ σ') (h':GrowO σ' σ''):GrowO σ σ'':=fun s=>⟨Nat.le_trans (h s).1 (h' s).1,fun ver y hy=>by
 rcases (h' s).2 ver y hy with ⟨z,hz⟩|h1
 ·exact (h s).2 ver z hz
 ·exact .inr (Nat.lt_of_le_of_lt (h s).1 h1)⟩
theorem GrowO.at (d:Nat) (h:∀s,s≠d→σ' s=σ s) (hd:(σ d).ver≤(σ' d).ver) (ho:∀ver y,σ'.own d ver=some y→(∃z,σ.own d ver=some z)∨(σ d).ver<ver):GrowO σ σ':=fun s=>by
 by_cases hs:s=d
 ·subst hs;exact ⟨hd,ho⟩
 ·have e:=h s hs
  refine ⟨by rw [e];exact Nat.le_refl _,fun ver y hy=> .inl ⟨y,?_⟩⟩
  unfold Env.own at hy ⊢
  rw [←e];exact hy
theorem GrowO.drp {d:Nat}:GrowO σ (σ.drp d):=by
 refine GrowO.at d (fun s hs=>by simp [Env.drp,hs]) (by simp [Env.drp]) (fun ver y hy=> ?_)
 rw [Env.own_drp_eq] at hy;cases hy
theorem GrowO.put {d:Nat} {g:Bool} {A:A}:GrowO σ (σ.put d g A):=by
 refine GrowO.at d (fun s hs=>by simp [Env.put,hs]) (by simp [Env.put]) (fun ver y hy=> .inr ?_)
 have:=(Env.own_elim hy).2.1
 simp only [Env.put,if_true] at this
 omega
theorem GrowO.bmp {d:Nat} {x:V}:GrowO σ (σ.bmp d x):=by
 refine GrowO.at d (fun s hs=>by simp [Env.bmp,hs]) (by simp [Env.bmp]) (fun ver y hy=> .inr ?_)
 have:=(Env.own_elim hy).2.1
 simp only [Env.bmp,if_true] at this
 omega
theorem GrowO.mod {d v0:Nat} {x r:V} (h:σ.own d v0=some r):GrowO σ (σ.mod d x):=by
 refine GrowO.at d (fun s hs=>by simp [Env.mod,hs]) (by simp [Env.mod]) (fun ver y hy=> .inl ⟨r,?_⟩)
 have h1:=(Env.own_elim hy).2.1
 simp only [Env.mod,if_true] at h1
 have h2:=(Env.own_elim h).2.1
 rw [←h1,h2];exact h
mutual
theorem takeP_growO {s ver:Nat}:∀(x:V) (p:List Nat) (σ σ':Env) (q:Prop) (y:V),takeP s ver x p σ=some (q,y,σ')→GrowO σ σ'
 | .agg fs,p,σ,σ',q,y,h=>by
   simp only [takeP] at h
   split at h
   ·rename_i q1 vs σ1 h1
    simp only [Option.some.injEq,Prod.mk.injEq] at h
    obtain ⟨_,_,rfl⟩:=h
    exact takePs_growO fs p 0 σ _ _ _ h1
   ·cases h
 | .slc true e d es,p,σ,σ',q,y,h=>by
   simp only [takeP] at h
   split at h
   ·rename_i hr
    simp only [Option.some.injEq,Prod.mk.injEq] at h
    obtain ⟨_,_,rfl⟩:=h
    exact .mod hr
   ·cases h
 | .slc false e d es,p,σ,σ',q,y,h=>by
   simp only [takeP] at h
   split at h
   ·cases h
   ·simp only [Option.some.injEq,Prod.mk.injEq] at h
    obtain ⟨_,_,rfl⟩:=h
    exact .refl
 | .box e c,p,σ,σ',q,y,h=>by
   simp only [takeP] at h
   split at h
   ·rename_i hr
    simp only [Option.some.injEq,Prod.mk.injEq] at h
    obtain ⟨_,_,rfl⟩:=h
    exact .mod hr
   ·cases h
 | .int _ _,p,σ,σ',q,y,h=>by
   simp only [takeP] at h
   split at h
   ·cases h
   ·simp only [Option.some.injEq,Prod.mk.injEq] at h
    obtain ⟨_,_,rfl⟩:=h
    exact .refl
 | .bool _,p,σ,σ',q,y,h=>by
   simp only [takeP] at h
   split at h
   ·cases h
   ·simp only [Option.some.injEq,Prod.mk.injEq] at h
    obtain ⟨_,_,rfl⟩:=h
    exact .refl
 | .str _,p,σ,σ',q,y,h=>by
   simp only [takeP] at h
   split at h
   ·cases h
   ·simp only [Option.some.injEq,Prod.mk.injEq] at h
    obtain ⟨_,_,rfl⟩:=h
    exact .refl
 | .tup _,p,σ,σ',q,y,h=>by
   simp only [takeP] at h
   split at h
   ·cases h
   ·simp only [Option.some.injEq,Prod.mk.injEq] at h
    obtain ⟨_,_,rfl⟩:=h
    exact .refl
 | .fn _ _,p,σ,σ',q,y,h=>by
   simp only [takeP] at h
   split at h
   ·cases h
   ·simp only [Option.some.injEq,Prod.mk.injEq] at h
    obtain ⟨_,_,rfl⟩:=h
    exact .refl
 | .hole _,p,σ,σ',q,y,h=>by
   simp only [takeP] at h
   split at h
   ·cases h
   ·simp only [Option.some.injEq,Prod.mk.injEq] at h
    obtain ⟨_,_,rfl⟩:=h
    exact .refl
theorem takePs_growO {s ver:Nat}:∀(fs:List V) (p:List Nat) (i:Nat) (σ σ':Env) (q:Prop) (ys:List V),takePs s ver fs p i σ=some (q,ys,σ')→GrowO σ σ'
 |[],p,i,σ,σ',q,ys,h=>by
  simp only [takePs,Option.some.injEq,Prod.mk.injEq] at h
  obtain ⟨_,_,rfl⟩:=h
  exact .refl
 |x::xs,p,i,σ,σ',q,ys,h=>by
  simp only [takePs] at h
  split at h
  ·rename_i q1 v σ1 h1
   split at h
   ·rename_i q2 vs σ2 h2
    simp only [Option.some.injEq,Prod.mk.injEq] at h
    obtain ⟨_,_,rfl⟩:=h
    exact (takeP_growO x _ σ σ1 _ _ h1).trans (takePs_growO xs p _ σ1 _ _ _ h2)
   ·cases h
  ·cases h
end
theorem takeA_growO {A:A} {q:Prop} {x:V} (h:takeA σ A=some (q,x,σ')):GrowO σ σ':=by
 unfold takeA at h
 split at h
 ·simp only [Option.some.injEq,Prod.mk.injEq] at h
  obtain ⟨_,_,rfl⟩:=h
  exact .refl
 ·split at h
  ·rename_i hr
   split at h
   ·simp only [Option.some.injEq,Prod.mk.injEq] at h
    obtain ⟨_,_,rfl⟩:=h
    exact .drp
   ·split at h
    ·split at h
     ·simp only [Option.some.injEq,Prod.mk.injEq] at h
      obtain ⟨_,_,rfl⟩:=h
      exact .mod hr
     ·cases h
    ·simp only [Option.some.injEq,Prod.mk.injEq] at h
     obtain ⟨_,_,rfl⟩:=h
     exact .mod hr
  ·cases h
 ·exact takeP_growO _ _ _ _ _ _ h
 ·cases h
theorem NR.step (hn:NR PS σ) (hw:Wf σ) (hg:GrowO σ σ') (hr:∀t s ver,s∈PS→(σ' t).a.refs=some (s,ver)→(σ t).a.refs=some (s,ver)):NR PS σ':=by
 intro s hs t ver h
 have h1:=hr t s ver hs h
 cases ho:σ'.own s ver with
 |none=>rfl
 |some y=>
  rcases (hg s).2 ver y ho with ⟨z,hz⟩|hlt
  ·rw [hn s hs t ver h1] at hz;cases hz
  ·have:=hw t s ver h1;omega
theorem Grow.refKeep (h:Grow σ σ'):∀t s ver,s∈PS→(σ' t).a.refs=some (s,ver)→(σ t).a.refs=some (s,ver):=by
 intro t s ver _ hr
 rcases (h t).2 with e|e
 ·rw [←e];exact hr
 ·rw [e] at hr;cases hr
theorem lstep_put {o:Oper} {p:Prop} (h:lstep C ops σ o=some (p,σ')):∃d g A,o.dst=some d∧σ'=σ.put d g A:=by
 cases hd:o.dst with
 |none=>unfold lstep at h;rw [hd] at h;split at h<;>simp_all
 |some d=>
  rw [lstep_eq hd] at h
  split at h
  ·split at h
   ·simp only [Option.some.injEq,Prod.mk.injEq] at h
    exact ⟨d,_,_,rfl,h.2.symm⟩
   ·cases h
  ·cases h
theorem lstep_NR (hn:NR PS σ) (hw:Wf σ) {o:Oper} {p:Prop} (h:lstep C ops σ o=some (p,σ')) (hr:RefOk PS σ' o):NR PS σ':=by
 obtain ⟨d,g,A,hd,rfl⟩:=lstep_put h
 refine hn.step hw .put (fun t s ver hs h=> ?_)
 by_cases ht:t=d
 ·subst ht
  exact absurd hs (hr t hd s ver h)
 ·simpa [Env.put,ht] using h
theorem wstep_NR (hn:NR PS σ) (hw:Wf σ) {o:Oper} {p:Prop} (h:wstep C σ o=some (p,σ')) (hr:∀x,o.op= .assign x→∀d,o.dst=some d→d∉PS):NR PS σ':=by
 unfold wstep at h
 split at h
 ·cases h
 ·split at h
  ·rename_i x0 d0 hop hd
   split at h
   ·rename_i gx A h1
    split at h
    ·rename_i q y σ1 ht
     have g1:=takeA_grow ht
     have o1:=takeA_growO ht
     split at h
     ·split at h
      ·split at h
       ·cases h
       ·rename_i s ver hsd
        simp only [Option.some.injEq,Prod.mk.injEq] at h
        obtain ⟨_,rfl⟩:=h
        refine hn.step hw ((o1.trans .put).trans .put) (fun t s' ver' hs' hh=> ?_)
        by_cases hts:t=s
        ·subst hts
         simp only [Env.put,if_true,A.refs,Option.some.injEq,Prod.mk.injEq] at hh
         rw [←hh.1] at hs'
         exact absurd hs' (hr _ hop _ hd)
        ·have h2:((σ1.put d0 true (.val y)) t).a.refs=some (s',ver'):=by
          rw [Env.put,if_neg hts] at hh
          exact hh
         exact (g1.trans (.putVal (x:=y))).refKeep t s' ver' hs' h2
      ·simp only [Option.some.injEq,Prod.mk.injEq] at h
       obtain ⟨_,rfl⟩:=h
       exact hn.step hw (o1.trans .put) (g1.trans .putVal).refKeep
     ·cases h
    ·cases h
   ·cases h
  ·split at h
   ·split at h
    ·rename_i q y σ1 ht
     have g1:=takeA_grow ht
     have o1:=takeA_growO ht
     split at h
     ·split at h
      ·rename_i hown
       split at h
       ·simp only [Option.some.injEq,Prod.mk.injEq] at h
        obtain ⟨_,rfl⟩:=h
        split
        ·exact hn.step hw (o1.trans (.mod hown)) (g1.trans .mod).refKeep
        ·exact hn.step hw (o1.trans .bmp) (g1.trans .bmp).refKeep
       ·cases h
      ·cases h
     ·split at h
      ·rename_i hown
       split at h
       ·split at h
        ·simp only [Option.some.injEq,Prod.mk.injEq] at h
         obtain ⟨_,rfl⟩:=h
         split
         ·exact hn.step hw (o1.trans (.mod hown)) (g1.trans .mod).refKeep
         ·exact hn.step hw (o1.trans .bmp) (g1.trans .bmp).refKeep
        ·cases h
       ·cases h
      ·cases h
     ·cases h
    ·cases h
   ·cases h
  ·split at h
   ·split at h
    ·split at h
     ·split at h
      ·rename_i q e' dd es σ1 ht
       have g1:=takeA_grow ht
       have o1:=takeA_growO ht
       split at h
       ·split at h
        ·split at h
         ·split at h
          ·split at h
           ·rename_i q2 e2 d2 es3 σ2 ht2
            simp only [Option.some.injEq,Prod.mk.injEq] at h
            obtain ⟨_,rfl⟩:=h
            exact hn.step hw ((o1.trans (takeA_growO ht2)).trans .put) ((g1.trans (takeA_grow ht2)).trans .putVal).refKeep
           ·cases h
          ·simp only [Option.some.injEq,Prod.mk.injEq] at h
           obtain ⟨_,rfl⟩:=h
           exact hn.step hw (o1.trans .put) (g1.trans .putVal).refKeep
         ·cases h
        ·cases h
       ·cases h
      ·cases h
     ·cases h
    ·cases h
   ·cases h
  ·cases h
theorem Foot.grow {o:Oper} {p:Prop} {d:Nat} {v:V} {τ:Env} (h:Foot C PS σ o p σ' d v τ):Grow σ σ'∧GrowO σ σ':=by
 have h1:Grow σ τ:=fun t=>by
  rcases h.off t with e|⟨_,_,e⟩
  ·rw [e];exact ⟨Nat.le_refl _,.inl rfl⟩
  ·exact ⟨e.2.1,.inr e.1⟩
 have h2:GrowO σ τ:=fun t=>by
  rcases h.off t with e|⟨_,_,e⟩
  ·refine ⟨by rw [e];exact Nat.le_refl _,fun ver y hy=> .inl ⟨y,?_⟩⟩
   unfold Env.own at hy ⊢
   rw [←e];exact hy
  ·refine ⟨e.2.1,fun ver y hy=> ?_⟩
   obtain ⟨_,_,h3,h4⟩:=Env.own_iff'.1 hy
   rw [e.2.2 y h3] at h4;cases h4
 rw [h.eq]
 exact ⟨h1.trans .putVal,h2.trans .put⟩
theorem pstep_NR (hn:NR PS σ) (hw:Wf σ) {o:Oper} {p:Prop} (h:pstep C PS σ o=some (p,σ')):NR PS σ':=by
 obtain ⟨d,v,τ,hf⟩:=pstep_foot h
 exact hn.step hw hf.grow.2 hf.grow.1.refKeep
theorem pstep_wf (hw:Wf σ) {o:Oper} {p:Prop} (h:pstep C PS σ o=some (p,σ')):Wf σ':=by
 obtain ⟨d,v,τ,hf⟩:=pstep_foot h
 exact hf.grow.1.wf hw
theorem vstep_grow {o:Oper} {p:Prop} (h:vstep C σ o=some (p,σ')):Grow σ σ'∧GrowO σ σ':=by
 unfold vstep at h
 split at h
 ·split at h
  ·split at h
   ·split at h
    ·split at h
     ·rename_i ht
      split at h
      ·split at h
       ·split at h
        ·cases h
        ·split at h
         ·split at h
          ·simp only [Option.some.injEq,Prod.mk.injEq] at h
           obtain ⟨_,rfl⟩:=h
           exact ⟨(takeA_grow ht).trans .putVal,(takeA_growO ht).trans .put⟩
          ·cases h
         ·simp only [Option.some.injEq,Prod.mk.injEq] at h
          obtain ⟨_,rfl⟩:=h
          exact ⟨takeA_grow ht,takeA_growO ht⟩
       ·cases h
      ·cases h
     ·cases h
    ·cases h
   ·cases h
  ·cases h
 ·cases h
theorem late_inv {o:Oper} {p:Prop} (h:istep C σ o=some (p,σ')) (hl:LateIo C PS σ o):∃s ver d y r r0,o.dst=some d∧s+800∈PS∧σ.own s ver=some r0∧σ'=(σ.mod s y).put d true (.val r):=by
 obtain ⟨k,args,ats,j,c,x,gx,s,ver,d,hg,hop,hd,hΨ,hx,hr,hsp,_⟩:=hl
 unfold istep at h
 simp only [hg,hop,hd,hΨ,hx,hr,ioOut] at h
 cases hown:σ.own s ver with
 |none=>rw [hown] at h;cases h
 |some r0=>
  rw [hown] at h
  by_cases hH:r0.isH=true
  ·simp only [hH,if_true] at h
   split at h
   ·rename_i pl vs br hlk
    split at h
    ·rename_i q2 rr y' hc
     by_cases hbr:((br&& !(rr.noFz&&y'.noFz))||(jw j&& !(rootA (.rf s ver [])&&r0.bare)))=true
     ·rw [if_pos hbr] at h;cases h
     ·rw [if_neg hbr] at h
      by_cases hdd:C.dst d
      ·rw [if_pos hdd] at h
       simp only [Option.some.injEq,Prod.mk.injEq] at h
       exact ⟨s,ver,d,_,_,r0,hd,hsp,hown,h.2.symm⟩
      ·rw [if_neg hdd] at h;cases h
    ·cases h
   ·cases h
  ·simp only [hH] at h
   cases h
theorem frzO_grow:∀(l:List Nat) (σ:Env),Grow σ (frzO σ l)∧GrowO σ (frzO σ l)
 |[],_=>⟨.refl,.refl⟩
 |t::l,σ=>by
  simp only [frzO]
  split
  ·obtain ⟨h1,h2⟩:=frzO_grow l ((σ.drp t).put t true (.val (by assumption:V).frz))
   exact ⟨(Grow.drp.trans .putVal).trans h1,(GrowO.drp.trans .put).trans h2⟩
  ·exact frzO_grow l σ
theorem frzO_off:∀(l:List Nat) (σ:Env) (t:Nat),frzO σ l t=σ t∨((σ t).owner=true∧t∈l)
 |[],_,_=> .inl rfl
 |s::l,σ,t=>by
  cases hy:σ.own s (σ s).ver with
  |some y=>
   simp only [frzO,hy]
   by_cases hts:t=s
   ·subst hts
    obtain ⟨o1,_,o3,o4⟩:=Env.own_iff'.1 hy
    exact .inr ⟨by simp [E.owner,o1,o3,o4],by simp⟩
   ·have e:((σ.drp s).put s true (.val y.frz)) t=σ t:=by simp [Env.put,Env.drp,hts]
    rcases frzO_off l ((σ.drp s).put s true (.val y.frz)) t with h|⟨h1,h2⟩
    ·exact .inl (h.trans e)
    ·exact .inr ⟨by rw [←e];exact h1,List.mem_cons_of_mem _ h2⟩
  |none=>
   simp only [frzO,hy]
   rcases frzO_off l σ t with h|⟨h1,h2⟩
   ·exact .inl h
   ·exact .inr ⟨h1,List.mem_cons_of_mem _ h2⟩
theorem stepM_keep {t:Bool} {o:Oper} {p:Prop} (h:StepM C ops PS t σ o p σ') (hw:Wf σ) (hn:NR PS σ):Wf σ'∧NR PS σ':=by
 rcases h with ⟨_,⟨h,h1⟩|⟨h,h1⟩|h|h|h,_⟩|⟨_,d,_,_,⟨h,h1⟩|h,_⟩
 ·exact ⟨lstep_wf hw h,lstep_NR hn hw h h1⟩
 ·exact ⟨wstep_wf hw h,wstep_NR hn hw h h1⟩
 ·exact ⟨(vstep_grow h).1.wf hw,hn.step hw (vstep_grow h).2 (vstep_grow h).1.refKeep⟩
 ·unfold zstep at h
  split at h
  ·rename_i d hd
   split at h
   ·rename_i q σ1 hl
    split at h
    ·rename_i y hy
     simp only [Option.some.injEq,Prod.mk.injEq] at h
     obtain ⟨_,rfl⟩:=h
     have hr:RefOk PS σ1 o:=fun d' hd' s ver hr=>by
      rw [hd] at hd';simp only [Option.some.injEq] at hd';subst hd'
      rw [(Env.own_elim hy).2.2] at hr
      simp [A.refs] at hr
     have w1:=lstep_wf hw hl
     have n1:=lstep_NR hn hw hl hr
     have g1:Grow σ1 ((σ1.drp d).put d true (.val y.frz)):=Grow.drp.trans .putVal
     exact ⟨g1.wf w1,n1.step w1 (GrowO.drp.trans .put) g1.refKeep⟩
    ·cases h
   ·cases h
  ·cases h
 ·obtain ⟨l,_,_,h,h1⟩:=h
  obtain ⟨s,_,d,y,r,r0,_,_,hown,rfl⟩:=late_inv h h1
  obtain ⟨k1,k2⟩:=frzO_grow l σ
  have g1:Grow σ (((frzO σ l).mod s y).put d true (.val r)):=k1.trans (Grow.mod.trans .putVal)
  exact ⟨g1.wf hw,hn.step hw (k2.trans ((GrowO.mod hown).trans .put)) g1.refKeep⟩
 ·exact ⟨lstep_wf hw h,lstep_NR hn hw h h1⟩
 ·exact ⟨pstep_wf hw h,pstep_NR hn hw h⟩
theorem gd_same {o:Oper} (h:∀t∈o.looksAt ops,σ' t=σ t):gd ops σ' o=gd ops σ o:=by
 unfold gd
 cases hg:o.guard with
 |none=>rfl
 |some jw=>
  obtain ⟨j,want⟩:=jw
  cases ht:(ops[j]?).bind (·.dst) with
  |none=>simp [ht]
  |some t=>
   have:σ' t=σ t:=h t (by
    unfold Oper.looksAt
    refine List.mem_append.2 (.inr ?_)
    simp [hg,ht])
   simp [ht,this]
theorem opd_same {P:Program} {o:Oper} (h:∀t∈o.looksAt ops,σ' t=σ t) {ty:TypeId} {x:Operand} (hx:x∈o.op.operands):opd P σ' ty x=opd P σ ty x:=by
 cases x with
 |tmp t=>simp only [opd,h t (mem_looksAt_tmp hx)]
 |_=>rfl
theorem opd_ref {P:Program} {ty:TypeId} {x:Operand} {g:Bool} {A:A} {s ver:Nat} (h:opd P σ ty x=some (g,A)) (hr:A.refs=some (s,ver)):x= .tmp s∨∃t,x= .tmp t∧(σ t).a.refs=some (s,ver):=by
 cases x with
 |tmp t=>
  simp only [opd] at h
  cases ha:(σ t).a with
  |val v=>
   simp only [ha] at h
   split at h
   ·simp only [Option.some.injEq,Prod.mk.injEq] at h
    obtain ⟨_,rfl⟩:=h
    simp only [A.refs,Option.some.injEq,Prod.mk.injEq] at hr
    exact .inl (by rw [hr.1])
   ·simp only [Option.some.injEq,Prod.mk.injEq] at h
    obtain ⟨_,rfl⟩:=h
    simp [A.refs] at hr
  |_=>
   simp only [ha,Option.some.injEq,Prod.mk.injEq] at h
   obtain ⟨_,rfl⟩:=h
   exact .inr ⟨t,rfl,by rw [ha];exact hr⟩
 |const v=>
  simp only [opd,Option.map_eq_some_iff,Prod.mk.injEq] at h
  obtain ⟨z,_,_,rfl⟩:=h
  simp [A.refs] at hr
 |func f=>
  simp only [opd,Option.some.injEq,Prod.mk.injEq] at h
  obtain ⟨_,rfl⟩:=h
  simp [A.refs] at hr
 |global g=>simp [opd] at h
theorem lstep_of {o:Oper} {d:Nat} {p:Prop} (hd:o.dst=some d) (h:lstep C ops σ o=some (p,σ')):∃g A,lres C ops σ o=some (p,g,A)∧C.dst d∧σ'=σ.put d g A:=by
 rw [lstep_eq hd] at h
 split at h
 ·rename_i hl
  split at h
  ·rename_i hdn
   simp only [Option.some.injEq,Prod.mk.injEq] at h
   obtain ⟨rfl,rfl⟩:=h
   exact ⟨_,_,hl,hdn,rfl⟩
  ·cases h
 ·cases h
theorem lstep_to {o:Oper} {d:Nat} {p:Prop} {g:Bool} {A:A} (hd:o.dst=some d) (h:lres C ops σ o=some (p,g,A)) (hdn:C.dst d):lstep C ops σ o=some (p,σ.put d g A):=by
 rw [lstep_eq hd,h]
 dsimp only
 rw [if_pos hdn]
theorem mem_looks {o:Oper} {t:Nat} (h:Operand.tmp t∈o.op.operands):t∈o.looksAt ops:=mem_looksAt_tmp h
theorem owner_eq {e e':E} (h:e'=e) (ho:e.owner=false):e'.owner=false:=by rw [h];exact ho
def FM (C:Ctx) (ops:Array Oper) (PS:List Nat) (b:Bool) (σ:Env) (o:Oper) (p:Prop) (σ':Env):Prop:=(b=true∧lstep C ops σ o=some (p,σ')∧RefOk PS σ' o)∨(b=false∧pstep C PS σ o=some (p,σ'))
theorem FM.of {o:Oper} {p:Prop} (h:((lstep C ops σ o=some (p,σ')∧RefOk PS σ' o)∨pstep C PS σ o=some (p,σ'))∧(lateB PS o=true→NoRefs PS σ o∧lstep C ops σ o=some (p,σ')∧RefOk PS σ' o)):
 ∃b,FM C ops PS b σ o p σ'∧(lateB PS o=true→b=true∧NoRefs PS σ o):=by
 cases hl:lateB PS o with
 |true=>exact ⟨true,.inl ⟨rfl,(h.2 hl).2⟩,fun _=>⟨rfl,(h.2 hl).1⟩⟩
 |false=>
  rcases h.1 with h1|h1
  ·exact ⟨true,.inl ⟨rfl,h1⟩,fun h=>(by cases h)⟩
  ·exact ⟨false,.inr ⟨rfl,h1⟩,fun h=>(by cases h)⟩
theorem FM.to {b:Bool} {o:Oper} {p:Prop} (h:FM C ops PS b σ o p σ') (hl:lateB PS o=true→b=true∧NoRefs PS σ o):
 ((lstep C ops σ o=some (p,σ')∧RefOk PS σ' o)∨pstep C PS σ o=some (p,σ'))∧(lateB PS o=true→NoRefs PS σ o∧lstep C ops σ o=some (p,σ')∧RefOk PS σ' o):=by
 refine ⟨?_,fun h1=> ?_⟩
 ·rcases h with ⟨_,h⟩|⟨_,h⟩
  ·exact .inl h
  ·exact .inr h
 ·obtain ⟨h2,h3⟩:=hl h1
  rcases h with ⟨_,h⟩|⟨h4,_⟩
  ·exact ⟨h3,h⟩
  ·rw [h2] at h4;cases h4
theorem FM.off {b:Bool} {o:Oper} {p:Prop} {d:Nat} {L:List Nat} (h:FM C ops PS b σ o p σ') (hd:o.dst=some d) (hn:d∉L) (hP:∀s∈PS,s∈o.looksAt ops→s∉L):∀t∈L,σ' t=σ t:=by
 intro t ht
 rcases h with ⟨_,h,_⟩|⟨_,h⟩
 ·obtain ⟨g,A,_,_,rfl⟩:=lstep_of hd h
  have:t≠d:=fun e=>hn (by rw [←e];exact ht)
  simp [Env.put,this]
 ·obtain ⟨d',v,τ,hf⟩:=pstep_foot h
  obtain rfl:d'=d:=by have:=hf.dst;rw [hd] at this;simpa using this.symm
  have:t≠d':=fun e=>hn (by rw [←e];exact ht)
  rw [hf.eq]
  simp only [Env.put,this,if_false]
  rcases hf.off t with e|⟨e1,e2,_⟩
  ·exact e
  ·exact absurd ht (hP t e2 (mem_looks e1))
theorem NoRefs.same {o:Oper} (h:NoRefs PS σ o) (hs:∀t∈o.looksAt ops,σ' t=σ t):NoRefs PS σ' o:=⟨h.1,fun t ht=>by rw [hs t (mem_looks ht)];exact h.2 t ht⟩
theorem NoRefs.opd {o:Oper} (h:NoRefs PS σ o) {P:Program} {ty:TypeId} {x:Operand} {g:Bool} {A':A} (hx:x∈o.op.operands) (ho:Go.Ax.opd P σ ty x=some (g,A')) {s ver:Nat} (hr:A'.refs=some (s,ver)):s+800∉PS:=by
 rcases opd_ref ho hr with e|⟨t,e,e'⟩
 ·subst e
  have h1:=h.2 s hx
  simp only [Go.Ax.opd] at ho
  cases ha:(σ s).a with
  |val v=>
   rw [ha] at ho
   simp only at ho
   cases hv:v.owned with
   |true=>exact h1.2 v ha hv
   |false=>
    rw [if_neg (by rw [hv];simp)] at ho
    simp only [Option.some.injEq,Prod.mk.injEq] at ho
    rw [←ho.2] at hr
    simp [A.refs] at hr
  |_=>
   rw [ha] at ho
   simp only [Option.some.injEq,Prod.mk.injEq] at ho
   rw [←ho.2] at hr
   rw [ha] at h1
   exact h1.1 s ver hr
 ·subst e
  exact (h.2 t hx).1 s ver e'
theorem commM {bi bj:Bool} {oi oj:Oper} {di dj:Nat} (hap:oi.apart ops oj=true) (hdi:oi.dst=some di) (hdj:oj.dst=some dj) (hw:Wf σ) (hn:NR PS σ)
 (hP:∀s∈PS,s∈oi.looksAt ops→s∉oj.looksAt ops) {σi σij:Env} {pi pj:Prop}
 (hoi:(σ di).owner=false) (hi:FM C ops PS bi σ oi pi σi)
 (hoj:(σi dj).owner=false) (hj:FM C ops PS bj σi oj pj σij):
 ∃σj,FM C ops PS bj σ oj pj σj∧FM C ops PS bi σj oi pi σij∧(σ dj).owner=false∧(σj di).owner=false:=by
 obtain ⟨a1,a2,a3⟩:=Oper.apart_spec hap
 have hne:di≠dj:=fun e=>a2 di hdi (by rw [hdj,e])
 have a1':=a1 di hdi
 have a3':=a3 dj hdj
 rcases hi with ⟨rfl,hi,hri⟩|⟨rfl,hi⟩
 ·obtain ⟨g,A,hli,hdn,rfl⟩:=lstep_of hdi hi
  rcases hj with ⟨rfl,hj,hrj⟩|⟨rfl,hj⟩
  ·obtain ⟨σj,e1,e2,e3,e4,_⟩:=lstep_comm hap hdi hdj hw hoi hi hoj hj
   obtain ⟨g1,A1,_,_,rfl⟩:=lstep_of hdj hj
   obtain ⟨g2,A2,_,_,rfl⟩:=lstep_of hdj e1
   obtain ⟨g3,A3,_,_,e5⟩:=lstep_of hdi e2
   refine ⟨_,.inl ⟨rfl,e1,fun d hd s ver hr=> ?_⟩,.inl ⟨rfl,e2,fun d hd s ver hr=> ?_⟩,e3,e4⟩
   ·rw [hdj] at hd;simp only [Option.some.injEq] at hd;subst hd
    refine hrj dj hdj s ver ?_
    rw [e5]
    simpa [Env.put,Ne.symm hne] using hr
   ·rw [hdi] at hd;simp only [Option.some.injEq] at hd;subst hd
    refine hri di hdi s ver ?_
    simpa [Env.put,hne] using hr
  ·obtain ⟨d,v,τ,hf⟩:=pstep_foot hj
   obtain rfl:d=dj:=by have:=hf.dst;rw [hdj] at this;simpa using this.symm
   have nd:∀t,Operand.tmp t∈oj.op.operands→t≠di:=fun t ht e=>a1' (by rw [←e];exact mem_looks ht)
   obtain ⟨τ2,f1,f2,f3⟩:=hf.same σ (fun t ht=>by simp [Env.put,nd t ht])
   have hod:(σ d).owner=false:=owner_eq (by simp [Env.put,Ne.symm hne]) hoj
   have agree:∀t∈oi.looksAt ops,(τ2.put d true (.val v)) t=σ t:=by
    intro t ht
    have h1:t≠d:=fun e=>a3' (by rw [←e];exact ht)
    simp only [Env.put,h1,if_false]
    by_cases hto:Operand.tmp t∈oj.op.operands
    ·rw [f2 t hto]
     rcases hf.off t with e|⟨_,e2,_⟩
     ·rw [e];simp [Env.put,nd t hto]
     ·exact absurd (mem_looks hto) (hP t e2 ht)
    ·exact f3 t hto
   have hl2:lres C ops (τ2.put d true (.val v)) oi=some (pi,g,A):=by
    refine lres_mono (gd_same agree).symm (fun ty x gx A' s ver y hx ho hr hy=> ?_) (fun ty x hx=>(opd_same agree (by simpa using hx)).symm) hli
    have hxm:x∈oi.op.operands:=by simpa using hx
    by_cases hs:s=d
    ·subst hs
     obtain ⟨h1,h2,h3,h4⟩:=Env.own_iff'.1 hy
     simp [E.owner,h1,h3,h4] at hod
    ·by_cases hsP:Operand.tmp s∈oj.op.operands∧s∈PS
     ·rcases opd_ref ho hr with e|⟨t,e,e'⟩
      ·subst e
       exact absurd (mem_looks hsP.1) (hP s hsP.2 (mem_looks hxm))
      ·rw [hn s hsP.2 t ver e'] at hy;cases hy
     ·have:(τ2.put d true (.val v)) s=σ s:=by
       simp only [Env.put,hs,if_false]
       by_cases hto:Operand.tmp s∈oj.op.operands
       ·rw [f2 s hto]
        rcases hf.off s with e|⟨e1,e2,_⟩
        ·rw [e];simp [Env.put,nd s hto]
        ·exact absurd ⟨e1,e2⟩ hsP
       ·exact f3 s hto
      unfold Env.own at hy ⊢
      rw [this];exact hy
   have hfin:σij=(τ2.put d true (.val v)).put di g A:=by
    rw [hf.eq]
    funext t
    have hτ:∀t,t≠di→τ2 t=τ t:=by
     intro t ht
     by_cases hto:Operand.tmp t∈oj.op.operands
     ·exact f2 t hto
     ·rw [f3 t hto]
      rcases hf.off t with e|⟨e,_⟩
      ·rw [e];simp [Env.put,ht]
      ·exact absurd e hto
    have hdo:Operand.tmp di∉oj.op.operands:=fun h=>nd di h rfl
    have hτi:τ di=(σ.put di g A) di:=by
     rcases hf.off di with e|⟨e,_⟩
     ·exact e
     ·exact absurd e hdo
    by_cases h1:t=di
    ·subst h1
     simp only [Env.put,hne,if_false,if_true,hτi,f3 t hdo]
    ·by_cases h2:t=d
     ·subst h2
      simp only [Env.put,h1,if_false,if_true,hτ t h1]
     ·simp only [Env.put,h1,h2,if_false,hτ t h1]
   refine ⟨_,.inr ⟨rfl,f1⟩,.inl ⟨rfl,by rw [hfin];exact lstep_to hdi hl2 hdn,fun e he s ver hr=> ?_⟩,hod,?_⟩
   ·rw [hdi] at he;simp only [Option.some.injEq] at he;subst he
    refine hri di hdi s ver ?_
    rw [hfin] at hr
    simpa [Env.put] using hr
   ·have hdo:Operand.tmp di∉oj.op.operands:=fun h=>nd di h rfl
    refine owner_eq ?_ hoi
    simp only [Env.put,hne,if_false]
    exact f3 di hdo
 ·obtain ⟨d,v,τ,hf⟩:=pstep_foot hi
  obtain rfl:d=di:=by have:=hf.dst;rw [hdi] at this;simpa using this.symm
  have ndj:Operand.tmp dj∉oi.op.operands:=fun h=>a3' (mem_looks h)
  have hτj:τ dj=σ dj:=by
   rcases hf.off dj with e|⟨e,_⟩
   ·exact e
   ·exact absurd e ndj
  have hod:(σ dj).owner=false:=by
   rw [hf.eq] at hoj
   refine owner_eq ?_ hoj
   simp only [Env.put,Ne.symm hne,if_false,hτj]
  have agree:∀t∈oj.looksAt ops,σi t=σ t:=by
   intro t ht
   have h1:t≠d:=fun e=>a1' (by rw [←e];exact ht)
   rw [hf.eq]
   simp only [Env.put,h1,if_false]
   rcases hf.off t with e|⟨e1,e2,_⟩
   ·exact e
   ·exact absurd ht (hP t e2 (mem_looks e1))
  rcases hj with ⟨rfl,hj,hrj⟩|⟨rfl,hj⟩
  ·obtain ⟨g,B,hlj,hdn,rfl⟩:=lstep_of hdj hj
   have hl2:lres C ops σ oj=some (pj,g,B):=by
    refine lres_mono (gd_same agree) (fun ty x gx A' s ver y hx ho hr hy=> ?_) (fun ty x hx=>opd_same agree (by simpa using hx)) hlj
    have ho':opd C.P σ ty x=some (gx,A'):=by rw [←opd_same agree (by simpa using hx)];exact ho
    rcases (hf.grow.2 s).2 ver y hy with ⟨z,hz⟩|hlt
    ·by_cases hs:s=d
     ·subst hs
      have h1:=opd_refs hw ho' _ _ hr
      have h2:=(Env.own_elim hy).2.1
      rw [hf.eq] at h2
      simp only [Env.put,if_true] at h2
      have h3:(σ s).ver≤(τ s).ver:=by
       rcases hf.off s with e|⟨_,_,e⟩
       ·rw [e];exact Nat.le_refl _
       ·exact e.2.1
      omega
     ·have:σi s=τ s:=by rw [hf.eq];simp [Env.put,hs]
      rcases hf.off s with e|⟨_,_,e⟩
      ·unfold Env.own at hy ⊢
       rw [this,e] at hy;exact hy
      ·obtain ⟨_,_,h3,h4⟩:=Env.own_iff'.1 hy
       rw [this] at h3
       rw [e.2.2 y h3] at h4;cases h4
    ·have h1:=opd_refs hw ho' _ _ hr
     omega
   obtain ⟨τ2,f1,f2,f3⟩:=hf.same (σ.put dj g B) (fun t ht=>by
    have:t≠dj:=fun e=>ndj (by rw [←e];exact ht)
    simp [Env.put,this])
   have hfin:σi.put dj g B=τ2.put d true (.val v):=by
    rw [hf.eq]
    funext t
    have hτ:∀t,t≠dj→τ2 t=τ t:=by
     intro t ht
     by_cases hto:Operand.tmp t∈oi.op.operands
     ·exact f2 t hto
     ·rw [f3 t hto]
      rcases hf.off t with e|⟨e,_⟩
      ·rw [e];simp [Env.put,ht]
      ·exact absurd e hto
    by_cases h1:t=dj
    ·subst h1
     simp only [Env.put,Ne.symm hne,if_false,if_true,hτj,f3 t ndj]
    ·by_cases h2:t=d
     ·subst h2
      simp only [Env.put,h1,if_false,if_true,hτ t h1]
     ·simp only [Env.put,h1,h2,if_false,hτ t h1]
   refine ⟨σ.put dj g B,.inl ⟨rfl,lstep_to hdj hl2 hdn,fun e he s ver hr=> ?_⟩,.inr ⟨rfl,by rw [hfin];exact f1⟩,hod,?_⟩
   ·rw [hdj] at he;simp only [Option.some.injEq] at he;subst he
    refine hrj dj hdj s ver ?_
    simpa [Env.put] using hr
   ·refine owner_eq ?_ hoi
    simp [Env.put,hne]
  ·obtain ⟨d',v',τ',hf'⟩:=pstep_foot hj
   obtain rfl:d'=dj:=by have:=hf'.dst;rw [hdj] at this;simpa using this.symm
   obtain ⟨τ3,f1,f2,f3⟩:=hf'.same σ (fun t ht=>(agree t (mem_looks ht)).symm)
   have nd:Operand.tmp d∉oj.op.operands:=fun h=>a1' (mem_looks h)
   have agree2:∀t,Operand.tmp t∈oi.op.operands→(τ3.put d' true (.val v')) t=σ t:=by
    intro t ht
    have h1:t≠d':=fun e=>ndj (by rw [←e];exact ht)
    simp only [Env.put,h1,if_false]
    by_cases hto:Operand.tmp t∈oj.op.operands
    ·rw [f2 t hto]
     rcases hf'.off t with e|⟨_,e2,_⟩
     ·rw [e];exact agree t (mem_looks hto)
     ·exact absurd (mem_looks hto) (hP t e2 (mem_looks ht))
    ·exact f3 t hto
   obtain ⟨τ4,k1,k2,k3⟩:=hf.same _ agree2
   have hfin:σij=τ4.put d true (.val v):=by
    rw [hf'.eq]
    funext t
    have c1:Operand.tmp t∉oj.op.operands→τ' t=σi t:=fun h=>by
     rcases hf'.off t with e|⟨e,_⟩
     ·exact e
     ·exact absurd e h
    have c2:Operand.tmp t∉oi.op.operands→τ t=σ t:=fun h=>by
     rcases hf.off t with e|⟨e,_⟩
     ·exact e
     ·exact absurd e h
    by_cases h1:t=d
    ·subst h1
     have e1:τ' t=(τ.put t true (.val v)) t:=by rw [c1 nd,hf.eq]
     have e2:(τ4 t).ver=(τ t).ver:=by
      by_cases hto:Operand.tmp t∈oi.op.operands
      ·rw [k2 t hto]
      ·rw [k3 t hto,c2 hto]
       simp only [Env.put,hne,if_false,f3 t nd]
     simp only [Env.put,hne,if_false,if_true,e1,e2]
    ·by_cases h2:t=d'
     ·subst h2
      have e1:τ4 t=(τ3.put t true (.val v')) t:=k3 t ndj
      have e2:(τ3 t).ver=(τ' t).ver:=by
       by_cases hto:Operand.tmp t∈oj.op.operands
       ·rw [f2 t hto]
       ·rw [f3 t hto,c1 hto,hf.eq]
        simp only [Env.put,h1,if_false,hτj]
      simp only [Env.put,h1,if_false,if_true,e1,e2]
     ·simp only [Env.put,h1,h2,if_false]
      have e0:σi t=τ t:=by rw [hf.eq];simp [Env.put,h1]
      by_cases hti:Operand.tmp t∈oi.op.operands
      ·rw [k2 t hti]
       by_cases htj:Operand.tmp t∈oj.op.operands
       ·have e3:=agree t (mem_looks htj)
        rcases hf'.off t with e|⟨_,e2,_⟩
        ·rw [e,e0]
        ·exact absurd (mem_looks htj) (hP t e2 (mem_looks hti))
       ·rw [c1 htj,e0]
      ·rw [k3 t hti]
       simp only [Env.put,h2,if_false]
       by_cases htj:Operand.tmp t∈oj.op.operands
       ·rw [f2 t htj]
       ·rw [f3 t htj,c1 htj,e0,c2 hti]
   refine ⟨_,.inr ⟨rfl,f1⟩,.inr ⟨rfl,by rw [hfin];exact k1⟩,hod,?_⟩
   refine owner_eq ?_ hoi
   simp only [Env.put,hne,if_false]
   exact f3 d nd
theorem Env.put_mod {d s:Nat} {g:Bool} {A:Go.Ax.A} {x:V} (h:s≠d):(σ.put d g A).mod s x=(σ.mod s x).put d g A:=by
 funext t
 by_cases h1:t=d
 ·subst h1;simp [Env.put,Env.mod,Ne.symm h]
 ·by_cases h2:t=s
  ·subst h2;simp [Env.put,Env.mod,h1]
  ·simp [Env.put,Env.mod,h1,h2]
theorem Env.put_put {d e:Nat} {g g':Bool} {A B:Go.Ax.A} (h:d≠e):(σ.put d g A).put e g' B=(σ.put e g' B).put d g A:=by
 funext t
 by_cases h1:t=d
 ·subst h1;simp [Env.put,h]
 ·by_cases h2:t=e
  ·subst h2;simp [Env.put,h1]
  ·simp [Env.put,h1,h2]
theorem opd_at {P:Program} {τ:Env} {ty:TypeId} {t:Nat} (h:σ t=τ t):opd P σ ty (.tmp t)=opd P τ ty (.tmp t):=by simp only [opd,h]
theorem look_at {τ:Env} {P:Program} {ty:TypeId} {t:Nat} {z:V} {g:Bool} {B:A} (h:σ t=τ t) (hz:(σ t).a= .val z) (ho:opd P σ ty (.tmp t)=some (g,B)):B.look σ=B.look τ∧B.okA σ=B.okA τ:=by
 simp only [opd,hz] at ho
 split at ho
 ·simp only [Option.some.injEq,Prod.mk.injEq] at ho
  obtain ⟨_,rfl⟩:=ho
  have e:σ.own t (σ t).ver=τ.own t (σ t).ver:=by unfold Env.own;rw [h]
  exact ⟨by simp only [A.look,e],by simp only [A.okA,e]⟩
 ·simp only [Option.some.injEq,Prod.mk.injEq] at ho
  obtain ⟨_,rfl⟩:=ho
  exact ⟨rfl,rfl⟩
theorem late_wstep {oj:Oper} {di dj:Nat} {g:Bool} {A:A} {pj:Prop} {σij:Env} (hw:Wf σ) (hdj:oj.dst=some dj) (hne:di≠dj) (hdo:∀t,Operand.tmp t∈oj.op.operands→t≠di)
 (hj:wstep C (σ.put di g A) oj=some (pj,σij)) (hl:LateA C PS (σ.put di g A) oj):
 ∃σj,wstep C σ oj=some (pj,σj)∧LateA C PS σ oj∧σij=σj.put di g A∧(∀t,t≠dj→((σ t).owner=true∧t+800∈PS)∨σj t=σ t):=by
 obtain ⟨args,ats,tx,ty,t,t',s,ver,i,q,r,z,hg,hop,hargs,hats,hsc,hx,hown,hr,hsy,hz,hsp⟩:=hl
 have mem:∀x,x∈args.toList→x∈oj.op.operands:=fun x hx=>by
  rw [hop]
  simpa [Op.operands,Call.operands] using hx
 have htx:tx≠di:=hdo tx (mem _ (by rw [hargs];simp))
 have hty:ty≠di:=hdo ty (mem _ (by rw [hargs];simp))
 have ex:(σ.put di g A) tx=σ tx:=by simp [Env.put,htx]
 have ey:(σ.put di g A) ty=σ ty:=by simp [Env.put,hty]
 have hs:s≠di:=by
  intro e
  subst e
  rw [ex] at hx
  have h1:=hw tx s ver (by rw [hx];rfl)
  rw [Env.own_put_eq h1] at hown
  cases hown
 have hx':(σ tx).a= .rf s ver (i::q):=by rw [←ex];exact hx
 have hz':(σ ty).a= .val z:=by rw [←ey];exact hz
 have hown':σ.own s ver=some r:=by rw [Env.own_put_ne hs] at hown;exact hown
 have tk:∀τ:Env,τ.own s ver=some r→takeA τ (.rf s ver (i::q))=some (r.okm (i::q)∧(r.at (i::q)).isH=true,r.at (i::q),τ.mod s (r.upd (i::q) (.hole 1))):=by
  intro τ hτ
  simp only [takeA,hτ]
 have hL:LateA C PS σ oj:=⟨args,ats,tx,ty,t,t',s,ver,i,q,r,z,hg,hop,hargs,hats,hsc,hx',hown',hr,hsy,hz',hsp⟩
 have ox:∀τ:Env,τ tx=σ tx→opd C.P τ t (.tmp tx)=some ((σ tx).g,.rf s ver (i::q)):=by
  intro τ hτ
  simp only [opd,hτ,hx']
 obtain ⟨r',hr'⟩:∃r',r'=r.upd (i::q) (.hole 1):=⟨_,rfl⟩
 have em:((σ.put di g A).mod s r') ty=(σ.mod s r') ty:=by rw [Env.put_mod hs];simp [Env.put,hty]
 have ez:((σ.put di g A).mod s r' ty).a= .val z:=by rw [em];simp [Env.mod,Ne.symm hsy,hz']
 unfold wstep at hj ⊢
 simp only [hg,hop,hdj,hargs,hats] at hj ⊢
 rw [ox _ ex] at hj
 split at hj
 ·rename_i htt
  split at hj
  ·rename_i e gx B he hB
   simp only [Option.some.injEq,Prod.mk.injEq] at hB
   obtain ⟨rfl,rfl⟩:=hB
   rw [tk _ hown,←hr'] at hj
   split at hj
   ·rename_i qq e' dd es σ1 hm
    simp only [Option.some.injEq,Prod.mk.injEq] at hm
    obtain ⟨hq,hat,rfl⟩:=hm
    split at hj
    ·rename_i gy B hB
     obtain ⟨hlk,hok⟩:=look_at em ez hB
     split at hj
     ·rename_i zz oy ey d2 es2 hz0 hlo
      split at hj
      ·rename_i hc
       have hns:¬(oy&& !scalP C.P e)=true:=by rw [hsc e he];simp
       rw [if_neg hns] at hj
       simp only [Option.some.injEq,Prod.mk.injEq] at hj
       obtain ⟨hpj,rfl⟩:=hj
       have hB':opd C.P (σ.mod s r') t (.tmp ty)=some (gy,B):=by rw [←opd_at em];exact hB
       refine ⟨(σ.mod s r').put dj true (.val (.slc true e dd (es++es2))),?_,hL,?_,fun u hu=> ?_⟩
       ·rw [if_pos htt]
        simp only [he,ox σ rfl,tk σ hown',hat,←hr',hB',hz0,←hlk,hlo]
        rw [if_pos hc,if_neg hns,←hpj,←hok,←hq,hat]
       ·rw [Env.put_mod hs,Env.put_put hne]
       ·by_cases hus:u=s
        ·obtain ⟨h1,_,h3,h4⟩:=Env.own_iff'.1 hown'
         exact .inl ⟨by rw [hus];simp [E.owner,h1,h3,h4],by rw [hus];exact hsp⟩
        ·exact .inr (by simp [Env.put,Env.mod,hu,hus])
      ·cases hj
     ·cases hj
    ·cases hj
   ·cases hj
  ·cases hj
 ·cases hj
theorem Env.put_bmp {d s:Nat} {g:Bool} {A:Go.Ax.A} {x:V} (h:s≠d):(σ.put d g A).bmp s x=(σ.bmp s x).put d g A:=by
 funext t
 by_cases h1:t=d
 ·subst h1;simp [Env.put,Env.bmp,Ne.symm h]
 ·by_cases h2:t=s
  ·subst h2;simp [Env.put,Env.bmp,h1]
  ·simp [Env.put,Env.bmp,h1,h2]
theorem late_store {oj:Oper} {di:Nat} {g:Bool} {A:A} {pj:Prop} {σij:Env} (hw:Wf σ) (hdo:∀t,Operand.tmp t∈oj.op.operands→t≠di)
 (hj:wstep C (σ.put di g A) oj=some (pj,σij)) (hl:LateSt PS (σ.put di g A) oj):
 ∃σj,wstep C σ oj=some (pj,σj)∧LateSt PS σ oj∧σij=σj.put di g A∧(∀t,((σ t).owner=true∧t+800∈PS)∨σj t=σ t):=by
 obtain ⟨t,tx,tv,s,ver,p,r,y,hg,hdn,hop,hx,hown,hsp,hy,hyo⟩:=hl
 have htx:tx≠di:=hdo tx (by rw [hop];simp [Op.operands])
 have htv:tv≠di:=hdo tv (by rw [hop];simp [Op.operands])
 have ex:(σ.put di g A) tx=σ tx:=by simp [Env.put,htx]
 have ev:(σ.put di g A) tv=σ tv:=by simp [Env.put,htv]
 have hs:s≠di:=by
  intro e
  subst e
  rw [ex] at hx
  have h1:ver≤(σ s).ver:=by
   rcases hx with hx|hx|hx
   ·exact hw tx s ver (by rw [hx];rfl)
   ·exact hw tx s ver (by rw [hx];rfl)
   ·exact absurd hx.1 htx
  rw [Env.own_put_eq h1] at hown
  cases hown
 rw [ex] at hx
 rw [ev] at hy
 have hown':σ.own s ver=some r:=by rw [Env.own_put_ne hs] at hown;exact hown
 have hL:LateSt PS σ oj:=⟨t,tx,tv,s,ver,p,r,y,hg,hdn,hop,hx,hown',hsp,hy,hyo⟩
 obtain ⟨o1,_,o3,o4⟩:=Env.own_iff'.1 hown'
 have hso:(σ s).owner=true:=by simp [E.owner,o1,o3,o4]
 have ov:∀τ:Env,τ tv=σ tv→opd C.P τ t (.tmp tv)=some ((σ tv).g,.val y):=by
  intro τ hτ
  simp only [opd,hτ,hy]
  rw [if_neg (by rw [hyo];simp)]
 have mk:∀r':V,(∀t,((σ t).owner=true∧t+800∈PS)∨(σ.mod s r') t=σ t)∧(∀t,((σ t).owner=true∧t+800∈PS)∨(σ.bmp s r') t=σ t):=by
  intro r'
  refine ⟨fun u=> ?_,fun u=> ?_⟩
  ·by_cases hu:u=s
   ·exact .inl ⟨by rw [hu];exact hso,by rw [hu];exact hsp⟩
   ·exact .inr (by simp [Env.mod,hu])
  ·by_cases hu:u=s
   ·exact .inl ⟨by rw [hu];exact hso,by rw [hu];exact hsp⟩
   ·exact .inr (by simp [Env.bmp,hu])
 unfold wstep at hj ⊢
 simp only [hg,hop,hdn] at hj ⊢
 rw [ov _ ev] at hj
 rw [ov _ rfl]
 simp only [takeA] at hj ⊢
 have hx':(σ tx).a= .ad s ver p∨∀τ:Env,τ tx=σ tx→opd C.P τ 0 (.tmp tx)=some ((σ tx).g,.rf s ver p):=by
  rcases hx with hx|hx|⟨rfl,rfl⟩
  ·exact .inl hx
  ·exact .inr fun τ hτ=>by simp only [opd,hτ,hx]
  ·refine .inr fun τ hτ=> ?_
   obtain ⟨_,o2,o3,o4⟩:=Env.own_iff'.1 hown'
   simp only [opd,hτ,o3]
   rw [if_pos o4,o2]
 rcases hx' with hx|ox
 ·have ox:∀τ:Env,τ tx=σ tx→opd C.P τ 0 (.tmp tx)=some ((σ tx).g,.ad s ver p):=by
   intro τ hτ
   simp only [opd,hτ,hx]
  rw [ox _ ex] at hj
  rw [ox _ rfl]
  simp only [hown,hown'] at hj ⊢
  split at hj
  ·rename_i hc
   rw [if_pos hc]
   simp only [Option.some.injEq,Prod.mk.injEq] at hj
   obtain ⟨hpj,rfl⟩:=hj
   refine ⟨_,by rw [hpj],hL,?_,?_⟩
   ·split
    ·exact Env.put_mod hs
    ·exact Env.put_bmp hs
   ·split
    ·exact (mk _).1
    ·exact (mk _).2
  ·cases hj
 ·rw [ox _ ex] at hj
  rw [ox _ rfl]
  simp only [hown,hown'] at hj ⊢
  split at hj
  ·split at hj
   ·rename_i hc
    rw [if_pos hc]
    simp only [Option.some.injEq,Prod.mk.injEq] at hj
    obtain ⟨hpj,rfl⟩:=hj
    refine ⟨_,by rw [hpj],hL,?_,?_⟩
    ·split
     ·exact Env.put_mod hs
     ·exact Env.put_bmp hs
    ·split
     ·exact (mk _).1
     ·exact (mk _).2
   ·cases hj
  ·cases hj
theorem Env.put_drp {d s:Nat} {g:Bool} {A:Go.Ax.A} (h:s≠d):(σ.put d g A).drp s=(σ.drp s).put d g A:=by
 funext t
 by_cases h1:t=d
 ·subst h1;simp [Env.put,Env.drp,Ne.symm h]
 ·by_cases h2:t=s
  ·subst h2;simp [Env.put,Env.drp,h1]
  ·simp [Env.put,Env.drp,h1,h2]
theorem getAt_mem {α:Type}:∀{j:Nat} {l:List α} {x:α},getAt j l=some x→x∈l
 |_,[],_,h=>by simp [getAt] at h
 |0,y::l,x,h=>by simp only [getAt,Option.some.injEq] at h;subst h;simp
 |j+1,y::l,x,h=>by simp only [getAt] at h;exact List.mem_cons_of_mem _ (getAt_mem h)
theorem skipAt_mem {α:Type}:∀{j:Nat} {l:List α} {x:α},x∈skipAt j l→x∈l
 |_,[],_,h=>by simp [skipAt] at h
 |0,y::l,x,h=>by simp only [skipAt] at h;exact List.mem_cons_of_mem _ h
 |j+1,y::l,x,h=>by
  simp only [skipAt] at h
  rcases List.mem_cons.1 h with e|h
  ·rw [e];simp
  ·exact List.mem_cons_of_mem _ (skipAt_mem h)
theorem late_io {oj:Oper} {di:Nat} {g:Bool} {A:A} {pj:Prop} {σij:Env} (hw:Wf σ) (hne:∀dj,oj.dst=some dj→di≠dj) (hdo:∀t,Operand.tmp t∈oj.op.operands→t≠di)
 (hj:istep C (σ.put di g A) oj=some (pj,σij)) (hl:LateIo C PS (σ.put di g A) oj):
 ∃σj,istep C σ oj=some (pj,σj)∧LateIo C PS σ oj∧σij=σj.put di g A∧(∀t,oj.dst≠some t→((σ t).owner=true∧t+800∈PS)∨σj t=σ t):=by
 obtain ⟨k,args,ats,j,c,x,gx,s,ver,d,hg,hop,hd,hΨ,hx,hr,hsp,hpl⟩:=hl
 have mem:∀x,x∈args.toList→x∈oj.op.operands:=fun x hx=>by
  rw [hop]
  have:x∈args:=by simpa using hx
  simp [Op.operands,Call.operands,this]
 have hxd:x≠di:=hdo x (mem _ (getAt_mem hx))
 have hds:di≠d:=hne d hd
 have es:(σ.put di g A) x=σ x:=by simp [Env.put,hxd]
 have hr':opd C.P σ 0 (.tmp x)=some (gx,.rf s ver []):=by rw [←opd_at es];exact hr
 obtain ⟨r0,hown0⟩:∃r0,(σ.put di g A).own s ver=some r0:=by
  cases ho:(σ.put di g A).own s ver with
  |some r0=>exact ⟨r0,rfl⟩
  |none=>
   exfalso
   unfold istep at hj
   simp only [hg,hop,hΨ,hx,hr,ioOut,ho] at hj
   cases hj
 have hs:s≠di:=by
  intro e
  subst e
  rw [Env.own_put_eq (opd_refs hw hr' _ _ rfl)] at hown0
  cases hown0
 have hown:σ.own s ver=some r0:=by rw [Env.own_put_ne hs] at hown0;exact hown0
 have hpl':∀t,Operand.tmp t∈skipAt (j%1000) args.toList→∃z,(σ t).a= .val z:=fun t ht=>by
  obtain ⟨z,hz⟩:=hpl t ht
  have:t≠di:=hdo t (mem _ (skipAt_mem ht))
  exact ⟨z,by simpa [Env.put,this] using hz⟩
 have hL:LateIo C PS σ oj:=⟨k,args,ats,j,c,x,gx,s,ver,d,hg,hop,hd,hΨ,hx,hr',hsp,hpl'⟩
 have lk:∀{z:Prop×List V×Bool},looks C.P ((σ.put di g A).drp s) true (skipAt (j%1000) args.toList) (skipAt (j%1000) ats.toList)=some z→looks C.P (σ.drp s) true (skipAt (j%1000) args.toList) (skipAt (j%1000) ats.toList)=some z:=by
  intro z hz
  have same:∀t,Operand.tmp t∈skipAt (j%1000) args.toList→((σ.put di g A).drp s) t=(σ.drp s) t:=fun t ht=>by
   have:t≠di:=hdo t (mem _ (skipAt_mem ht))
   rw [Env.put_drp hs]
   simp [Env.put,this]
  refine looks_mono (fun ty x gx A' s' ver y hx ho hrr hy=> ?_) (fun ty x hx=> ?_) hz
  ·rcases opd_ref ho hrr with e|⟨t,e,e'⟩
   ·subst e
    have:=same s' hx
    unfold Env.own at hy ⊢
    rw [←this];exact hy
   ·subst e
    exfalso
    obtain ⟨z,hz⟩:=hpl' t hx
    rw [same t hx] at e'
    by_cases hts:t=s
    ·subst hts
     simp [Env.drp,Go.Ax.A.refs] at e'
    ·simp only [Env.drp,hts,if_false,hz,Go.Ax.A.refs] at e'
     cases e'
  ·cases x with
   |tmp t=>simp only [opd,same t hx]
   |_=>rfl
 unfold istep at hj ⊢
 simp only [hg,hop,hd,hΨ,hx,hr,hr',ioOut,hown0,hown] at hj ⊢
 by_cases hH:r0.isH=true
 ·simp only [hH,if_true] at hj ⊢
  split at hj
  ·rename_i pl vs br hlk
   rw [lk hlk]
   dsimp only
   split at hj
   ·rename_i q2 rr y' hc
    try rw [hc]
    try dsimp only
    by_cases hbr:((br&& !(rr.noFz&&y'.noFz))||(jw j&& !(rootA (.rf s ver [])&&r0.bare)))=true
    ·rw [if_pos hbr] at hj;cases hj
    ·rw [if_neg hbr] at hj ⊢
     by_cases hdd:C.dst d
     ·rw [if_pos hdd] at hj ⊢
      simp only [Option.some.injEq,Prod.mk.injEq] at hj
      obtain ⟨hp,rfl⟩:=hj
      refine ⟨_,by rw [hp],hL,?_,fun t ht=> ?_⟩
      ·rw [Env.put_mod hs,Env.put_put hds]
      ·by_cases hts:t=s
       ·subst hts
        obtain ⟨o1,_,o3,o4⟩:=Env.own_iff'.1 hown
        exact .inl ⟨by simp [E.owner,o1,o3,o4],hsp⟩
       ·have:t≠d:=fun e=>ht (by rw [e])
        exact .inr (by simp [Env.put,Env.mod,hts,this])
     ·rw [if_neg hdd] at hj;cases hj
   ·cases hj
  ·cases hj
 ·simp only [hH] at hj
  cases hj
theorem io_conv {oj:Oper} {di:Nat} {g:Bool} {A:A} {pj:Prop} {σj:Env} (hne:∀dj,oj.dst=some dj→di≠dj) (hdo:∀t,Operand.tmp t∈oj.op.operands→t≠di)
 (hsd:∀x s ver gx r,Operand.tmp x∈oj.op.operands→opd C.P σ 0 (.tmp x)=some (gx,.rf s ver [])→σ.own s ver=some r→s≠di)
 (hj:istep C σ oj=some (pj,σj)) (hl:LateIo C PS σ oj):
 istep C (σ.put di g A) oj=some (pj,σj.put di g A)∧LateIo C PS (σ.put di g A) oj:=by
 obtain ⟨k,args,ats,j,c,x,gx,s,ver,d,hg,hop,hd,hΨ,hx,hr,hsp,hpl⟩:=hl
 have mem:∀x,x∈args.toList→x∈oj.op.operands:=fun x hx=>by
  rw [hop]
  have:x∈args:=by simpa using hx
  simp [Op.operands,Call.operands,this]
 have hxd:x≠di:=hdo x (mem _ (getAt_mem hx))
 have hds:di≠d:=hne d hd
 have es:(σ.put di g A) x=σ x:=by simp [Env.put,hxd]
 have hr':opd C.P (σ.put di g A) 0 (.tmp x)=some (gx,.rf s ver []):=by rw [opd_at es];exact hr
 obtain ⟨r0,hown⟩:∃r0,σ.own s ver=some r0:=by
  cases ho:σ.own s ver with
  |some r0=>exact ⟨r0,rfl⟩
  |none=>
   exfalso
   unfold istep at hj
   simp only [hg,hop,hΨ,hx,hr,ioOut,ho] at hj
   cases hj
 have hs:s≠di:=hsd x s ver gx r0 (mem _ (getAt_mem hx)) hr hown
 have hown0:(σ.put di g A).own s ver=some r0:=by rw [Env.own_put_ne hs];exact hown
 have hpl':∀t,Operand.tmp t∈skipAt (j%1000) args.toList→∃z,((σ.put di g A) t).a= .val z:=fun t ht=>by
  obtain ⟨z,hz⟩:=hpl t ht
  have:t≠di:=hdo t (mem _ (skipAt_mem ht))
  exact ⟨z,by simpa [Env.put,this] using hz⟩
 have hL:LateIo C PS (σ.put di g A) oj:=⟨k,args,ats,j,c,x,gx,s,ver,d,hg,hop,hd,hΨ,hx,hr',hsp,hpl'⟩
 have lk:∀{z:Prop×List V×Bool},looks C.P (σ.drp s) true (skipAt (j%1000) args.toList) (skipAt (j%1000) ats.toList)=some z→looks C.P ((σ.put di g A).drp s) true (skipAt (j%1000) args.toList) (skipAt (j%1000) ats.toList)=some z:=by
  intro z hz
  have same:∀t,Operand.tmp t∈skipAt (j%1000) args.toList→((σ.put di g A).drp s) t=(σ.drp s) t:=fun t ht=>by
   have:t≠di:=hdo t (mem _ (skipAt_mem ht))
   rw [Env.put_drp hs]
   simp [Env.put,this]
  refine looks_mono (fun ty x gx A' s' ver y hx ho hrr hy=> ?_) (fun ty x hx=> ?_) hz
  ·rcases opd_ref ho hrr with e|⟨t,e,e'⟩
   ·subst e
    have:=same s' hx
    unfold Env.own at hy ⊢
    rw [this];exact hy
   ·subst e
    exfalso
    obtain ⟨z,hz⟩:=hpl t hx
    by_cases hts:t=s
    ·subst hts
     simp [Env.drp,Go.Ax.A.refs] at e'
    ·simp only [Env.drp,hts,if_false,hz,Go.Ax.A.refs] at e'
     cases e'
  ·cases x with
   |tmp t=>simp only [opd,same t hx]
   |_=>rfl
 refine ⟨?_,hL⟩
 unfold istep at hj ⊢
 simp only [hg,hop,hd,hΨ,hx,hr,hr',ioOut,hown0,hown] at hj ⊢
 by_cases hH:r0.isH=true
 ·simp only [hH,if_true] at hj ⊢
  split at hj
  ·rename_i pl vs br hlk
   rw [lk hlk]
   dsimp only
   split at hj
   ·rename_i q2 rr y' hc
    try rw [hc]
    try dsimp only
    by_cases hbr:((br&& !(rr.noFz&&y'.noFz))||(jw j&& !(rootA (.rf s ver [])&&r0.bare)))=true
    ·rw [if_pos hbr] at hj;cases hj
    ·rw [if_neg hbr] at hj ⊢
     by_cases hdd:C.dst d
     ·rw [if_pos hdd] at hj ⊢
      simp only [Option.some.injEq,Prod.mk.injEq] at hj ⊢
      obtain ⟨hp,rfl⟩:=hj
      exact ⟨hp,by rw [Env.put_mod hs,Env.put_put hds]⟩
     ·rw [if_neg hdd] at hj;cases hj
   ·cases hj
  ·cases hj
 ·simp only [hH] at hj
  cases hj
theorem late_inv2 {o:Oper} {p:Prop} (h:istep C σ o=some (p,σ')) (hl:LateIo C PS σ o):∃s ver d y r r0 x gx,o.dst=some d∧Operand.tmp x∈o.op.operands∧opd C.P σ 0 (.tmp x)=some (gx,.rf s ver [])∧σ.own s ver=some r0∧σ'=(σ.mod s y).put d true (.val r):=by
 obtain ⟨k,args,ats,j,c,x,gx,s,ver,d,hg,hop,hd,hΨ,hx,hr,hsp,_⟩:=hl
 have mem:Operand.tmp x∈o.op.operands:=by
  rw [hop]
  have:Operand.tmp x∈args:=by simpa using getAt_mem hx
  simp [Op.operands,Call.operands,this]
 unfold istep at h
 simp only [hg,hop,hd,hΨ,hx,hr,ioOut] at h
 cases hown:σ.own s ver with
 |none=>rw [hown] at h;cases h
 |some r0=>
  rw [hown] at h
  by_cases hH:r0.isH=true
  ·simp only [hH,if_true] at h
   split at h
   ·rename_i pl vs br hlk
    split at h
    ·rename_i q2 rr y' hc
     by_cases hbr:((br&& !(rr.noFz&&y'.noFz))||(jw j&& !(rootA (.rf s ver [])&&r0.bare)))=true
     ·rw [if_pos hbr] at h;cases h
     ·rw [if_neg hbr] at h
      by_cases hdd:C.dst d
      ·rw [if_pos hdd] at h
       simp only [Option.some.injEq,Prod.mk.injEq] at h
       exact ⟨s,ver,d,_,_,r0,x,gx,hd,mem,hr,hown,h.2.symm⟩
      ·rw [if_neg hdd] at h;cases h
    ·cases h
   ·cases h
  ·simp only [hH] at h
   cases h
def frontB (PS:List Nat) (x y:Oper):Bool:=match x.op,y.op,y.dst with
 | .call ⟨.value (.func _),_,_⟩,.alloc _,some d=>y.guard.isNone&&PS.contains d
 |_,_,_=>false
theorem frontB_spec {x y:Oper} (h:frontB PS x y=true):(∃k args ats,x.op= .call ⟨.value (.func k),args,ats⟩)∧(∃t,y.op= .alloc t)∧y.guard=none∧∃d,y.dst=some d∧d∈PS:=by
 unfold frontB at h
 split at h
 ·rename_i h1 h2 h3
  simp only [Bool.and_eq_true,Option.isNone_iff_eq_none,List.contains_iff_mem] at h
  exact ⟨⟨_,_,_,h1⟩,⟨_,h2⟩,h.1,_,h3,h.2⟩
 ·cases h
theorem frzO_put {di:Nat} {g:Bool} {A:Go.Ax.A}:∀(l:List Nat) (σ:Env),(∀t∈l,t≠di)→frzO (σ.put di g A) l=(frzO σ l).put di g A
 |[],_,_=>rfl
 |t::l,σ,h=>by
  have ht:t≠di:=h t (by simp)
  have e:(σ.put di g A) t=σ t:=by simp [Env.put,ht]
  simp only [frzO,e,Env.own_put_ne ht]
  split
  ·rename_i y hy
   have:((σ.put di g A).drp t).put t true (.val y.frz)=((σ.drp t).put t true (.val y.frz)).put di g A:=by rw [Env.put_drp ht,Env.put_put (Ne.symm ht)]
   rw [this,frzO_put l _ (fun s hs=>h s (by simp [hs]))]
  ·exact frzO_put l σ (fun s hs=>h s (by simp [hs]))
theorem late_io2 {oj:Oper} {di:Nat} {g:Bool} {A:A} {pj:Prop} {σij:Env} (hw:Wf σ) (hne:∀dj,oj.dst=some dj→di≠dj) (hdo:∀t,Operand.tmp t∈oj.op.operands→t≠di)
 (hj:StepIo C PS (σ.put di g A) oj pj σij):
 ∃σj,StepIo C PS σ oj pj σj∧σij=σj.put di g A∧(∀t,oj.dst≠some t→((σ t).owner=true∧t+800∈PS)∨σj t=σ t):=by
 obtain ⟨l,h1,h2,h3,h4⟩:=hj
 rw [frzO_put l σ (fun t ht=>hdo t (h2 t ht).2)] at h3 h4
 obtain ⟨σj,e1,e2,e3,e4⟩:=late_io ((frzO_grow l σ).1.wf hw) hne hdo h3 h4
 refine ⟨σj,⟨l,h1,h2,e1,e2⟩,e3,fun t ht=> ?_⟩
 rcases frzO_off l σ t with h|⟨h,h'⟩
 ·rcases e4 t ht with ⟨h5,h6⟩|h5
  ·exact .inl ⟨by rw [←h];exact h5,h6⟩
  ·exact .inr (h5.trans h)
 ·exact .inl ⟨h,(h2 t h').1⟩
theorem late_any {oj:Oper} {di:Nat} {g:Bool} {A:A} {pj:Prop} {σij:Env} (hw:Wf σ) (hne:∀dj,oj.dst=some dj→di≠dj) (hdo:∀t,Operand.tmp t∈oj.op.operands→t≠di) (hlb:lateB PS oj=true)
 (hj:wstep C (σ.put di g A) oj=some (pj,σij)) (hl:LateW C PS (σ.put di g A) oj):
 ∃σj,wstep C σ oj=some (pj,σj)∧LateW C PS σ oj∧σij=σj.put di g A∧(∀t,oj.dst≠some t→((σ t).owner=true∧t+800∈PS)∨σj t=σ t):=by
 rcases hl with hl|hl
 ·cases hd:oj.dst with
  |none=>
   exfalso
   obtain ⟨args,ats,_,_,_,_,_,_,_,_,_,_,hg,hop,hargs,hats,_⟩:=hl
   unfold wstep at hj
   simp only [hg,hop,hd] at hj
   cases hj
  |some dj=>
   obtain ⟨σj,w1,w2,w3,w4⟩:=late_wstep hw hd (hne dj hd) hdo hj hl
   exact ⟨σj,w1,.inl w2,w3,fun t ht=>w4 t (fun e=>ht (by rw [e]))⟩
 ·obtain ⟨σj,w1,w2,w3,w4⟩:=late_store hw hdo hj hl
  exact ⟨σj,w1,.inr w2,w3,fun t _=>w4 t⟩
def chkU (ops:Array Oper) (PS:List Nat):Bool:=
 (List.range ops.size).all fun j=>(List.range j).all fun i=>match ops[i]?,ops[j]? with
  |some x,some y=>PS.all fun s=> !((x.looksAt ops).contains s&&(y.looksAt ops).contains s)
  |_,_=>false
theorem chkU_spec (h:chkU ops PS=true) {i j:Nat} {x y:Oper} (hne:i≠j) (hx:ops[i]? =some x) (hy:ops[j]? =some y):∀s∈PS,s∈x.looksAt ops→s∉y.looksAt ops:=by
 have key:∀(i j:Nat) (x y:Oper),i<j→ops[i]? =some x→ops[j]? =some y→∀s∈PS,s∈x.looksAt ops→s∉y.looksAt ops:=by
  intro i j x y hij hx hy s hs h1 h2
  have hj:j<ops.size:=(Array.getElem?_eq_some_iff.1 hy).1
  have:=List.all_eq_true.1 h j (by simpa using hj)
  have:=List.all_eq_true.1 this i (by simpa using hij)
  rw [hx,hy] at this
  have:=List.all_eq_true.1 this s hs
  simp [h1,h2] at this
 rcases Nat.lt_or_gt_of_ne hne with h1|h1
 ·exact key i j x y h1 hx hy
 ·exact fun s hs h2 h3=>key j i y x h1 hy hx s hs h3 h2
def evM (C:Ctx) (ops:Array Oper) (PS:List Nat):List Oper→List Bool→Env→(Env→Prop)→Prop
 |o::l,t::ts,σ,K=>∃p σ',StepM C ops PS t σ o p σ'∧p∧evM C ops PS l ts σ' K
 |[],_,σ,K=>K σ
 |_::_,[],_,_=>False
def StM (C:Ctx) (ops:Array Oper) (PS:List Nat) (ts:List Bool) (i:Nat) (σ σ':Env):Prop:=∃o p,ops[i]? =some o∧StepM C ops PS (ts.getD i true) σ o p σ'∧p
theorem anyM_sound (hC:CtxOk C) (hIO:IOk C) {ts:List Bool} {K:Env→Prop} {Q:Exit→Act→World→Prop} (hK:∀σ a w,K σ→G C σ a w→Q .normal a w):∀(n:Nat) (listed:Array Bool) (σ:Env) (a:Act) (w:World),anyA (StM C ops PS ts) ops K n listed σ→G C σ a w→
 wpAny C.P .any ops Q n listed a w
 |0,_,σ,a,w,h,hG=>⟨h.1,hK σ a w h.2 hG⟩
 |n+1,listed,σ,a,w,h,hG=>by
  refine ⟨fun h0=>hK σ a w (h.1 h0) hG,fun i hi=> ?_⟩
  obtain ⟨σ',⟨o,p,ho,hs,hp⟩,h2⟩:=h.2 i hi
  exact wpOp_mono (fun a' w' hG'=>anyM_sound hC hIO hK n _ σ' a' w' h2 hG') (stepM_sound hC hIO ho hs hp hG)
def isMove:Op→Bool
 | .move _=>true
 |_=>false
def chkH (ops:Array Oper):List Nat→Array Bool→Bool
 |[],_=>true
 |i::H,listed=>(match ops[i]? with
  |some o=>isMove o.op&&o.guard.isNone
  |none=>false)&&Region.free .any ops listed i&&(Region.ready .any ops listed).contains i&&chkH ops H (listed.setIfInBounds i true)
def hev (C:Ctx) (ops:Array Oper) (PS:List Nat):List Nat→Env→(Env→Prop)→Prop
 |[],σ,K=>K σ
 |i::H,σ,K=>∃o p σ',ops[i]? =some o∧lstep C ops σ o=some (p,σ')∧RefOk PS σ' o∧p∧hev C ops PS H σ' K
def setAll (l:Array Bool):List Nat→Array Bool
 |[]=>l
 |i::H=>setAll (l.setIfInBounds i true) H
theorem move_run (hC:CtxOk C) {o:Oper} {i:Nat} (hi:ops[i]? =some o) (hm:isMove o.op=true) (hg:o.guard=none) {p:Prop} (h:lstep C ops σ o=some (p,σ')) (hp:p) (hG:G C σ a w):
 ∃v,Yields C.P ops o v a∧G C σ' (a.put o.dst v) w:=by
 obtain ⟨F,O,hI⟩:=hG
 have hx:∃x,o.op= .move x:=by
  revert hm
  cases o.op<;>simp [isMove]
 obtain ⟨x,hx⟩:=hx
 have hrun:∀w,(execOp a.eval o).run C.P w= .ok (.value (a.eval x)) w:=fun w=>by simp [execOp,hx]
 have hw:Region.wanted o (yielded ops a.tmps)=true:=by unfold Region.wanted;rw [hg]
 refine ⟨a.eval x,.inl ⟨hw,hrun⟩,?_⟩
 have h1:=lstep_sound hC hI hi h hp (Q:=fun _ _ _=>False)
 unfold wpOp at h1
 rw [hi] at h1
 dsimp only at h1
 rw [hw,if_pos rfl] at h1
 rcases h1 with h1|⟨_,_,_,h1⟩
 ·unfold Oper.wp at h1
  rw [hrun,Oper.upon_value] at h1
  exact h1
 ·exact h1.elim
theorem hoist_sound (hC:CtxOk C) {K:Env→Prop} {Q:Exit→Act→World→Prop} (hs:Region.noSelect ops=true) (hQ:∀c a w,¬Q (.panic c) a w) {fuel:Nat}:
 ∀(H:List Nat) (listed:Array Bool) (σ:Env) (a:Act),chkH ops H listed=true→hev C ops PS H σ K→Wf σ∧NR PS σ→G C σ a w→(∀σ' a',K σ'→Wf σ'∧NR PS σ'→G C σ' a' w→wpAny C.P .any ops Q fuel (setAll listed H) a' w)→wpAny C.P .any ops Q (fuel+H.length) listed a w
 |[],listed,σ,a,_,h,hw,hG,hk=>hk σ a h hw hG
 |i::H,listed,σ,a,hc,h,hw,hG,hk=>by
  simp only [chkH,Bool.and_eq_true] at hc
  obtain ⟨⟨⟨h1,h2⟩,h3⟩,h4⟩:=hc
  obtain ⟨o,p,σ',ho,hl,hro,hp,hh⟩:=h
  rw [ho] at h1
  simp only [Bool.and_eq_true,Option.isNone_iff_eq_none] at h1
  obtain ⟨v,hy,hG'⟩:=move_run hC ho h1.1 h1.2 hl hp hG
  exact wpAny_take ho hs h2 h3 (fun c a w hq=>(hQ c _ _ hq).elim) hy (hoist_sound hC hs hQ H _ σ' _ h4 hh ⟨lstep_wf hw.1 hl,lstep_NR hw.2 hw.1 hl hro⟩ hG' hk)
def evI (C:Ctx) (ops:Array Oper) (PS:List Nat) (ts:List Bool):List Nat→Env→(Env→Prop)→Prop
 |[],σ,K=>K σ
 |k::R,σ,K=>∃o p σ',ops[k]? =some o∧StepM C ops PS (ts.getD k true) σ o p σ'∧p∧evI C ops PS ts R σ' K
def chkX (ops:Array Oper) (PS:List Nat) (ts:List Bool) (H:List Nat):Bool:=
 chkEdges ops.toList 0&&(List.range ops.size).all fun j=>H.contains j||(List.range j).all fun i=>H.contains i||((masks ops.toList []).getD j 0).testBit i||(!ts.getD i true&&
  (match ops[i]?,ops[j]? with|some x,some y=>x.apart ops y&&y.apart ops x&&(!ts.getD j true||(lateB PS x&&lateB PS y))|_,_=>false))||
  (ts.getD i true&& !ts.getD j true&&(match ops[i]?,ops[j]? with|some x,some y=>frontB PS x y&&x.apart ops y&&y.apart ops x&&lateB PS x&&lateB PS y|_,_=>false))
theorem ready_apartX {ts:List Bool} {H:List Nat} (hk:chkX ops PS ts H=true) {listed:Array Bool} (hH:∀i∈H,i<ops.size→listed.getD i true=true) (hc:Closed ops listed) {i j:Nat} (hi:i∈Region.ready .any ops listed) (hj:j∈Region.ready .any ops listed) (hij:i<j):
 (ts.getD i true=false∧∃x y,ops[i]? =some x∧ops[j]? =some y∧x.apart ops y=true∧y.apart ops x=true∧(ts.getD j true=false∨(lateB PS x=true∧lateB PS y=true)))∨
 (ts.getD i true=true∧ts.getD j true=false∧∃x y,ops[i]? =some x∧ops[j]? =some y∧frontB PS x y=true∧x.apart ops y=true∧y.apart ops x=true∧lateB PS x=true∧lateB PS y=true):=by
 obtain ⟨hju,oj,hoj,hall⟩:=mem_ready.1 hj
 obtain ⟨hiu,oi,hoi,_⟩:=mem_ready.1 hi
 have hjn:j<ops.size:=(Array.getElem?_eq_some_iff.1 hoj).1
 have hin:i<ops.size:=(Array.getElem?_eq_some_iff.1 hoi).1
 simp only [chkX,Bool.and_eq_true] at hk
 have h1:=List.all_eq_true.1 hk.2 j (by simpa using hjn)
 simp only [Bool.or_eq_true] at h1
 rcases h1 with h1|h1
 ·have:=hH j (by simpa using h1) hjn
  rw [this] at hju;cases hju
 have h2:=List.all_eq_true.1 h1 i (by simpa using hij)
 simp only [Bool.or_eq_true,Bool.and_eq_true,Bool.not_eq_true'] at h2
 rcases h2 with ((h2|h2)|⟨h2,h4⟩)|⟨⟨h2,h3⟩,h4⟩
 ·have:=hH i (by simpa using h2) hin
  rw [this] at hiu;cases hiu
 ·have hw:=masks_spec (ops:=ops) ops.toList [] (fun j=>by simp) (fun j i h=>by simp at h) j i h2
  have:=hw.listed hc (fun o ho=>by rw [hoj] at ho;simp only [Option.some.injEq] at ho;subst ho;exact hall)
  rw [getD_false hiu] at this
  cases this
 ·rw [hoi,hoj] at h4
  simp only [Bool.and_eq_true,Bool.or_eq_true,Bool.not_eq_true'] at h4
  exact .inl ⟨h2,oi,oj,hoi,hoj,h4.1.1,h4.1.2,h4.2⟩
 ·rw [hoi,hoj] at h4
  simp only [Bool.and_eq_true] at h4
  exact .inr ⟨h2,h3,oi,oj,hoi,hoj,h4.1.1.1.1,h4.1.1.1.2,h4.1.1.2,h4.1.2,h4.2⟩
theorem anyA_firstL {St:Nat→Env→Env→Prop} {Q:Env→Prop} {I:Env→Prop} {i:Nat} {L:Array Bool→Prop} (hL:∀l j,L l→L (l.setIfInBounds j true))
 (ex:∀(listed:Array Bool) (j:Nat) (σ σi σij:Env),L listed→Closed ops listed→i∈Region.ready .any ops listed→j∈Region.ready .any ops listed→j≠i→I σ→St i σ σi→St j σi σij→∃σj,St j σ σj∧St i σj σij∧I σj):
 ∀(n:Nat) (listed:Array Bool) (σ σi:Env),L listed→Closed ops listed→I σ→i∈Region.ready .any ops listed→St i σ σi→anyA St ops Q n (listed.setIfInBounds i true) σi→anyA St ops Q (n+1) listed σ:=by
 intro n
 induction n with
 |zero=>
  intro listed σ σi _ _ _ hr hs H
  refine ⟨(fun h=>by rw [h] at hr;cases hr),fun j hj=> ?_⟩
  by_cases hji:j=i
  ·subst hji;exact ⟨σi,hs,H⟩
  ·have:=ready_mono hj hji
   rw [H.1] at this
   cases this
 |succ n ih=>
  intro listed σ σi hl hc hI hr hs H
  refine ⟨(fun h=>by rw [h] at hr;cases hr),fun j hj=> ?_⟩
  by_cases hji:j=i
  ·subst hji;exact ⟨σi,hs,H⟩
  ·obtain ⟨σij,h1,h2⟩:=H.2 j (ready_mono hj hji)
   obtain ⟨σj,e1,e2,e3⟩:=ex listed j σ σi σij hl hc hr hj hji hI hs h1
   refine ⟨σj,e1,ih (listed.setIfInBounds j true) σj σij (hL _ _ hl) ?_ e3 (ready_mono hr (Ne.symm hji)) e2 ?_⟩
   ·intro k o ho hk e he hb
    by_cases hkj:k=j
    ·subst hkj
     obtain ⟨_,o',ho',hall⟩:=mem_ready.1 hj
     rw [ho] at ho'
     simp only [Option.some.injEq] at ho'
     subst ho'
     exact getD_set_true (hall e he hb)
    ·rw [getD_set_ne false (Ne.symm hkj)] at hk
     exact getD_set_true (hc k o ho hk e he hb)
   ·rw [Array.setIfInBounds_comm _ _ hji]
    exact h2
theorem evI_any {ts:List Bool} {H:List Nat} {K:Env→Prop} (hk:chkX ops PS ts H=true) (hu:chkU ops PS=true):∀(R:List Nat) (lst:Array Bool) (σ:Env),lst.size=ops.size→(∀i,i<ops.size→(lst.getD i true=false↔i∈R))→(∀i∈R,i<ops.size)→R.Pairwise (·< ·)→(∀i∈H,i∉R)→Closed ops lst→evI C ops PS ts R σ K→Wf σ∧NR PS σ→
 anyA (StM C ops PS ts) ops K R.length lst σ
 |[],lst,σ,hsz,hl,hr,hs,hH,hc,h,hw=>by
  have hK:K σ:=h
  refine ⟨?_,hK⟩
  cases hr:Region.ready .any ops lst with
  |nil=>rfl
  |cons x xs=>
   have hx:x∈Region.ready .any ops lst:=by rw [hr];simp
   obtain ⟨h1,o,ho,_⟩:=mem_ready.1 hx
   have hxn:x<ops.size:=(Array.getElem?_eq_some_iff.1 ho).1
   exact absurd ((hl x hxn).1 h1) (by simp)
 |k::R,lst,σ,hsz,hl,hr,hs,hH,hc,h,hw=>by
  obtain ⟨o,p,σ',ho,hst,hp,h⟩:=h
  have hkn:k<ops.size:=hr k (by simp)
  obtain ⟨hs1,hs2⟩:=List.pairwise_cons.1 hs
  have hedge:∀e∈o.after,Region.binds .any e=true→lst.getD e.on false=true:=by
   intro e he hb
   have hk':=hk
   simp only [chkX,Bool.and_eq_true] at hk'
   have h1:=chkEdges_spec hk'.1 k o (by simpa using ho) e he hb
   have h2:e.on<ops.size:=by omega
   have h3:e.on∉k::R:=by
    intro hm
    rcases List.mem_cons.1 hm with h4|h4
    ·omega
    ·have:=hs1 _ h4;omega
   have h4:lst.getD e.on true≠false:=fun h5=>h3 ((hl _ h2).1 h5)
   rw [Array.getD_eq_getD_getElem?] at h4 ⊢
   rw [Array.getElem?_eq_getElem (by omega)] at h4 ⊢
   simpa using h4
  have hrd:k∈Region.ready .any ops lst:=mem_ready.2 ⟨(hl k hkn).2 (by simp),o,ho,hedge⟩
  have hHl:∀listed:Array Bool,(∀i,i<ops.size→lst.getD i true=true→listed.getD i true=true)→∀i∈H,i<ops.size→listed.getD i true=true:=by
   intro listed hle i hi hin
   refine hle i hin ?_
   cases hh:lst.getD i true with
   |true=>rfl
   |false=>exact absurd ((hl i hin).1 hh) (hH i hi)
  refine anyA_firstL (I:=fun σ=>Wf σ∧NR PS σ) (i:=k) (L:=fun listed=>∀i,i<ops.size→lst.getD i true=true→listed.getD i true=true) (fun l j hl i hi h=> ?mono) (fun listed j σ σi σij hle hc hi hj hne hw ⟨oi,pi,hoi,hsi,hpi⟩ ⟨oj,pj,hoj,hsj,hpj⟩=> ?ex) R.length lst σ σ' (fun i _ h=>h) hc hw hrd ⟨o,p,ho,hst,hp⟩ ?main
  case mono=>
   by_cases hij:i=j
   ·subst hij
    by_cases hb:i<l.size
    ·rw [Array.getD_eq_getD_getElem?,Array.getElem?_setIfInBounds_self_of_lt hb]
     rfl
    ·rw [Array.getD_eq_getD_getElem?,Array.getElem?_eq_none (by simpa using hb)]
     rfl
   ·rw [getD_set_ne true (Ne.symm hij)]
    exact hl i hi h
  case ex=>
   have hkj:k<j:=by
    obtain ⟨h1,o',ho',_⟩:=mem_ready.1 hj
    have hjn:j<ops.size:=(Array.getElem?_eq_some_iff.1 ho').1
    have h2:lst.getD j true=false:=by
     cases hh:lst.getD j true with
     |false=>rfl
     |true=>
      have h3:=hle j hjn hh
      have h4:=getD_false h1
      rw [Array.getD_eq_getD_getElem?] at h3 h4
      cases he:listed[j]? with
      |none=>rw [he] at h4 h3;have:=mem_ready.1 hj;simp [Array.getD_eq_getD_getElem?,he] at this
      |some v=>rw [he] at h3 h4;simp at h3 h4;rw [h3] at h4;cases h4
    rcases List.mem_cons.1 ((hl j hjn).1 h2) with h3|h3
    ·exact absurd h3 hne
    ·exact hs1 j h3
   have hP:=chkU_spec hu (Ne.symm hne) hoi hoj
   rcases ready_apartX hk (hHl listed hle) hc hi hj hkj with ⟨t1,x,y,hx,hy,ap1,ap2,t2⟩|⟨t1,t2,x,y,hx,hy,hfr,ap1,ap2,l1,l2⟩
   rotate_left
   ·rw [hoi] at hx;rw [hoj] at hy
    simp only [Option.some.injEq] at hx hy
    subst hx;subst hy
    obtain ⟨⟨kk,args,ats,hopi⟩,⟨ta,hopj⟩,hgj,dj,hdj,hdjP⟩:=frontB_spec hfr
    rw [t1] at hsi
    rw [t2] at hsj
    rcases hsj with ⟨h0,_⟩|⟨_,dj',hdj',hoj',hlj⟩
    ·cases h0
    rw [hdj] at hdj'
    simp only [Option.some.injEq] at hdj'
    subst hdj'
    obtain ⟨_,hls,hri⟩:=hlj.2 l2
    rcases hsi with ⟨_,_,hli⟩|⟨h0,_⟩
    rotate_left
    ·cases h0
    have hio:StepIo C PS σ oi pi σi:=by
     rcases hli l1 with ⟨_,hw2⟩|h
     ·exfalso
      rcases hw2 with ⟨_,_,_,_,_,_,_,_,_,_,_,_,_,hop,_⟩|⟨_,_,_,_,_,_,_,_,_,_,hop,_⟩
      ·rw [hopi] at hop;cases hop
      ·rw [hopi] at hop;cases hop
     ·exact h
    obtain ⟨l,q1,q2,q3,q4⟩:=hio
    obtain ⟨b1,b2,b3⟩:=Oper.apart_spec ap2
    obtain ⟨g,A,hlr,hdn,rfl⟩:=lstep_of hdj hls
    have hdo:∀t,Operand.tmp t∈oi.op.operands→t≠dj:=fun t ht e=>b1 dj hdj (by rw [←e];exact mem_looks ht)
    have hne2:∀d,oi.dst=some d→dj≠d:=fun d hd e=>b2 dj hdj (by rw [hd,e])
    have hll:oj.looksAt ops=[]:=by simp [Oper.looksAt,hgj,hopj,Op.operands]
    have hlr':lres C ops σ oj=some (pj,g,A):=by
     refine lres_mono (gd_same (fun t ht=>by rw [hll] at ht;cases ht)) (fun ty x gx A' s ver y hx=> ?_) (fun ty x hx=> ?_) hlr
     ·simp [hopj,Op.operands] at hx
     ·simp [hopj,Op.operands] at hx
    have hNR:=hw.2.step hw.1 (frzO_grow l σ).2 (frzO_grow l σ).1.refKeep
    have hsd:∀x s ver gx r,Operand.tmp x∈oi.op.operands→opd C.P (frzO σ l) 0 (.tmp x)=some (gx,.rf s ver [])→(frzO σ l).own s ver=some r→s≠dj:=by
     intro x s ver gx r hx ho hown e
     rcases opd_ref ho rfl with e2|⟨t,e2,e3⟩
     ·simp only [Operand.tmp.injEq] at e2
      exact hdo x hx (by rw [e2,e])
     ·have:=hNR s (by rw [e];exact hdjP) t ver e3
      rw [this] at hown;cases hown
    obtain ⟨w1,w2⟩:=io_conv (g:=g) (A:=A) hne2 hdo hsd q3 q4
    have hfz:frzO (σ.put dj g A) l=(frzO σ l).put dj g A:=frzO_put l σ (fun t ht=>hdo t (q2 t ht).2)
    obtain ⟨s,ver,d,y,r,r0,x',gx',e1,hx',ho',e3,e4⟩:=late_inv2 q3 q4
    have hsj:s≠dj:=hsd x' s ver gx' r0 hx' ho' e3
    have hod:(σ dj).owner=false:=by
     have:(σi dj)=(frzO σ l) dj:=by
      rw [e4]
      have:dj≠d:=hne2 d e1
      simp [Env.put,Env.mod,this,Ne.symm hsj]
     rcases frzO_off l σ dj with h|⟨_,h⟩
     ·rw [←h,←this];exact hoj'
     ·exact absurd rfl (hdo dj (q2 dj h).2)
    have hri':RefOk PS (σ.put dj g A) oj:=fun e he s ver hr=>by
     rw [hdj] at he;simp only [Option.some.injEq] at he;subst he
     refine hri dj hdj s ver ?_
     simpa [Env.put] using hr
    have hls':lstep C ops σ oj=some (pj,σ.put dj g A):=lstep_to hdj hlr' hdn
    have hnr':NoRefs PS σ oj:=⟨hgj,fun t ht=>by simp [hopj,Op.operands] at ht⟩
    have s1:StepM C ops PS false σ oj pj (σ.put dj g A):= .inr ⟨rfl,dj,hdj,hod,.inl ⟨hls',hri'⟩,fun _=>⟨hnr',hls',hri'⟩⟩
    have s2:StepIo C PS (σ.put dj g A) oi pi (σi.put dj g A):=⟨l,q1,q2,by rw [hfz];exact w1,by rw [hfz];exact w2⟩
    exact ⟨_,⟨oj,pj,hoj,by rw [t2];exact s1,hpj⟩,⟨oi,pi,hoi,by rw [t1];exact .inl ⟨rfl,.inr (.inr (.inr (.inr s2))),fun _=> .inr s2⟩,hpi⟩,stepM_keep s1 hw.1 hw.2⟩
   rw [hoi] at hx;rw [hoj] at hy
   simp only [Option.some.injEq] at hx hy
   subst hx;subst hy
   rw [t1] at hsi
   have hP':=chkU_spec hu hne hoj hoi
   rcases hsi with ⟨h0,_⟩|⟨_,di,hdi,hoi',hli⟩
   ·cases h0
   obtain ⟨b1,b2,b3⟩:=Oper.apart_spec ap1
   rcases t2 with t2|⟨t2,t3⟩
   ·rw [t2] at hsj
    rcases hsj with ⟨h0,_⟩|⟨_,dj,hdj,hoj',hlj⟩
    ·cases h0
    obtain ⟨bi,fi,li⟩:=FM.of hli
    obtain ⟨bj,fj,lj⟩:=FM.of hlj
    obtain ⟨σj,e1,e2,e3,e4⟩:=commM ap1 hdi hdj hw.1 hw.2 hP hoi' fi hoj' fj
    have off1:∀t∈oj.looksAt ops,σ t=σi t:=fun t ht=>(fi.off hdi (b1 di hdi) hP t ht).symm
    have off2:∀t∈oi.looksAt ops,σj t=σ t:=e1.off hdj (b3 dj hdj) hP'
    have s1:StepM C ops PS false σ oj pj σj:= .inr ⟨rfl,dj,hdj,e3,e1.to (fun h=>⟨(lj h).1,(lj h).2.same off1⟩)⟩
    exact ⟨σj,⟨oj,pj,hoj,by rw [t2];exact s1,hpj⟩,⟨oi,pi,hoi,by rw [t1];exact .inr ⟨rfl,di,hdi,e4,e2.to (fun h=>⟨(li h).1,(li h).2.same off2⟩)⟩,hpi⟩,stepM_keep s1 hw.1 hw.2⟩
   ·obtain ⟨hnr,hls,hri⟩:=hli.2 t2
    rcases hsj with ⟨ht,_,hlj⟩|⟨ht,dj,hdj,hoj',hlj⟩
    ·have hwl:=hlj t3
     obtain ⟨g,A,hlr,hdn,rfl⟩:=lstep_of hdi hls
     have hne2:∀dj,oj.dst=some dj→di≠dj:=fun dj hdj e=>b2 di hdi (by rw [hdj,e])
     have hdo2:∀t,Operand.tmp t∈oj.op.operands→t≠di:=fun t ht e=>b1 di hdi (by rw [←e];exact mem_looks ht)
     obtain ⟨σj,w12,w3,w4⟩:∃σj,((wstep C σ oj=some (pj,σj)∧LateW C PS σ oj)∨StepIo C PS σ oj pj σj)∧σij=σj.put di g A∧(∀t,oj.dst≠some t→((σ t).owner=true∧t+800∈PS)∨σj t=σ t):=by
      rcases hwl with ⟨hws,hla⟩|hws
      ·obtain ⟨σj,w1,w2,w3,w4⟩:=late_any hw.1 hne2 hdo2 t3 hws hla
       exact ⟨σj,.inl ⟨w1,w2⟩,w3,w4⟩
      ·obtain ⟨σj,w1,w3,w4⟩:=late_io2 hw.1 hne2 hdo2 hws
       exact ⟨σj,.inr w1,w3,w4⟩
     have hopn:∀t∈oi.looksAt ops,Operand.tmp t∈oi.op.operands:=fun t ht=>by
      simp only [Oper.looksAt,hnr.1,List.append_nil,List.mem_filterMap] at ht
      obtain ⟨x,hx,he⟩:=ht
      cases x<;>simp at he
      subst he
      simpa using hx
     have off2:∀t∈oi.looksAt ops,σj t=σ t:=fun t ht=>by
      rcases w4 t (fun e=>b3 t e ht) with ⟨h,h'⟩|h
      ·exfalso
       have h1:=(hnr.2 t (hopn t ht)).2
       unfold E.owner at h
       simp only [Bool.and_eq_true] at h
       cases ha:(σ t).a with
       |val x=>rw [ha] at h;simp only at h;exact h1 x ha h.2 h'
       |_=>rw [ha] at h;cases h.2
      ·exact h
     have hl2:lres C ops σj oi=some (pi,g,A):=by
      refine lres_mono (gd_same off2).symm (fun ty x gx A' s ver y hx ho hr hy=> ?_) (fun ty x hx=>(opd_same off2 (by simpa using hx)).symm) hlr
      have hsn:=hnr.opd (by simpa using hx) ho hr
      have:σj s=σ s:=by
       rcases w4 s (fun e=>hsn (by
        unfold lateB at t3
        rw [e] at t3
        simpa using t3)) with ⟨_,h⟩|h
       ·exact absurd h hsn
       ·exact h
      unfold Env.own at hy ⊢
      rw [this];exact hy
     have s1:StepM C ops PS true σ oj pj σj:= .inl ⟨rfl,by
      rcases w12 with ⟨w1,w2⟩|w12
      ·refine .inr (.inl ⟨w1,fun x hx=> ?_⟩)
       rcases w2 with ⟨args,ats,_,_,_,_,_,_,_,_,_,_,_,hop,_⟩|⟨_,_,_,_,_,_,_,_,_,_,hop,_⟩
       ·rw [hop] at hx;cases hx
       ·rw [hop] at hx;cases hx
      ·exact .inr (.inr (.inr (.inr w12))),fun _=>w12⟩
     have hod:(σj di).owner=false:=by
      rcases w4 di (fun e=>hne2 di e rfl) with ⟨h,_⟩|h
      ·rw [hoi'] at h;cases h
      ·rw [h];exact hoi'
     have e2:lstep C ops σj oi=some (pi,σij):=by rw [w3];exact lstep_to hdi hl2 hdn
     have hri':RefOk PS σij oi:=fun e he s ver hr=>by
      rw [hdi] at he;simp only [Option.some.injEq] at he;subst he
      refine hri di hdi s ver ?_
      rw [w3] at hr
      simpa [Env.put] using hr
     exact ⟨σj,⟨oj,pj,hoj,by rw [ht];exact s1,hpj⟩,⟨oi,pi,hoi,by rw [t1];exact .inr ⟨rfl,di,hdi,hod,.inl ⟨e2,hri'⟩,fun _=>⟨hnr.same off2,e2,hri'⟩⟩,hpi⟩,stepM_keep s1 hw.1 hw.2⟩
    ·obtain ⟨bi,fi,li⟩:=FM.of hli
     obtain ⟨bj,fj,lj⟩:=FM.of hlj
     obtain ⟨σj,e1,e2,e3,e4⟩:=commM ap1 hdi hdj hw.1 hw.2 hP hoi' fi hoj' fj
     have off1:∀t∈oj.looksAt ops,σ t=σi t:=fun t ht=>(fi.off hdi (b1 di hdi) hP t ht).symm
     have off2:∀t∈oi.looksAt ops,σj t=σ t:=e1.off hdj (b3 dj hdj) hP'
     have s1:StepM C ops PS false σ oj pj σj:= .inr ⟨rfl,dj,hdj,e3,e1.to (fun h=>⟨(lj h).1,(lj h).2.same off1⟩)⟩
     exact ⟨σj,⟨oj,pj,hoj,by rw [ht];exact s1,hpj⟩,⟨oi,pi,hoi,by rw [t1];exact .inr ⟨rfl,di,hdi,e4,e2.to (fun h=>⟨(li h).1,(li h).2.same off2⟩)⟩,hpi⟩,stepM_keep s1 hw.1 hw.2⟩
  case main=>
   refine evI_any hk hu R _ σ' (by simpa using hsz) (fun i hin=> ?_) (fun i hi=>hr i (by simp [hi])) hs2 (fun i hi hm=>hH i hi (by simp [hm])) ?_ h (stepM_keep hst hw.1 hw.2)
   ·by_cases hik:i=k
    ·subst hik
     have:(lst.setIfInBounds i true).getD i true=true:=by
      rw [Array.getD_eq_getD_getElem?,Array.getElem?_setIfInBounds_self_of_lt (by omega)]
      rfl
     rw [this]
     refine ⟨fun h=>(by cases h),fun hm=> ?_⟩
     have:=hs1 i hm
     omega
    ·rw [getD_set_ne true (Ne.symm hik),hl i hin,List.mem_cons]
     exact ⟨fun h=>h.resolve_left hik,fun h=> .inr h⟩
   ·intro j oj hoj hj e he hb
    by_cases hjk:j=k
    ·subst hjk
     rw [ho] at hoj
     simp only [Option.some.injEq] at hoj
     subst hoj
     exact getD_set_true (hedge e he hb)
    ·rw [getD_set_ne false (Ne.symm hjk)] at hj
     exact getD_set_true (hc j oj hoj hj e he hb)
theorem setAll_size:∀(H:List Nat) (l:Array Bool),(setAll l H).size=l.size
 |[],_=>rfl
 |i::H,l=>by rw [setAll,setAll_size H];simp
theorem setAll_get:∀(H:List Nat) (l:Array Bool) (i:Nat),i<l.size→(setAll l H).getD i true=(H.contains i||l.getD i true)
 |[],l,i,_=>by simp [setAll]
 |k::H,l,i,hi=>by
  rw [setAll,setAll_get H _ i (by simpa using hi)]
  by_cases hik:i=k
  ·subst hik
   have:(l.setIfInBounds i true).getD i true=true:=by
    rw [Array.getD_eq_getD_getElem?,Array.getElem?_setIfInBounds_self_of_lt hi]
    rfl
   rw [this]
   simp
  ·rw [getD_set_ne true (Ne.symm hik)]
   have:¬i=k:=hik
   simp [List.contains_cons,this]
theorem setAll_closed:∀(H:List Nat) (l:Array Bool),chkH ops H l=true→Closed ops l→Closed ops (setAll l H)
 |[],_,_,h=>h
 |k::H,l,hc,h=>by
  simp only [chkH,Bool.and_eq_true] at hc
  obtain ⟨⟨⟨h1,h2⟩,h3⟩,h4⟩:=hc
  refine setAll_closed H _ h4 ?_
  intro j oj hoj hj e he hb
  by_cases hjk:j=k
  ·subst hjk
   obtain ⟨_,o,ho,hall⟩:=mem_ready.1 (show j∈Region.ready .any ops l by simpa using h3)
   rw [hoj] at ho
   simp only [Option.some.injEq] at ho
   subst ho
   exact getD_set_true (hall e he hb)
  ·rw [getD_set_ne false (Ne.symm hjk)] at hj
   exact getD_set_true (h j oj hoj hj e he hb)
def nthsO (ops:List Oper):List Nat→List Oper
 |[]=>[]
 |i::H=>match ops[i]? with
  |some o=>o::nthsO ops H
  |none=>nthsO ops H
def restI (n:Nat) (H:List Nat):List Nat:=(List.range n).filter fun i=> !H.contains i
theorem evM_hev:∀(H:List Nat) (listed:Array Bool) (l:List Oper) (tl:List Bool) (σ:Env) (K:Env→Prop),chkH ops H listed=true→evM C ops PS (nthsO ops.toList H++l) ((nthsO ops.toList H).map (fun _=>false)++tl) σ K→hev C ops PS H σ (fun σ'=>evM C ops PS l tl σ' K)
 |[],_,_,_,_,_,_,h=>h
 |i::H,listed,l,tl,σ,K,hc,h=>by
  simp only [chkH,Bool.and_eq_true] at hc
  obtain ⟨⟨⟨h1,h2⟩,h3⟩,h4⟩:=hc
  cases ho:ops[i]? with
  |none=>rw [ho] at h1;cases h1
  |some o=>
   rw [ho] at h1
   have ho':ops.toList[i]? =some o:=by simpa using ho
   simp only [nthsO,ho',List.cons_append,List.map_cons] at h
   obtain ⟨p,σ',hs,hp,h⟩:=h
   have hlr:lstep C ops σ o=some (p,σ')∧RefOk PS σ' o:=by
    rcases hs with ⟨h0,_⟩|⟨_,d,_,_,hs|hs,_⟩
    ·cases h0
    ·exact hs
    exfalso
    simp only [Bool.and_eq_true] at h1
    have hm:=h1.1
    unfold pstep mstep at hs
    cases hop:o.op<;>simp [isMove,hop] at hm
    rw [hop] at hs
    split at hs
    ·cases hg:o.guard<;>cases hd:o.dst<;>simp [hg,hd] at hs
    ·cases hs
   exact ⟨o,p,σ',ho,hlr.1,hlr.2,hp,evM_hev H _ l tl σ' K h4 h⟩
theorem evM_evI {ts:List Bool} {K:Env→Prop}:∀(R:List Nat) (σ:Env),(∀i∈R,i<ops.size)→evM C ops PS (nthsO ops.toList R) (R.map fun i=>ts.getD i true) σ K→evI C ops PS ts R σ K
 |[],_,_,h=>h
 |i::R,σ,hr,h=>by
  have hi:i<ops.size:=hr i (by simp)
  have ho:ops.toList[i]? =some ops[i]:=by simp [hi]
  simp only [nthsO,ho,List.map_cons] at h
  obtain ⟨p,σ',hs,hp,h⟩:=h
  exact ⟨ops[i],p,σ',by simp [hi],hs,hp,evM_evI R σ' (fun j hj=>hr j (by simp [hj])) h⟩
theorem region_priv (hC:CtxOk C) (hIO:IOk C) (hm:C.P.follows .mixedOrders=true) {id:Nat} {ts:List Bool} {H:List Nat} {K:Env→Prop} {Q:Exit→Act→World→Prop} (hk:chkX ops PS ts H=true) (hu:chkU ops PS=true) (hs:Region.noSelect ops=true) (hh:chkH ops H (Array.replicate ops.size false)=true) (hcount:(restI ops.size H).length+H.length=ops.size) (hG:G C σ a w) (hN:∀s∈PS,(σ s).owner=false)
 (h:evM C ops PS (nthsO ops.toList H++nthsO ops.toList (restI ops.size H)) ((nthsO ops.toList H).map (fun _=>false)++(restI ops.size H).map fun i=>ts.getD i true) σ K)
 (hK:∀σ a w,K σ→G C σ a w→Q .normal a w):(Code.region id ops true).wp C.P Q a w:=by
 refine Code.wp_mono (Q:=fun e a w=>e= .normal∧Q .normal a w) (fun e a w hq=>by obtain ⟨rfl,hq⟩:=hq;exact hq) (wp_region_any hm ?_)
 have hn:∀σ,Wf σ→(∀s∈PS,(σ s).owner=false)→NR PS σ:=by
  intro σ _ hN s hs t ver _
  cases ho:σ.own s ver with
  |none=>rfl
  |some y=>
   obtain ⟨h1,h2,h3,h4⟩:=Env.own_iff'.1 ho
   have:=hN s hs
   simp [E.owner,h1,h3,h4] at this
 have hrs:∀i∈restI ops.size H,i<ops.size:=fun i hi=>by
  have:=(List.mem_filter.1 hi).1
  simpa using this
 have hw:Wf σ:=by obtain ⟨F,O,hI⟩:=hG;exact hI.wf
 have hv:=evM_hev H _ _ _ σ K hh h
 have:=hoist_sound (Q:=fun e a w=>e= .normal∧Q .normal a w) (fuel:=(restI ops.size H).length) (K:=fun σ'=>evM C ops PS (nthsO ops.toList (restI ops.size H)) ((restI ops.size H).map fun i=>ts.getD i true) σ' K) hC hs (fun c a w hq=>by cases hq.1) H _ σ a hh hv ⟨hw,hn σ hw hN⟩ hG.drew (fun σ' a' hev hw' hG'=>by
  have hev':=evM_evI (ts:=ts) _ _ hrs hev
  have hle:(setAll (Array.replicate ops.size false) H).size=ops.size:=by rw [setAll_size];simp
  refine anyM_sound hC hIO (fun σ a w h1 h2=>⟨rfl,hK σ a w h1 h2⟩) _ _ σ' a' _ (evI_any hk hu _ _ σ' hle (fun i hi=> ?_) hrs ?_ (fun i hi hm=> ?_) ?_ hev' hw') hG'
  ·rw [setAll_get _ _ _ (by simpa using hi)]
   simp only [restI,List.mem_filter,List.mem_range,hi,true_and]
   simp [hi]
  ·exact List.Pairwise.filter _ List.pairwise_lt_range
  ·have:=(List.mem_filter.1 hm).2
   simp [hi] at this
  ·refine setAll_closed H _ hh (fun j o ho hj=> ?_)
   by_cases hjn:j<ops.size<;>simp [hjn] at hj)
 rw [hcount] at this
 exact this
end
end Go.Ax
namespace Go.Ax
abbrev nbeq (a b:Nat):Bool:=a==b
abbrev nble (a b:Nat):Bool:=decide (a≤b)
abbrev nblt (a b:Nat):Bool:=decide (a+1≤b)
theorem nbeq_eq {a b:Nat} (h:nbeq a b=true):a=b:=by simpa using h
theorem nbeq_refl (a:Nat):nbeq a a=true:=by simp
theorem nble_le {a b:Nat} (h:nble a b=true):a≤b:=of_decide_eq_true h
inductive TK where
 |int (k:IntKind)
 |bool
 |str
 |slc (e:TypeId)
 |agg (fs:List (Nat×TypeId))
 |oth
 deriving Inhabited
structure TI where
 k:TK
 cells:Nat
 zero:V
 deriving Inhabited
abbrev Tab:=List (Nat×TI)
def tget:Tab→Nat→Option TI
 |[],_=>none
 |(k,ti)::l,t=>match nbeq k t with
  |true=>some ti
  |false=>tget l t
def tcells (T:Tab) (t:TypeId):Nat:=match tget T t with
 |some ti=>ti.cells
 |none=>0
structure Lv where
 toI:V→Int
 toB:V→Bool
 toS:V→ByteArray
 toL:V→List V
 fld:V→Nat→V
structure Alg where
 v:Lv
 wrap:IntKind→Int→Int
 add:Int→Int→Int
 sub:Int→Int→Int
 mul:Int→Int→Int
 quo:Int→Int→Int
 rem:Int→Int→Int
 band:IntKind→Int→Int→Int
 shr:IntKind→Int→Int→Int
 imin:Int→Int→Int
 imax:Int→Int→Int
 eqI:Int→Int→Bool
 leI:Int→Int→Bool
 ltI:Int→Int→Bool
 eqB:Bool→Bool→Bool
 not:Bool→Bool
 and:Bool→Bool→Bool
 pick:Bool→Bool→Bool→Bool
 eqS:ByteArray→ByteArray→Bool
 ltS:ByteArray→ByteArray→Bool
 appS:ByteArray→ByteArray→ByteArray
 lenS:ByteArray→Int
 getS:ByteArray→Int→Int
 extS:ByteArray→Int→Int→ByteArray
 len:List V→Int
 get:List V→Nat→V→V
 set:List V→Nat→V→List V
 app:List V→List V→List V
 sli:List V→Int→Int→List V
 rep:Int→V→List V
 frz:List V→List V
 nat:Int→Nat
 ltN:Nat→List V→Prop
 nofz:List V→Prop
 nown:List V→Prop
 emp:List V→Prop
 ok:Bool→TypeId→V→Prop
 okS:TypeId→V→Prop
 solid:List V→Prop
 le:Int→Int→Prop
 lt:Int→Int→Prop
 ne0:Int→Prop
 imp:Bool→Prop→Prop
 tt:Bool→Prop
 ifP:Bool→Prop→Prop→Prop
 strB:List V→ByteArray
 byt:List V→Prop
def V.toI:V→Int
 | .int _ n=>n
 |_=>0
def V.toB:V→Bool
 | .bool b=>b
 |_=>false
def V.toS:V→ByteArray
 | .str s=>s
 |_=>ByteArray.empty
def V.toL:V→List V
 | .slc _ _ _ es=>es
 |_=>[]
def V.fld:V→Nat→V
 | .agg fs,i=>fs.getD i (.hole 0)
 |_,_=> .hole 0
def vwD (o:Bool) (d:V):V:=match o with
 |true=>d
 |false=>d.frz
def nthV:List V→Nat→Option V
 |[],_=>none
 |x::_,0=>some x
 |_::l,i+1=>nthV l i
section
variable (L:Lv) (T:Tab)
mutual
def vw (o:Bool):Nat→TypeId→V→Option V
 |0,_,_=>none
 |n+1,t,y=>match tget T t with
  |some ⟨.int k,_,_⟩=>some (.int k (L.toI y))
  |some ⟨.bool,_,_⟩=>some (.bool (L.toB y))
  |some ⟨.str,_,_⟩=>some (.str (L.toS y))
  |some ⟨.slc e,_,.slc _ _ d _⟩=>some (.slc o e (vwD o d) (L.toL y))
  |some ⟨.agg fs,_,_⟩=>match vws o n fs 0 y with
   |some ys=>some (.agg ys)
   |none=>none
  |_=>none
def vws (o:Bool):Nat→List (Nat×TypeId)→Nat→V→Option (List V)
 |_,[],_,_=>some []
 |0,_::_,_,_=>none
 |n+1,(_,t)::fs,i,y=>match vw o n t (L.fld y i) with
  |some v=>match vws o n fs (i+1) y with
   |some vs=>some (v::vs)
   |none=>none
  |none=>none
end
end
section
variable (L:Alg) (T:Tab)
abbrev Sta:=List (Nat×Option Bool×A)
def look:Sta→Nat→Option (Option Bool×A)
 |[],_=>none
 |(k,e)::l,t=>match nbeq k t with
  |true=>some e
  |false=>look l t
def A.at0:A→Nat→Bool
 | .rf s _ _,d=>nbeq s d
 | .ad s _ _,d=>nbeq s d
 | .ag s _ _ _,d=>nbeq s d
 |_,_=>false
def del (d:Nat):Sta→Sta
 |[]=>[]
 |(k,g,a)::l=>match nbeq k d with
  |true=>del d l
  |false=>match a.at0 d with
   |true=>del d l
   |false=>(k,g,a)::del d l
def ins (d:Nat) (e:Option Bool×A):Sta→Sta
 |[]=>[(d,e)]
 |(k,e')::l=>match nblt k d with
  |true=>(k,e')::ins d e l
  |false=>(d,e)::(k,e')::l
def putS (S:Sta) (d:Nat) (g:Option Bool) (a:A):Sta:=ins d (g,a) (del d S)
def del' (d:Nat):Sta→Sta
 |[]=>[]
 |(k,g,a)::l=>match a.at0 d with
  |true=>del' d l
  |false=>(k,g,a)::del' d l
def modS (S:Sta) (d:Nat) (x:V):Sta:=match S with
 |[]=>[]
 |(k,g,a)::l=>match nbeq k d with
  |true=>(k,g,.val x)::modS l d x
  |false=>(k,g,a)::modS l d x
def memN:List Nat→Nat→Bool
 |[],_=>false
 |x::l,t=>match nbeq x t with
  |true=>true
  |false=>memN l t
def A.in0:A→List Nat→Bool
 | .rf s _ _,l=>memN l s
 | .ad s _ _,l=>memN l s
 | .ag s _ _ _,l=>memN l s
 |_,_=>true
def keepS (ks:List Nat):Sta→Sta
 |[]=>[]
 |(k,g,a)::l=>match memN ks k with
  |true=>match a.in0 ks with
   |true=>(k,g,a)::keepS ks l
   |false=>keepS ks l
  |false=>keepS ks l
def ownS (S:Sta) (s:Nat):Option V:=match look S s with
 |some (none,.val x)=>match x.owned with
  |true=>some x
  |false=>none
 |_=>none
def constS (t:TypeId):Value→Option V
 | .int k n=>some (.int k n)
 | .bool b=>some (.bool b)
 | .string s=>some (.str s)
 | .pointer none=>some (.hole 1)
 | .slice none 0 0=>match tget T t with
   |some ⟨.slc e,_,.slc _ _ d _⟩=>some (.slc true e d [])
   |_=>none
 |_=>none
def opdS (S:Sta) (t:TypeId):Operand→Option (Option Bool×A)
 | .tmp x=>match look S x with
   |some (g,.val v)=>match v.owned with
    |true=>some (g,.rf x 0 [])
    |false=>some (g,.val v)
   |some (g,a)=>some (g,a)
   |none=>none
 | .const v=>match constS T t v with
   |some x=>some (none,.val x)
   |none=>none
 | .func f=>some (none,.val (.fn f []))
 | .global _=>none
def imG (g:Option Bool) (p:List Prop):List Prop:=match g with
 |none=>p
 |some b=>match p with
  |[]=>[]
  |p::l=>L.imp b p::imG (some b) l
def geG (g gx:Option Bool):List Prop:=match gx with
 |none=>[]
 |some b=>match g with
  |none=>[L.tt b]
  |some a=>[L.imp a (L.tt b)]
def dO:V→Bool
 | .slc o _ _ _=>o
 | .agg (.slc o _ _ _::_)=>o
 |_=>true
def atS:V→List Nat→Option (V×List Prop)
 |x,[]=>some (x,[])
 | .slc true e d es,i::p=>match vw L.v T (dO d) 20 e (L.get es i d) with
   |some y=>match atS y p with
    |some (z,q)=>some (z,L.ltN i es::L.ok (dO d) e (L.get es i d)::q)
    |none=>none
   |none=>none
 | .agg fs,i::p=>match nthV fs i with
   |some y=>atS y p
   |none=>none
 | .box _ c,0::p=>atS c p
 |_,_=>none
def updS:V→List Nat→V→Option V
 |_,[],y=>some y
 | .slc true e d es,i::p,y=>match vw L.v T (dO d) 20 e (L.get es i d) with
   |some x=>match updS x p y with
    |some z=>some (.slc true e d (L.set es i z))
    |none=>none
   |none=>none
 | .agg fs,i::p,y=>match nthV fs i with
   |some x=>match updS x p y with
    |some z=>some (.agg (fs.set i z))
    |none=>none
   |none=>none
 | .box e c,0::p,y=>match updS c p y with
   |some z=>some (.box e z)
   |none=>none
 |_,_,_=>none
def atW:V→List Nat→Option (V×List Prop)
 |x,[]=>some (x,[])
 | .slc true e d es,i::p=>match vw L.v T (dO d) 20 e (L.get es i d) with
   |some y=>match p with
    |[]=>match y.isScalar|| !dO d with
     |true=>some (y,[L.ltN i es,L.ok (dO d) e (L.get es i d)])
     |false=>some (y,[L.ltN i es,L.okS e (L.get es i d)])
    |_=>match atW y p with
     |some (z,q)=>some (z,L.ltN i es::L.ok (dO d) e (L.get es i d)::q)
     |none=>none
   |none=>none
 | .agg fs,i::p=>match nthV fs i with
   |some y=>atW y p
   |none=>none
 | .box _ c,0::p=>atW c p
 |_,_=>none
def atRW (r:V) (p:List Nat):Option (V×List Prop):=match p with
 |[]=>some (r,[])
 |i::q=>match r with
  | .agg _=>none
  | .tup _=>none
  |r=>atW L T r (i::q)
def atR (r:V) (p:List Nat):Option (V×List Prop):=match p with
 |[]=>some (r,[])
 |i::q=>match r with
  | .agg _=>none
  | .tup _=>none
  |r=>atS L T r (i::q)
def ikN:IntKind→Nat
 | .i8=>0
 | .i16=>1
 | .i32=>2
 | .i64=>3
 | .u8=>4
 | .u16=>5
 | .u32=>6
 | .u64=>7
def ikE (k k':IntKind):Bool:=nbeq (ikN k) (ikN k')
def intS (S:Sta) (x:Operand):Option (Option Bool×Int):=match opdS T S 0 x with
 |some (g,.val (.int .i64 n))=>some (g,n)
 |_=>none
def boundS (S:Sta) (d:Int):Option Operand→Option (Option Bool×Int)
 |none=>some (none,d)
 |some x=>intS T S x
def binS (op:BinOp) (k:IntKind) (a b:Int):Option (List Prop×V):=
 match op with
 | .add=>some ([],.int k (L.wrap k (L.add a b)))
 | .sub=>some ([],.int k (L.wrap k (L.sub a b)))
 | .mul=>some ([],.int k (L.wrap k (L.mul a b)))
 | .quo=>some ([L.ne0 b],.int k (L.wrap k (L.quo a b)))
 | .rem=>some ([L.ne0 b],.int k (L.rem a b))
 | .and=>some ([],.int k (L.band k a b))
 | .shr=>some ([L.le 0 b],.int k (L.shr k a b))
 | .eql=>some ([],.bool (L.eqI a b))
 | .neq=>some ([],.bool (L.not (L.eqI a b)))
 | .lss=>some ([],.bool (L.ltI a b))
 | .leq=>some ([],.bool (L.leI a b))
 | .gtr=>some ([],.bool (L.ltI b a))
 | .geq=>some ([],.bool (L.leI b a))
 |_=>none
def strS (op:BinOp) (a b:ByteArray):Option (List Prop×V):=
 match op with
 | .add=>some ([L.lt (L.add (L.lenS a) (L.lenS b)) 1099511627776],.str (L.appS a b))
 | .eql=>some ([],.bool (L.eqS a b))
 | .neq=>some ([],.bool (L.not (L.eqS a b)))
 | .lss=>some ([],.bool (L.ltS a b))
 |_=>none
def isBoolT (t:TypeId):Bool:=match tget T t with
 |some ⟨.bool,_,_⟩=>true
 |_=>false
def isStrT (t:TypeId):Bool:=match tget T t with
 |some ⟨.str,_,_⟩=>true
 |_=>false
def elemT (t:TypeId):Option TypeId:=match tget T t with
 |some ⟨.slc e,_,_⟩=>some e
 |_=>none
def kindT (t:TypeId):Option IntKind:=match tget T t with
 |some ⟨.int k,_,_⟩=>some k
 |_=>none
def scalT (t:TypeId):Bool:=match tget T t with
 |some ⟨.int _,_,_⟩=>true
 |some ⟨.bool,_,_⟩=>true
 |some ⟨.str,_,_⟩=>true
 |_=>false
def fieldsT (t:TypeId):Option (List (Nat×TypeId)):=match tget T t with
 |some ⟨.agg fs,_,_⟩=>some fs
 |_=>none
def nthF:List (Nat×TypeId)→Nat→Option (Nat×TypeId)
 |[],_=>none
 |x::_,0=>some x
 |_::l,i+1=>nthF l i
def ftyS (fs:List (Nat×TypeId)) (i:Nat):TypeId:=match nthF fs i with
 |some x=>x.2
 |none=>0
def fitT (t:TypeId) (y:V):Bool:=match tget T t,y with
 |some ⟨.int k,_,_⟩,.int k' _=>ikE k k'
 |some ⟨.bool,_,_⟩,.bool _=>true
 |some ⟨.str,_,_⟩,.str _=>true
 |some ⟨.slc e,_,_⟩,.slc _ e' _ _=>nbeq e e'
 |some ⟨.agg _,c,_⟩,.agg fs=>nbeq c (V.sizes fs)
 |some ⟨.oth,c,_⟩,.box _ _=>nbeq c 1
 |some ⟨.oth,c,_⟩,.fn _ _=>nbeq c 1
 |_,_=>false
def placeS (off:Nat) (ft:TypeId) (f:Nat) (fs:List V):Bool:=nbeq (V.offs fs f) off&&nblt f fs.length&&nblt 0 (tcells T ft)
def frzS:V→V
 | .slc _ e d es=> .slc false e d.frz (L.frz es)
 | .agg fs=> .agg (frzsS fs)
 | .tup fs=> .tup (frzsS fs)
 | .box _ c=> .fn 1000000000 [frzS c]
 |x=>x
where frzsS:List V→List V
 |[]=>[]
 |x::l=>frzS x::frzsS l
def lookS (S:Sta):A→Option (V×List Prop)
 | .val x=>some (x,[])
 | .rf s _ p=>match ownS S s with
   |some r=>match p with
    |[]=>some (r,[])
    |i::q=>match r with
     | .tup fs=>match q with
       |[]=>match nthV fs i with
        |some y=>some (y,[])
        |none=>none
       |_=>none
     |_=>match atR L T r p with
      |some (y,ps)=>match y.isH with
       |true=>some (y,ps)
       |false=>none
      |none=>none
   |none=>none
 |_=>none
def lookF0 (r:V) (p:List Nat):List V→Nat→Option (List V×List Prop)
 |[],_=>some ([],[])
 |f::fs,i=>match f.leaf with
  |true=>match f.owned with
   |true=>match atR L T r (p++[i]) with
    |some (y,ps)=>match y.isH with
     |true=>match lookF0 r p fs (i+1) with
      |some (ys,qs)=>some (y::ys,ps++qs)
      |none=>none
     |false=>none
    |none=>none
   |false=>match lookF0 r p fs (i+1) with
    |some (ys,qs)=>some (f::ys,qs)
    |none=>none
  |false=>none
def lookFS (r:V) (p:List Nat):List V→Nat→Option (List V×List Prop)
 |[],_=>some ([],[])
 |f::fs,i=>match f.leaf with
  |true=>match f.owned with
   |true=>match atR L T r (p++[i]) with
    |some (y,ps)=>match y.isH with
     |true=>match lookFS r p fs (i+1) with
      |some (ys,qs)=>some (y::ys,ps++qs)
      |none=>none
     |false=>none
    |none=>none
   |false=>match lookFS r p fs (i+1) with
    |some (ys,qs)=>some (f::ys,qs)
    |none=>none
  |false=>match f with
   | .agg gs=>match lookF0 L T r (p++[i]) gs 0 with
     |some (zs,ps)=>match lookFS r p fs (i+1) with
      |some (ys,qs)=>some (.agg zs::ys,ps++qs)
      |none=>none
     |none=>none
   |_=>none
def lookAS (S:Sta) (a:A):Option (V×List Prop):=match a with
 | .ag s _ p fs=>match ownS S s with
   |some r=>match lookFS L T r p fs 0 with
    |some (ys,ps)=>some (.agg ys,ps)
    |none=>none
   |none=>none
 |a=>lookS L T S a
mutual
def V.isFn:V→Bool
 | .fn _ _=>true
 | .box _ _=>true
 | .agg fs=>V.areFn fs
 | .tup fs=>V.areFn fs
 |_=>false
def V.areFn:List V→Bool
 |[]=>false
 |x::l=>x.isFn||V.areFn l
end
def nofzS:V→List Prop
 | .slc true _ _ es=>[L.nofz es]
 | .slc false _ _ es=>[L.emp es]
 | .agg fs=>nofzsS fs
 | .tup fs=>nofzsS fs
 |_=>[]
where nofzsS:List V→List Prop
 |[]=>[]
 |x::l=>nofzS x++nofzsS l
def argsS (S:Sta) (g:Option Bool):List Operand→List TypeId→Option (List Prop×List V×Bool)
 |[],_=>some ([],[],false)
 |x::xs,ts=>match opdS T S (ts.headD 0) x with
  |some (gx,a)=>match lookAS L T S a with
   |some (v,ps)=>match argsS S g xs (ts.drop 1) with
    |some (qs,vs,br)=>some (geG L g gx++imG L g ps++qs,frzS L v::vs,br||v.owned||a.isAg)
    |none=>none
   |none=>none
  |none=>none
def valsS (S:Sta) (g:Option Bool) (ty:Nat→TypeId):List (Nat×Operand)→Option (List Prop×List (Nat×V))
 |[]=>some ([],[])
 |(i,x)::xs=>match opdS T S (ty i) x with
  |some (gx,.val v)=>match v.owned with
   |true=>match v with
    | .slc true e d []=>match valsS S g ty xs with
      |some (qs,vs)=>some (geG L g gx++qs,(i,.slc true e d [])::vs)
      |none=>none
    |_=>none
   |false=>match v.isHole with
    |true=>none
    |false=>match valsS S g ty xs with
     |some (qs,vs)=>some (geG L g gx++qs,(i,v)::vs)
     |none=>none
  |_=>none
abbrev Contract:=List V→Option (List Prop×V)
abbrev Book:=List (FuncId×Contract)
def bget:Book→FuncId→Option Contract
 |[],_=>none
 |(k,f)::l,t=>match nbeq k t with
  |true=>some f
  |false=>bget l t
mutual
def frzT:V→V
 | .slc _ e d es=> .slc false e d.frz (L.frz es)
 | .agg fs=> .agg (frzTs fs)
 | .tup fs=> .tup (frzTs fs)
 | .box _ c=> .fn 1000000000 [frzT c]
 | .int k n=> .int k n
 | .bool b=> .bool b
 | .str s=> .str s
 | .fn f c=> .fn f c
 | .hole n=> .hole n
def frzTs:List V→List V
 |[]=>[]
 |v::vs=>frzT v::frzTs vs
end
def argsR (S:Sta):List Operand→List TypeId→Bool
 |[],_=>false
 |x::xs,ts=>(match opdS T S (ts.headD 0) x with
  |some (_,.val v)=>v.owned
  |some (_,.ag _ _ _ fs)=>V.owneds fs
  |_=>true)||argsR S xs (ts.drop 1)
def brKS (B:Book) (S:Sta) (k:FuncId) (xs:List Operand) (ts:List TypeId) (br:Bool):Bool:=match br with
 |false=>false
 |true=>match bget B (3000000000+k) with
  |some f=>match f [] with
   |some _=>argsR T S xs ts
   |none=>true
  |none=>true
def frzK (B:Book) (k:FuncId) (r:V):V:=match bget B (2000000000+k) with
 |some f=>match f [] with
  |some _=>frzT L r
  |none=>r
 |none=>r
def lopS (B:Book) (S:Sta) (g:Option Bool) (o:Oper):Option (List Prop×A):=
 match o.op with
 | .move x=>match opdS T S o.type x with
   |some (gx,a)=>some (geG L g gx,a)
   |none=>none
 | .assign x=>match opdS T S o.type x with
   |some (gx,.val v)=>match v.owned with
    |true=>none
    |false=>some (geG L g gx,.val v)
   |some (gx,.rf s _ (i::p))=>match ownS S s with
    |some (.tup _)=>none
    |some _=>some (geG L g gx,.rf s 0 (i::p))
    |none=>none
   |some (gx,.rf s _ [])=>match o.dst with
    |some d=>match bget B (1000000000+d) with
     |some f=>match f [] with
      |some _=>some (geG L g gx,.rf s 0 [])
      |none=>none
     |none=>none
    |none=>none
   |_=>none
 | .pick c a b=>match opdS T S 0 c,opdS T S 0 a,opdS T S 0 b with
   |some (gc,.val (.bool c)),some (ga,.val (.bool a)),some (gb,.val (.bool b))=>
    some (geG L g gc++imG L g ((geG L none ga).map (L.imp c))++imG L g ((geG L none gb).map (L.imp (L.not c))),.val (.bool (L.pick c a b)))
   |_,_,_=>none
 | .binOp op xt x y _=>match opdS T S xt x,opdS T S xt y with
   |some (gx,.val (.bool a)),some (gy,.val (.bool b))=>match isBoolT T xt with
    |true=>match op with
     | .eql=>some (geG L g gx++geG L g gy,.val (.bool (L.eqB a b)))
     | .neq=>some (geG L g gx++geG L g gy,.val (.bool (L.not (L.eqB a b))))
     |_=>none
    |false=>none
   |some (gx,.val (.int k a)),some (gy,.val (.int k' b))=>match ikE k k' with
    |true=>match binS L op k a b with
     |some (ps,v)=>some (geG L g gx++geG L g gy++imG L g ps,.val v)
     |none=>none
    |false=>match op with
     | .shr=>some (geG L g gx++geG L g gy++imG L g [L.le 0 b],.val (.int k (L.shr k a b)))
     |_=>none
   |some (gx,.val (.str a)),some (gy,.val (.str b))=>match strS L op a b with
    |some (ps,v)=>some (geG L g gx++geG L g gy++imG L g ps,.val v)
    |none=>none
   |_,_=>none
 | .unOp op _ x=>match op,opdS T S o.type x with
   | .not,some (gx,.val (.bool b))=>some (geG L g gx,.val (.bool (L.not b)))
   | .neg,some (gx,.val (.int k n))=>some (geG L g gx,.val (.int k (L.wrap k (L.sub 0 n))))
   |_,_=>none
 | .load t x=>match opdS T S 0 x with
   |some (gx,.fz y)=>match vw L.v T false 20 t y with
    |some z=>some (geG L g gx++imG L g [L.ok false t y],.val z)
    |none=>none
   |some (gx,.val v)=>match v.fb? with
    |some y=>match fitT T t y with
     |true=>some (geG L g gx,.val y)
     |false=>none
    |none=>none
   |some (gx,.ad s _ p)=>match ownS S s with
    |some r=>match p,atR L T r p with
     |_::_,some (y,ps)=>match fitT T t y with
      |true=>match y.owned with
       |false=>some (geG L g gx++imG L g ps,.val y)
       |true=>match y.isH with
        |true=>some (geG L g gx++imG L g ps,.rf s 0 p)
        |false=>match y with
         | .agg fs=>match V.flats fs with
           |true=>some (geG L g gx++imG L g ps,.ag s 0 p fs)
           |false=>none
         |_=>none
      |false=>none
     |_,_=>none
    |none=>none
   |some (gx,.rf s _ p)=>match ownS S s with
    |some r=>match atR L T r p with
     |some (.box _ c,ps)=>match fitT T t c with
      |true=>match c.owned with
       |false=>some (geG L g gx++imG L g ps,.val c)
       |true=>match c.isH with
        |true=>some (geG L g gx++imG L g ps,.rf s 0 (p++[0]))
        |false=>match c with
         | .agg fs=>match V.flats fs with
           |true=>some (geG L g gx++imG L g ps,.ag s 0 (p++[0]) fs)
           |false=>none
         |_=>none
      |false=>none
     |_=>none
    |none=>none
   |_=>none
 | .nilCheck x=>match opdS T S 0 x with
   |some (gx,.rf s _ p)=>match ownS S s with
    |some r=>match atR L T r p with
     |some (.box _ _,ps)=>some (geG L g gx++imG L g ps,.rf s 0 p)
     |_=>none
    |none=>none
   |_=>none
 | .fieldAddr st x f=>match fieldsT T st with
   |some fts=>match nthF fts f with
    |some (off,ft)=>match opdS T S 0 x with
     |some (gx,.fz y)=>some (geG L g gx++imG L g [L.ok false st y],.fz (L.v.fld y f))
     |some (gx,.val v)=>match v.fb? with
      |some (.agg fs)=>match placeS T off ft f fs with
       |true=>some (geG L g gx,.val (.fn 1000000000 [fs.getD f (.hole 0)]))
       |false=>none
      |_=>none
     |some (gx,.ad s _ p)=>match ownS S s with
      |some r=>match p,atR L T r p with
       |_::_,some (.agg fs,ps)=>match placeS T off ft f fs with
        |true=>some (geG L g gx++imG L g ps,.ad s 0 (p++[f]))
        |false=>none
       |_,_=>none
      |none=>none
     |some (gx,.rf s _ p)=>match ownS S s with
      |some r=>match atR L T r p with
       |some (.box _ (.agg fs),ps)=>match placeS T off ft f fs with
        |true=>some (geG L g gx++imG L g ps,.ad s 0 (p++[0,f]))
        |false=>none
       |_=>none
      |none=>none
     |_=>none
    |none=>none
   |none=>none
 | .indexAddr st x i=>match elemT T st,intS T S i with
   |some e,some (gi,n)=>match opdS T S 0 x with
    |some (gx,.val (.slc false e' d es))=>match nbeq e e' with
     |true=>some (geG L g gx++geG L g gi++imG L g [L.le 0 n,L.lt n (L.len es)],.fz (L.get es (L.nat n) d))
     |false=>none
    |some (gx,.rf s _ p)=>match ownS S s with
     |some r=>match atR L T r p with
      |some (.slc true e' d es,ps)=>match nbeq e e' with
       |true=>some (geG L g gx++geG L g gi++imG L g (ps++[L.le 0 n,L.lt n (L.len es)]),.ad s 0 (p++[L.nat n]))
       |false=>none
      |_=>none
     |none=>none
    |_=>none
   |_,_=>none
 | .index st x i=>match isStrT T st with
   |true=>match opdS T S 0 x,intS T S i with
    |some (gx,.val (.str s)),some (gi,n)=>some (geG L g gx++geG L g gi++imG L g [L.le 0 n,L.lt n (L.lenS s)],.val (.int .u8 (L.getS s n)))
    |_,_=>none
   |false=>none
 | .extract x i=>match opdS T S 0 x with
   |some (gx,.val (.tup fs))=>match nthV fs i with
    |some y=>some (geG L g gx,.val y)
    |none=>none
   |some (gx,.rf s _ [])=>match ownS S s with
    |some (.tup fs)=>match nthV fs i with
     |some y=>match y.owned with
      |true=>some (geG L g gx,.rf s 0 [i])
      |false=>some (geG L g gx,.val y)
     |none=>none
    |_=>none
   |_=>none
 | .slice st x lo hi none=>match opdS T S 0 x with
   |some (gx,.val (.slc false e d es))=>match elemT T st with
    |some e'=>match nbeq e e' with
     |true=>match boundS T S 0 lo,boundS T S (L.len es) hi with
      |some (gl,l),some (gh,h)=>some (geG L g gx++geG L g gl++geG L g gh++imG L g [L.le 0 l,L.le l h,L.le h (L.len es)],.val (.slc false e d (L.sli es l h)))
      |_,_=>none
     |false=>none
    |none=>none
   |some (gx,.val (.str s))=>match isStrT T st with
    |true=>match boundS T S 0 lo,boundS T S (L.lenS s) hi with
     |some (gl,l),some (gh,h)=>some (geG L g gx++geG L g gl++geG L g gh++imG L g [L.le 0 l,L.le l h,L.le h (L.lenS s)],.val (.str (L.extS s l h)))
     |_,_=>none
    |false=>none
   |_=>none
 | .convert s d x=>match kindT T s,kindT T d,opdS T S s x with
   |some _,some k,some (gx,.val (.int _ n))=>some (geG L g gx,.val (.int k (L.wrap k n)))
   |none,none,some (gx,.rf sl _ [])=>match isStrT T d,elemT T s,ownS S sl with
    |true,some e,some (.slc true e' _ es)=>match nbeq e e',kindT T e,tget T e with
     |true,some .u8,some ti=>match nbeq ti.cells 1 with
      |true=>some (geG L g gx++imG L g [L.byt es],.val (.str (L.strB es)))
      |false=>none
     |_,_,_=>none
    |_,_,_=>none
   |_,_,_=>none
 | .alloc t=>match tget T t with
   |some ti=>some ([],.val (.box t ti.zero))
   |none=>none
 | .box t x=>match opdS T S t x with
   |some (gx,.val v)=>match v.owned with
    |false=>match fitT T t v with
     |true=>some (geG L g gx,.val (.box t v))
     |false=>none
    |true=>none
   |_=>none
 | .makeSlice t l c=>match elemT T t with
   |some e=>match intS T S l,intS T S c,tget T e with
    |some (gl,n),some (gc,m),some ti=>some (geG L g gl++geG L g gc++imG L g [L.le 0 n,L.le n m,L.le m 2147483647],.val (.slc true e ti.zero (L.rep n ti.zero)))
    |_,_,_=>none
   |none=>none
 | .buildSlice t n parts=>match elemT T t with
   |some e=>match tget T e,valsS L T S g (fun _=>e) parts.toList with
    |some ti,some (ps,vs)=>match nble (n*ti.cells) 1048576 with
     |true=>match fillV (List.replicate n ti.zero) vs with
      |some es=>some (ps,.val (.slc true e ti.zero es))
      |none=>none
     |false=>none
    |_,_=>none
   |none=>none
 | .build t parts=>match tget T t with
   |some ⟨.agg fts,_,.agg zs⟩=>match valsS L T S g (ftyS fts) parts.toList with
    |some (ps,vs)=>match fillV zs vs with
     |some fs=>some (ps,.val (.agg fs))
     |none=>none
    |none=>none
   |_=>none
 | .makeFunc (.func f) first caps=>match first.toList,valsS L T S g (fun _=>0) (caps.toList.map fun x=>(0,x)) with
   |[],some (ps,vs)=>match f==1000000000 with
    |true=>none
    |false=>some (ps,.val (.fn f (vs.map (·.2))))
   |_,_=>none
 | .call c=>match c.callee with
   | .builtin .len=>match c.args.toList,c.argTypes.toList with
     |[x],[t]=>match opdS T S 0 x with
      |some (gx,a)=>match lookS L T S a with
       |some (.slc _ _ _ es,ps)=>match elemT T t with
        |some _=>some (geG L g gx++imG L g ps,.val (.int .i64 (L.len es)))
        |none=>none
       |some (.str s,ps)=>match isStrT T t with
        |true=>some (geG L g gx++imG L g ps,.val (.int .i64 (L.lenS s)))
        |false=>none
       |_=>none
      |none=>none
     |_,_=>none
   | .builtin .min=>match c.args.toList with
     |[x,y]=>match opdS T S o.type x,opdS T S o.type y with
      |some (gx,.val (.int k a)),some (gy,.val (.int k' b))=>match ikE k k' with
       |true=>some (geG L g gx++geG L g gy,.val (.int k (L.imin a b)))
       |false=>none
      |_,_=>none
     |_=>none
   | .builtin .max=>match c.args.toList with
     |[x,y]=>match opdS T S o.type x,opdS T S o.type y with
      |some (gx,.val (.int k a)),some (gy,.val (.int k' b))=>match ikE k k' with
       |true=>some (geG L g gx++geG L g gy,.val (.int k (L.imax a b)))
       |false=>none
      |_,_=>none
     |_=>none
   | .value f=>match opdS T S 0 f with
     |some (gf,.val (.fn k caps))=>match argsS L T S g c.args.toList c.argTypes.toList with
      |some (ps,vs,br)=>match k==1000000000 with
       |true=>none
       |false=>match bget B k with
        |some ct=>match ct (vs++caps) with
         |some (qs,r)=>match brKS T B S k c.args.toList c.argTypes.toList br with
          |true=>match r.isFn with
           |true=>none
           |false=>some (geG L g gf++ps++imG L g (qs++nofzS L r),.val (frzK L B k r))
          |false=>some (geG L g gf++ps++imG L g qs,.val (frzK L B k r))
         |none=>none
        |none=>none
      |none=>none
     |_=>none
   |_=>none
 |_=>none
def takeF0 (s:Nat) (p:List Nat):List V→Nat→Sta→Option (List Prop×List V×Sta)
 |[],_,S=>some ([],[],S)
 |f::fs,i,S=>match f.leaf with
  |true=>match f.owned with
   |true=>match ownS S s with
    |some r=>match atR L T r (p++[i]) with
     |some (y,ps)=>match y.isH with
      |true=>match updS L T r (p++[i]) (.hole 1) with
       |some r'=>match takeF0 s p fs (i+1) (modS S s r') with
        |some (qs,ys,S')=>some (ps++qs,y::ys,S')
        |none=>none
       |none=>none
      |false=>none
     |none=>none
    |none=>none
   |false=>match takeF0 s p fs (i+1) S with
    |some (qs,ys,S')=>some (qs,f::ys,S')
    |none=>none
  |false=>none
def takeFS (s:Nat) (p:List Nat):List V→Nat→Sta→Option (List Prop×List V×Sta)
 |[],_,S=>some ([],[],S)
 |f::fs,i,S=>match f.leaf with
  |true=>match f.owned with
   |true=>match ownS S s with
    |some r=>match atR L T r (p++[i]) with
     |some (y,ps)=>match y.isH with
      |true=>match updS L T r (p++[i]) (.hole 1) with
       |some r'=>match takeFS s p fs (i+1) (modS S s r') with
        |some (qs,ys,S')=>some (ps++qs,y::ys,S')
        |none=>none
       |none=>none
      |false=>none
     |none=>none
    |none=>none
   |false=>match takeFS s p fs (i+1) S with
    |some (qs,ys,S')=>some (qs,f::ys,S')
    |none=>none
  |false=>match f with
   | .agg gs=>match takeF0 L T s (p++[i]) gs 0 S with
     |some (ps,zs,S1)=>match takeFS s p fs (i+1) S1 with
      |some (qs,ys,S')=>some (ps++qs,.agg zs::ys,S')
      |none=>none
     |none=>none
   |_=>none
def takeS (S:Sta):A→Option (List Prop×V×Sta)
 | .val x=>some ([],x,S)
 | .rf s _ p=>match ownS S s with
   |some r=>match p with
    |[]=>some ([],r,del s S)
    |i::q=>match r with
     | .tup fs=>match q with
       |[]=>match nthV fs i with
        |some y=>some ([],y,modS S s (.tup (fs.set i (.hole y.size))))
        |none=>none
       |_=>none
     |_=>match atR L T r p with
      |some (y,ps)=>match y.isH with
       |true=>match updS L T r p (.hole 1) with
        |some r'=>some (ps,y,modS S s r')
        |none=>none
       |false=>none
      |none=>none
   |none=>none
 | .ag s _ p fs=>match takeFS L T s p fs 0 S with
   |some (ps,ys,S')=>some (ps,.agg ys,S')
   |none=>none
 |_=>none
def wS (S:Sta) (o:Oper):Option (List Prop×Sta):=
 match o.guard with
 |some _=>none
 |none=>match o.op,o.dst with
  | .assign x,some d=>match opdS T S o.type x with
    |some (gx,.rf s _ p)=>match takeS L T S (.rf s 0 p) with
     |some (ps,y,S1)=>match y.isHole with
      |true=>none
      |false=>match p with
       |[]=>match nbeq s d with
        |true=>none
        |false=>some (geG L none gx++ps,putS (putS S1 d none (.val y)) s none (.rf d 0 []))
       |_=>match ownS S s with
        |some (.tup _)=>some (geG L none gx++ps,putS S1 d none (.val y))
        |_=>none
     |none=>none
    |some (gx,.val v)=>match v.owned&& !v.isHole with
     |true=>some (geG L none gx,putS S d none (.val v))
     |false=>none
    |_=>none
  | .store t x v,none=>match opdS T S t v with
    |some (gv,av)=>match takeS L T S av with
     |some (ps,y,S1)=>match fitT T t y&&y.solid&&nblt 0 y.size with
      |true=>match opdS T S1 0 x with
       |some (gx,.ad s _ p)=>match ownS S1 s with
        |some r=>match p,atRW L T r p,updS L T r p y with
         |_::_,some (z,qs),some r'=>match nbeq z.size y.size&&(z.isScalar&&y.isScalar|| !scalT T t) with
          |true=>some (geG L none gv++ps++geG L none gx++qs,match z.isScalar&&y.isScalar with
           |true=>modS S1 s r'
           |false=>modS (del' s S1) s r')
          |false=>none
         |_,_,_=>none
        |none=>none
       |some (gx,.rf s _ p)=>match ownS S1 s with
        |some r=>match atR L T r p,updS L T r (p++[0]) y with
         |some (.box _ z,qs),some r'=>match nbeq z.size y.size&&(z.isScalar&&y.isScalar|| !scalT T t) with
          |true=>some (geG L none gv++ps++geG L none gx++qs,match z.isScalar&&y.isScalar with
           |true=>modS S1 s r'
           |false=>modS (del' s S1) s r')
          |false=>none
         |_,_=>none
        |none=>none
       |_=>none
      |false=>none
     |none=>none
    |none=>none
  | .call ⟨.builtin .append,args,ats⟩,some d=>match args.toList,ats.toList with
    |[x,y],[t,t']=>match nbeq t t' with
     |true=>match elemT T t with
      |some e=>match opdS T S t x with
       |some (gx,ax)=>match takeS L T S ax with
        |some (ps,.slc true e' dd es,S1)=>match opdS T S1 t y with
         |some (gy,ay)=>match lookS L T S1 ay with
          |some (.slc oy ey _ es2,qs)=>match nbeq e e'&&nbeq e ey&&nblt 0 (tcells T e) with
           |true=>match oy&& !(scalT T e) with
            |false=>some (geG L none gx++ps++geG L none gy++qs++[L.nown es2,L.le (L.add (L.len es) (L.len es2)) 2147483647,L.solid es2],putS S1 d none (.val (.slc true e dd (L.app es es2))))
            |true=>match takeS L T S1 ay with
             |some (rs,.slc true _ _ es3,S2)=>some (geG L none gx++ps++geG L none gy++qs++rs++[L.le (L.add (L.len es) (L.len es3)) 2147483647,L.solid es3],putS S2 d none (.val (.slc true e dd (L.app es es3))))
             |_=>none
           |false=>none
          |_=>none
         |none=>none
        |_=>none
       |none=>none
      |none=>none
     |false=>none
    |_,_=>none
  |_,_=>none
abbrev IContract:=List V→Option (List Prop×V×V)
abbrev IBook:=List (FuncId×Nat×Bool×IContract)
def iget:IBook→FuncId→Option (Nat×Bool×IContract)
 |[],_=>none
 |(k,f)::l,t=>match nbeq k t with
  |true=>some f
  |false=>iget l t
def ioS (S:Sta):A→Option (List Prop×V×Sta×(V→Option Sta))
 | .rf s _ p=>match ownS S s with
   |some r=>match p with
    |[]=>match r.isH with
     |true=>some ([],r,del s S,fun y=>some (modS S s y))
     |false=>none
    |i::q=>match atR L T r (i::q) with
     |some (x,ps)=>match x.isH with
      |true=>match updS L T r (i::q) (.hole 1) with
       |some r1=>some (ps,x,modS S s r1,fun y=>match updS L T r (i::q) y with
        |some r2=>some (modS S s r2)
        |none=>none)
       |none=>none
      |false=>none
     |none=>none
   |none=>none
 | .ag s _ p fs=>match ownS S s with
   |some r=>match p with
    |[]=>none
    |i::q=>match atR L T r (i::q) with
     |some (.agg gs,ps)=>match agOk fs gs with
      |true=>match updS L T r (i::q) (.hole (V.sizes gs)) with
       |some r1=>some (ps,.agg (mrg fs gs),modS S s r1,fun y=>match y with
        | .agg xs=>match updS L T r (i::q) (.agg (mrgB fs gs xs)) with
          |some r2=>some (modS S s r2)
          |none=>none
        |_=>none)
       |none=>none
      |false=>none
     |_=>none
   |none=>none
 |_=>none
def iS (B:Book) (Bi:IBook) (S:Sta) (o:Oper):Option (List Prop×Sta):=
 match o.guard with
 |some _=>none
 |none=>match o.op with
  | .call ⟨.value (.func k),args,ats⟩=>match bget B k with
    |some _=>none
    |none=>match iget Bi k with
     |some (j,false,c)=>match getAt (j%1000) args.toList with
      |some x=>match opdS T S 0 x with
       |some (gx,a)=>match ioS L T S a with
        |some (ps,y,S1,back)=>match argsS L T S1 none (skipAt (j%1000) args.toList) (skipAt (j%1000) ats.toList) with
         |some (qs,vs,br)=>match c (insAt (j%1000) y vs) with
          |some (rs,r,y')=>match back y' with
           |some S2=>match (br&&(r.isFn||y'.isFn))||(jw j&& !(rootA a&&y.bare)) with
            |true=>none
            |false=>some (geG L none gx++ps++qs++rs++(match br with
             |true=>nofzS L r++nofzS L y'
             |false=>[]),match o.dst with
             |some d=>putS S2 d none (.val r)
             |none=>S2)
           |none=>none
          |none=>none
         |none=>none
        |none=>none
       |none=>none
      |none=>none
     |_=>none
  |_=>none
def vS (B:Book) (Bi:IBook) (S:Sta) (o:Oper):Option (List Prop×Sta):=
 match o.guard with
 |some _=>none
 |none=>match o.op with
  | .call ⟨.value (.func k),args,ats⟩=>match bget B k with
    |some _=>none
    |none=>match iget Bi k with
     |some (j,true,c)=>match getAt j args.toList with
      |some x=>match opdS T S (ats.toList.getD j 0) x with
       |some (gx,a)=>match takeS L T S a with
        |some (ps,y,S1)=>match argsS L T S1 none (skipAt j args.toList) (skipAt j ats.toList) with
         |some (qs,vs,br)=>match c (insAt j y vs) with
          |some (rs,r,_)=>match br&&r.isFn with
           |true=>none
           |false=>some (geG L none gx++ps++qs++rs++(match br with
            |true=>nofzS L r
            |false=>[]),match o.dst with
            |some d=>putS S1 d none (.val r)
            |none=>S1)
          |none=>none
         |none=>none
        |none=>none
       |none=>none
      |none=>none
     |_=>none
  |_=>none
def bS (S:Sta) (o:Oper):Option (List Prop×Sta):=
 match o.guard with
 |some _=>none
 |none=>match o.op,o.dst with
  | .box t x,some d=>match opdS T S t x with
    |some (gx,.rf s _ p)=>match p with
     |[]=>match ownS S s with
      |some (.agg fs)=>match !(nbeq s d)&&agOk fs fs with
       |true=>some (geG L none gx,putS (putS (del s S) d none (.val (.box t (.agg fs)))) s none (.ag d 0 [0] fs))
       |false=>none
      |_=>none
     |_=>none
    |_=>none
  |_,_=>none
def takesVS (ty:Nat→TypeId):Sta→List (Nat×Operand)→Option (List Prop×List (Nat×V)×Sta)
 |S,[]=>some ([],[],S)
 |S,(i,x)::xs=>match opdS T S (ty i) x with
  |some (gx,a)=>match takeS L T S a with
   |some (ps,y,S1)=>match y.isHole with
    |true=>none
    |false=>match takesVS ty S1 xs with
     |some (qs,vs,S2)=>some (geG L none gx++ps++qs,(i,y)::vs,S2)
     |none=>none
   |none=>none
  |none=>none
def mS (S:Sta) (o:Oper):Option (List Prop×Sta):=
 match o.guard with
 |some _=>none
 |none=>match o.op,o.dst with
  | .build t parts,some d=>match tget T t with
    |some ⟨.agg fts,_,.agg zs⟩=>match takesVS L T (ftyS fts) S parts.toList with
     |some (ps,vs,S1)=>match fillV zs vs with
      |some fs=>some (ps,putS S1 d none (.val (.agg fs)))
      |none=>none
     |none=>none
    |_=>none
  | .buildSlice t n parts,some d=>match elemT T t with
    |some e=>match tget T e,takesVS L T (fun _=>e) S parts.toList with
     |some ti,some (ps,vs,S1)=>match nble (n*ti.cells) 1048576&&nblt 0 n with
      |true=>match fillV (List.replicate n ti.zero) vs with
       |some es=>some (ps,putS S1 d none (.val (.slc true e ti.zero es)))
       |none=>none
      |false=>none
     |_,_=>none
    |none=>none
  |_,_=>none
def fS (S:Sta) (o:Oper):Option (List Prop×Sta):=
 match o.guard with
 |some _=>none
 |none=>match o.op,o.dst with
  | .slice st x lo hi mx,some d=>match opdS T S 0 x with
    |some (gx,.rf s _ p)=>match p with
     |[]=>match ownS S s with
      |some (.slc true e dd es)=>match elemT T st with
       |some e'=>match nbeq e e'&& !(nbeq s d)&&(hi.isSome|| !mx.isSome) with
        |true=>match boundS T S 0 lo,boundS T S (L.len es) hi,boundS T S (L.len es) mx with
         |some (gl,l),some (gh,h),some (gm,m)=>some (geG L none gx++geG L none gl++geG L none gh++geG L none gm++[L.le 0 l,L.le l h,L.le h m,L.le m (L.len es)],
          putS (putS (del s S) s none (.val (.slc false e dd.frz (L.frz es)))) d none (.val (.slc false e dd.frz (L.sli (L.frz es) l h))))
         |_,_,_=>none
        |false=>none
       |none=>none
      |_=>none
     |_=>none
    |_=>none
  |_,_=>none
def nthO:List Oper→Nat→Option Oper
 |[],_=>none
 |x::_,0=>some x
 |_::l,i+1=>nthO l i
def andG (L:Alg) (g:Option Bool) (b:Bool):Option Bool:=match g with
 |none=>some b
 |some a=>some (L.and a b)
def gdS (ops:List Oper) (S:Sta) (o:Oper):Option (Option Bool):=match o.guard with
 |none=>some none
 |some (j,want)=>match nthO ops j with
  |some o'=>match o'.dst with
   |some t=>match look S t with
    |some (g,.val (.bool b))=>match want with
     |true=>some (andG L g b)
     |false=>some (andG L g (L.not b))
    |_=>none
   |none=>none
  |none=>none
def kT:Op→Bool
 | .assign _=>true
 | .store _ _ _=>true
 | .call ⟨.builtin _,_,_⟩=>true
 |_=>false
def kLen:Op→Bool
 | .call ⟨.builtin .len,_,_⟩=>true
 | .call ⟨.builtin .min,_,_⟩=>true
 | .call ⟨.builtin .max,_,_⟩=>true
 |_=>false
def kScal (o:Oper):Bool:=match o.op with
 | .assign _=>scalT T o.type
 |_=>false
def kO (o:Oper):Bool:=kT o.op&& !kLen o.op&& !kScal T o
def opSt (lo:Nat) (st:Bool) (o:Oper):Bool:=(match o.dst with
    |some d=>nble lo d
    |none=>true)&&(!st||match o.op with
    | .store t _ _=>scalT T t
    | .call ⟨.builtin .append,_,_⟩=>false
    | .slice .. =>false
    |_=>true)
def opsSt (lo:Nat) (st:Bool):List Oper→Bool
 |[]=>true
 |o::l=>opSt T lo st o&&opsSt lo st l
def ownE:Option (Option Bool×A)→Bool
 |some (_,.val x)=>x.owned
 |_=>false
def stpS (B:Book) (n:Nat) (ops:List Oper) (S:Sta) (o:Oper):Option (List Prop×Sta):=
 match gdS L ops S o with
 |some g=>match o.dst with
  |some d=>match nblt d n with
   |true=>match lopS L T B S g o with
    |some (ps,a)=>match a.at0 d|| !kO T o&&ownE (look S d) with
     |true=>none
     |false=>some (ps,putS S d g a)
    |none=>match kO T o with
     |true=>wS L T S o
     |false=>none
   |false=>none
  |none=>wS L T S o
 |none=>none
def conj:List Prop→Prop→Prop
 |[],r=>r
 |p::l,r=>p∧conj l r
def evS (B:Book) (n:Nat) (ops:List Oper):List Oper→Sta→(Sta→Prop)→Prop
 |[],S,K=>K S
 |o::l,S,K=>match stpS L T B n ops S o with
  |some (ps,S')=>conj ps (evS B n ops l S' K)
  |none=>False
def stpL (B:Book) (Bi:IBook) (n:Nat) (ops:List Oper) (S:Sta) (o:Oper):Option (List Prop×Sta):=
 match gdS L ops S o with
 |some g=>match o.dst with
  |some d=>match nblt d n with
   |true=>match lopS L T B S g o with
    |some (ps,a)=>match a.at0 d with
     |true=>none
     |false=>some (ps,putS S d g a)
    |none=>match wS L T S o with
     |some r=>some r
     |none=>match iS L T B Bi S o with
      |some r=>some r
      |none=>match bS L T S o with
       |some r=>some r
       |none=>match mS L T S o with
        |some r=>some r
        |none=>match fS L T S o with
         |some r=>some r
         |none=>vS L T B Bi S o
   |false=>none
  |none=>match wS L T S o with
   |some r=>some r
   |none=>match iS L T B Bi S o with
    |some r=>some r
    |none=>match bS L T S o with
     |some r=>some r
     |none=>match mS L T S o with
      |some r=>some r
      |none=>match fS L T S o with
       |some r=>some r
       |none=>vS L T B Bi S o
 |none=>none
def nilS (S:Sta) (n:Nat) (o:Oper):Option (Nat×List Prop×List V×Bool×Bool):=
 match o.guard with
 |some _=>none
 |none=>match o.op,o.dst with
  | .binOp op xt x (.const (.slice none 0 0)) _,some d=>match isEqN op with
    |some ng=>match nblt d n with
     |true=>match elemT T xt,opdS T S xt x with
      |some _,some (gx,a)=>match lookS L T S a with
       |some (.slc oo _ dd es,ps)=>some (d,geG L none gx++ps,es,oo&&dd.isBox,ng)
       |_=>none
      |_,_=>none
     |false=>none
    |none=>none
  |_,_=>none
def zM (PS:List Nat) (o:Oper):Bool:=match o.op,o.dst with
 | .call ⟨.value (.func _),_,_⟩,some d=>memN PS (d+600)
 |_,_=>false
def stpZ (B:Book) (n:Nat) (ops:List Oper) (S:Sta) (o:Oper):Option (List Prop×Sta):=
 match gdS L ops S o with
 |some g=>match o.dst with
  |some d=>match nblt d n with
   |true=>match lopS L T B S g o with
    |some (ps,.val y)=>match y.owned with
     |true=>some (ps,putS (del d (putS S d g (.val y))) d g (.val (frzT L y)))
     |false=>none
    |_=>none
   |false=>none
  |none=>none
 |none=>none
def pfxN:List Nat→List Nat→Bool
 |[],_::_=>true
 |i::q,j::p=>match nbeq i j with
  |true=>pfxN q p
  |false=>false
 |_,[]=>false
def delK (d:Nat) (p:List Nat):Sta→Sta
 |[]=>[]
 |(k,g,a)::l=>match a.at0 d with
  |true=>match a with
   | .rf _ _ q=>match pfxN q p with
     |true=>(k,g,a)::delK d p l
     |false=>delK d p l
   |_=>delK d p l
  |false=>(k,g,a)::delK d p l
def kZ (PS:List Nat) (o:Oper):Bool:=match o.op,o.dst with
 | .store _ _ _,none=>memN PS 997
 |_,_=>false
def stpK (S:Sta) (o:Oper):Option (List Prop×Sta):=
 match o.guard with
 |some _=>none
 |none=>match o.op,o.dst with
  | .store t x v,none=>match opdS T S t v with
    |some (gv,av)=>match takeS L T S av with
     |some (ps,y,S1)=>match fitT T t y&&y.solid&&nblt 0 y.size with
      |true=>match opdS T S1 0 x with
       |some (gx,.ad s _ p)=>match ownS S1 s with
        |some r=>match p,atRW L T r p,updS L T r p y with
         |_::_,some (z,qs),some r'=>match nbeq z.size y.size&& !(z.isScalar&&y.isScalar) with
          |true=>some (geG L none gv++ps++geG L none gx++qs,modS (delK s p S1) s r')
          |false=>none
         |_,_,_=>none
        |none=>none
       |_=>none
      |false=>none
     |none=>none
    |none=>none
  |_,_=>none
def nM (PS:List Nat) (o:Oper):Bool:=match o.op,o.dst with
 | .assign _,some d=>memN PS (d+400)
 |_,_=>false
def stpN (B:Book) (Bi:IBook) (n:Nat) (ops:List Oper) (S:Sta) (o:Oper):Option (List Prop×Sta):=
 match o.op,o.dst with
 | .assign (.const (.slice none 0 0)),some d=>match o.guard with
   |some _=>none
   |none=>match nblt d n with
    |true=>match elemT T o.type with
     |some e=>some ([],putS S d none (.val (.slc true e V.nilG [])))
     |none=>none
    |false=>none
 |_,some d=>match stpL L T B Bi n ops S o with
  |some (ps,S1)=>match ownS S1 d with
   |some (.slc true e _ es)=>some (ps++[L.lt 0 (L.len es)],putS (del d S1) d none (.val (.slc true e V.nilG es)))
   |_=>none
  |none=>none
 |_,none=>none
def frzM (PS:List Nat):Sta→List Operand→Sta
 |S,[]=>S
 |S,.tmp t::l=>match memN PS (t+800) with
  |true=>match ownS S t with
   |some (.slc true e d es)=>frzM PS (putS (del t S) t none (.val (frzT L (.slc true e d es)))) l
   |_=>frzM PS S l
  |false=>frzM PS S l
 |S,_::l=>frzM PS S l
def opsIo:Op→List Operand
 | .call ⟨.value (.func _),args,_⟩=>args.toList
 |_=>[]
def giS (B:Book) (Bi:IBook) (n:Nat) (ops:List Oper) (S:Sta) (o:Oper):Option (Bool×List Prop×Sta×Sta):=
 match o.guard with
 |none=>none
 |some _=>match gdS L ops S o,o.dst with
  |some (some b),some d=>match nblt d n with
   |true=>match iS L T B Bi S {o with guard:=none} with
    |some (ps,S1)=>match look S1 d with
     |some (none,.val r)=>some (b,ps,S1,putS S d (some b) (.val r))
     |_=>none
    |none=>none
   |false=>none
  |_,_=>none
def rS (n:Nat) (S:Sta) (o:Oper):Option (List Prop×Sta):=match o.guard,o.op,o.dst with
 |none,.slice st x none (some hi) none,some d=>match opdS T S 0 x,intS T S hi,elemT T st with
  |some (gx,.rf s _ []),some (gi,m),some e=>match ownS S s with
   |some (.slc true e' dd es)=>match nbeq e e',dd.isBox,nblt d n with
    |true,false,true=>some (geG L none gx++geG L none gi++[L.le 0 m,L.le m (L.len es)],putS (del s S) d none (.val (.slc true e' dd (L.sli es 0 m))))
    |_,_,_=>none
   |_=>none
  |_,_,_=>none
 |_,_,_=>none
def rM (PS:List Nat) (o:Oper):Bool:=match o.op,o.dst with
 | .slice _ _ _ _ _,some d=>memN PS (d+300)
 |_,_=>false
def c2S (n:Nat) (S:Sta) (o o2:Oper):Option (List Prop×Sta):=match o.guard,o.op,o.dst,o2.guard,o2.op,o2.dst with
 |none,.slice st x (some lo) none none,some d,none,.call ⟨.builtin .clear,args,ats⟩,none=>match args.toList,ats.toList,opdS T S 0 x,intS T S lo,elemT T st with
  |[.tmp t],[ty],some (gx,.rf s _ []),some (gi,m),some e=>match ownS S s,tget T e with
   |some (.slc true e' dd es),some ti=>match nbeq e e'&&(nbeq ti.cells 1&&(nbeq t d&&(nbeq ty st&&(nblt d n&&(ti.zero.solid&& !(nbeq s d||dd.isBox)))))) with
    |true=>some (geG L none gx++geG L none gi++[L.le 0 m,L.le m (L.len es)],putS (putS (del s S) s none (.val (.slc true e' dd (L.app (L.sli es 0 m) (L.rep (L.sub (L.len es) m) (.hole 1)))))) d none (.val (.hole 1)))
    |false=>none
   |_,_=>none
  |_,_,_,_,_=>none
 |_,_,_,_,_,_=>none
def c2L (PS:List Nat) (n:Nat) (S:Sta) (o:Oper):List Oper→Option (List Prop×Sta)
 |o2::_=>match o.dst with
  |some d=>match memN PS (d+800) with
   |true=>c2S L T n S o o2
   |false=>none
  |none=>none
 |[]=>none
def evL (B:Book) (Bi:IBook) (PS:List Nat) (n:Nat) (ops:List Oper):List Oper→Sta→(Sta→Prop)→Prop
 |[],S,K=>K S
 |o::l,S,K=>match nilS L T S n o with
  |some (d,ps,es,xx,ng)=>conj ps (L.imp (L.eqI (L.len es) 0) (evL B Bi PS n ops l (putS S d none (.val (.bool (!ng)))) K)∧(match xx with
   |true=>L.imp (L.not (L.eqI (L.len es) 0)) (evL B Bi PS n ops l (putS S d none (.val (.bool ng))) K)
   |false=>evL B Bi PS n ops l (putS S d none (.val (.bool ng))) K))
  |none=>match giS L T B Bi n ops S o with
   |some (b,ps,S1,S0)=>L.imp b (conj ps (evL B Bi PS n ops l S1 K))∧L.imp (L.not b) (evL B Bi PS n ops l S0 K)
   |none=>match c2L L T PS n S o l with
    |some (ps,S')=>conj ps (match l with
     |_::l2=>evL B Bi PS n ops l2 S' K
     |[]=>False)
    |none=>match (match rM PS o with
     |true=>rS L T n S o
     |false=>match kZ PS o with
      |true=>stpK L T S o
      |false=>match zM PS o with
       |true=>stpZ L T B n ops S o
       |false=>match nM PS o with
        |true=>stpN L T B Bi n ops S o
        |false=>stpL L T B Bi n ops (frzM L PS S (opsIo o.op)) o) with
     |some (ps,S')=>conj ps (evL B Bi PS n ops l S' K)
     |none=>False
def pickN (lo:Nat):List Nat→List Nat
 |[]=>[]
 |x::l=>match nble lo x with
  |true=>match nblt x (lo+1000) with
   |true=>(x-lo)::pickN lo l
   |false=>pickN lo l
  |false=>match nble 1000000000 x with
   |true=>pickN lo l
   |false=>[]
def markOf (base:Nat) (ks:List Nat) (id:Nat):List Nat:=match ks with
 |[]=>[]
 |x::_=>match nble 1000000000 x with
  |true=>pickN (base+1000*id) ks
  |false=>[]
def psOf (ks:List Nat) (id:Nat):List Nat:=markOf 2000000000 ks id
def fzOf (ks:List Nat) (id:Nat):List Nat:=markOf 1000000000 ks id
def hdOf (ks:List Nat) (id:Nat):List Nat:=markOf 3000000000 ks id
def appS:List Oper→List Oper→List Oper
 |[],l=>l
 |x::k,l=>x::appS k l
def restS (H:List Nat):Nat→List Oper→List Oper
 |_,[]=>[]
 |i,o::l=>match memN H i with
  |true=>restS H (i+1) l
  |false=>o::restS H (i+1) l
def nthsS (ops:List Oper):List Nat→List Oper
 |[]=>[]
 |i::H=>match nthO ops i with
  |some o=>o::nthsS ops H
  |none=>nthsS ops H
def ordS (ops:List Oper) (H:List Nat):List Oper:=match H with
 |[]=>ops
 |i::H=>appS (nthsS ops (i::H)) (restS (i::H) 0 ops)
def fz1 (S:Sta) (s:Nat):Sta:=match ownS S s with
 |some (.slc true e d es)=>putS (del s S) s none (.val (.slc false e d.frz (L.frz es)))
 |some (.box e c)=>putS (del s S) s none (.val (.box e (frzT L c)))
 |_=>S
def fz2 (S:Sta) (s:Nat):Sta:=match ownS S s with
 |some (.box _ c)=>putS (del s S) s none (.val (.fn 1000000000 [frzT L c]))
 |_=>S
def ghN:V→V
 | .box _ _=> .int .i64 0
 |d=>d.frz
def gh1 (S:Sta) (s:Nat):Sta:=match ownS S s with
 |some (.slc true e d es)=>putS (del s S) s none (.val (.slc true e (ghN d) es))
 |_=>S
def gh2 (S:Sta) (s:Nat):Sta:=match ownS S s with
 |some (.box e (.agg (.slc true e' d es::fs)))=>putS (del s S) s none (.val (.box e (.agg (.slc true e' (ghN d) es::fs))))
 |_=>S
def fzL:List Nat→Sta→Sta
 |[],S=>S
 |s::l,S=>match nble 900 s with
  |true=>fzL l (fz2 L S (s-900))
  |false=>match nble 700 s with
   |true=>fzL l (gh2 S (s-700))
   |false=>match nble 500 s with
    |true=>fzL l (gh1 S (s-500))
    |false=>fzL l (fz1 L S s)
def kM (PS:List Nat) (o:Oper):Bool:=match o.op with
 | .assign (.tmp t)=>match memN PS t with
   |true=>false
   |false=>kO T o
 | .call ⟨.builtin .append,args,_⟩=>match args.toList,o.dst with
   |[.tmp t,_],some _=>match memN PS t with
    |true=>false
    |false=>kO T o
   |_,_=>kO T o
 | .call ⟨.value (.func _),_,_⟩=>memN PS 999||zM PS o||(memN PS 995&&(match o.dst with
   |some d=>memN PS (d+800)
   |none=>false))||(memN PS 996&&(match o.dst with
   |some d=>memN PS (d+700)
   |none=>false))
 |_=>kO T o
def sndL:List (Nat×Operand)→List Operand
 |[]=>[]
 |(_,x)::l=>x::sndL l
def opsL:Op→Option (List Operand)
 | .assign x=>some [x]
 | .build _ ps=>some (sndL ps.toList)
 | .buildSlice _ _ ps=>some (sndL ps.toList)
 | .call ⟨.builtin .append,args,_⟩=>some args.toList
 |_=>none
def plainS (S:Sta):Operand→Bool
 | .tmp t=>match look S t with
   |some (none,.val x)=> !x.owned
   |_=>false
 | .global _=>false
 |_=>true
def plainArgS (S:Sta):List Operand→Bool
 |[_,y]=>plainS S y
 |_=>false
def ownArgS (S:Sta):List Operand→List TypeId→Bool
 |[.tmp v,.tmp u],[t,_]=>(match look S u with
  |some (none,.val z)=>z.owned
  |_=>false)&& !(nbeq v u)&&(match elemT T t with
  |some e=>scalT T e
  |none=>false)
 |_,_=>false
def wholeS (PS:List Nat) (S:Sta):Operand→Bool
 | .tmp t=>match look S t with
   |some (none,.val x)=> !x.owned||memN PS t
   |_=>false
 | .global _=>false
 |_=>true
def wholesS (PS:List Nat) (S:Sta):List Operand→Bool
 |[]=>true
 |x::l=>wholeS PS S x&&wholesS PS S l
def pS (PS:List Nat) (S:Sta) (o:Oper):Option (List Prop×Sta):=
 match opsL o.op with
 |some l=>match wholesS PS S l with
  |true=>match o.guard with
   |some _=>none
   |none=>match o.op,o.dst with
    | .assign x,some d=>match opdS T S o.type x with
      |some (gx,a)=>match takeS L T S a with
       |some (ps,y,S1)=>match y.isHole with
        |true=>none
        |false=>some (geG L none gx++ps,putS S1 d none (.val y))
       |none=>none
      |none=>none
    | .call ⟨.builtin .append,args,ats⟩,some _=>match plainArgS S args.toList||ownArgS T S args.toList ats.toList with
      |true=>wS L T S o
      |false=>none
    |_,_=>mS L T S o
  |false=>none
 |none=>none
def refIn (PS:List Nat):A→Bool
 | .rf s _ _=>memN PS s
 | .ad s _ _=>memN PS s
 | .ag s _ _ _=>memN PS s
 |_=>false
def norefO (PS:List Nat) (S:Sta):Operand→Bool
 | .tmp t=>match look S t with
   |some (none,.val x)=> !x.owned|| !memN PS (t+800)
   |some (none,.fz _)=>true
   |some (none,.rf s _ _)=> !memN PS (s+800)
   |some (none,.ad s _ _)=> !memN PS (s+800)
   |_=>false
 | .global _=>false
 |_=>true
def norefS (PS:List Nat) (S:Sta):List Operand→Bool
 |[]=>true
 |x::l=>norefO PS S x&&norefS PS S l
def lateS (PS:List Nat) (S:Sta) (o:Oper):Bool:=match o.op with
 | .call ⟨.builtin .append,args,ats⟩=>match args.toList,ats.toList with
   |[.tmp tx,.tmp ty],[t,_]=>match look S tx,look S ty with
    |some (none,.rf s _ (_::_)),some (none,.val _)=>(match ownS S s with
     |some (.slc ..)=>true
     |some (.box ..)=>true
     |some (.agg ..)=>true
     |_=>false)&& !(nbeq s ty)&&memN PS (s+800)&&(match elemT T t with
     |some e=>scalT T e
     |none=>false)
    |_,_=>false
   |_,_=>false
 |_=>false
def lateStS (PS:List Nat) (S:Sta) (o:Oper):Bool:=match o.op with
 | .store _ (.tmp tx) (.tmp tv)=>match look S tv with
   |some (none,.val y)=> !y.owned&&(match look S tx with
    |some (none,.ad s _ _)=>memN PS (s+800)&&(match ownS S s with
     |some _=>true
     |none=>false)
    |some (none,.rf s _ _)=>memN PS (s+800)&&(match ownS S s with
     |some _=>true
     |none=>false)
    |some (none,.val _)=>memN PS (tx+800)&&(match ownS S tx with
     |some _=>true
     |none=>false)
    |_=>false)
   |_=>false
 |_=>false
def valsIo (S:Sta):List Operand→Bool
 |[]=>true
 | .tmp t::l=>(match look S t with
   |some (none,.val _)=>true
   |_=>false)&&valsIo S l
 |_::l=>valsIo S l
def lateIoS (Bi:IBook) (PS:List Nat) (S:Sta) (o:Oper):Bool:=match o.op with
 | .call ⟨.value (.func k),args,_⟩=>match iget Bi k with
   |some (j,false,_)=>match getAt (j%1000) args.toList with
    |some (.tmp x)=>(match look S x with
     |some (none,.val z)=>z.owned&&memN PS (x+800)
     |some (none,.rf s _ [])=>memN PS (s+800)
     |_=>false)&&valsIo S (skipAt (j%1000) args.toList)
    |_=>false
   |_=>false
 |_=>false
def stpW (B:Book) (Bi:IBook) (PS:List Nat) (n:Nat) (ops:List Oper) (S:Sta) (o:Oper) (d:Nat):Option (List Prop×Sta):=
 match o.guard,nblt d n with
 |none,true=>match kM T PS o with
  |true=>match lateS T PS S o with
   |true=>wS L T S o
   |false=>match lateIoS Bi PS (frzM L PS S (opsIo o.op)) o with
    |true=>iS L T B Bi (frzM L PS S (opsIo o.op)) o
    |false=>none
  |false=>match norefS PS S o.op.operands.toList with
   |true=>match lopS L T B S none o with
    |some (ps,a)=>match a.at0 d||refIn PS a||ownE (look S d) with
     |true=>none
     |false=>some (ps,putS S d none a)
    |none=>none
   |false=>none
 |_,_=>none
def stpM' (B:Book) (Bi:IBook) (PS:List Nat) (n:Nat) (ops:List Oper) (S:Sta) (o:Oper):Option (List Prop×Sta):=
 match gdS L ops S o with
 |some g=>match o.dst with
  |some d=>match nblt d n with
   |true=>match lopS L T B S g o with
    |some (ps,a)=>match zM PS o with
     |true=>match g,a with
      |none,.val y=>match y.owned with
       |true=>some (ps,putS (del d (putS S d none (.val y))) d none (.val (frzT L y)))
       |false=>none
      |_,_=>none
     |false=>match a.at0 d||refIn PS a|| !kM T PS o&&ownE (look S d) with
      |true=>none
      |false=>some (ps,putS S d g a)
    |none=>match kM T PS o with
     |true=>match wS L T S o with
      |some r=>some r
      |none=>vS L T B Bi S o
     |false=>match ownE (look S d) with
      |true=>none
      |false=>pS L T PS S o
   |false=>none
  |none=>wS L T S o
 |none=>none
def stpM (B:Book) (Bi:IBook) (PS:List Nat) (n:Nat) (ops:List Oper) (S:Sta) (o:Oper):Option (List Prop×Sta):=
 match o.dst with
 |some d=>match memN PS (d+800) with
  |true=>stpW L T B Bi PS n ops S o d
  |false=>stpM' L T B Bi PS n ops S o
 |none=>match memN PS 998 with
  |true=>match o.guard,kM T PS o&&lateStS PS S o with
   |none,true=>wS L T S o
   |_,_=>none
  |false=>stpM' L T B Bi PS n ops S o
def evP (B:Book) (Bi:IBook) (PS:List Nat) (n:Nat) (ops:List Oper):List Oper→Sta→(Sta→Prop)→Prop
 |[],S,K=>K S
 |o::l,S,K=>match stpM L T B Bi PS n ops S o with
  |some (ps,S')=>conj ps (evP B Bi PS n ops l S' K)
  |none=>False
def allOff:List Nat→Sta→Bool
 |[],_=>true
 |s::l,S=>(match look S s with
  |none=>true
  |some _=>false)&&allOff l S
abbrev PostS:=Exit→Sta→Prop
def thenS (next:Sta→Prop) (Q:PostS):PostS:=fun e S=>match e with
 | .normal=>next S
 |e=>Q e S
def blockS (id:Nat) (Q:PostS):PostS:=fun e S=>match e with
 | .exit id'=>match nbeq id' id with
   |true=>Q .normal S
   |false=>Q e S
 |e=>Q e S
abbrev LoopA:=Code→PostS→Sta→Prop
def wpS (lp:LoopA) (B:Book) (Bi:IBook) (n:Nat) (ks:List Nat):Code→PostS→Sta→Prop
 | .skip,Q,S=>Q .normal S
 | .seq x y,Q,S=>wpS lp B Bi n ks x (thenS (wpS lp B Bi n ks y Q) Q) S
 | .region id ops draw,Q,S=>match draw with
   |true=>match psOf ks id,hdOf ks id with
    |[],[]=>evS L T B n ops.toList ops.toList (fzL L (fzOf ks id) (keepS ks S)) (Q .normal)
    |ps,hs=>match allOff ps (fzL L (fzOf ks id) (keepS ks S)) with
     |true=>evP L T B Bi ps n ops.toList (ordS ops.toList hs) (fzL L (fzOf ks id) (keepS ks S)) (Q .normal)
     |false=>False
   |false=>evL L T B Bi (psOf ks id) n ops.toList ops.toList (fzL L (fzOf ks id) (keepS ks S)) (Q .normal)
 | .cond c x y,Q,S=>match opdS T S 0 c with
   |some (none,.val (.bool b))=>L.ifP b (wpS lp B Bi n ks x Q (keepS ks S)) (wpS lp B Bi n ks y Q (keepS ks S))
   |_=>False
 | .block id c,Q,S=>wpS lp B Bi n ks c (blockS id Q) S
 | .loop c,Q,S=>lp c Q (keepS ks S)
 | .exit id,Q,S=>Q (.exit id) S
 | .ret,Q,S=>Q .ret S
 |_,_,_=>False
def resS:List ResultVar→Sta→Option (List Prop×List V)
 |[],_=>some ([],[])
 | .tmp t::l,S=>match opdS T S 0 (.tmp t) with
   |some (gx,a)=>match takeS L T S a with
    |some (ps,y,S1)=>match resS l S1 with
     |some (qs,ys)=>some (geG L none gx++ps++qs,y::ys)
     |none=>none
    |none=>none
   |none=>none
 | .cell t ty::l,S=>match ownS S t with
   |some (.box _ c)=>match fitT T ty c with
    |true=>match resS l (del t S) with
     |some (qs,ys)=>some (qs,c::ys)
     |none=>none
    |false=>none
   |_=>none
def oneV:List V→V
 |[x]=>x
 |l=> .tup l
def retS (res:List ResultVar) (r:V):PostS:=fun e S=>match e with
 | .ret=>match resS L T res S with
   |some (ps,l)=>conj ps (oneV l=r)
   |none=>False
 | .normal=>match resS L T res S with
   |some (ps,l)=>conj ps (oneV l=r)
   |none=>False
 |_=>False
def argS:Nat→List V→Sta
 |_,[]=>[]
 |i,x::l=>(i,none,.val x)::argS (i+1) l
end
end Go.Ax
namespace Go.Ax
def stdV:Lv:={toI:=V.toI,toB:=V.toB,toS:=V.toS,toL:=V.toL,fld:=V.fld}
def OkS (T:Tab) (t:TypeId) (y:V):Prop:=vw stdV T true 20 t y=some y∨∃z,vw stdV T true 20 t y=some z∧y.size=z.size∧y.isScalar=z.isScalar
def std (T:Tab):Alg where
 v:=stdV
 wrap:=fun k n=>k.wrap n
 add:=fun a b=>a+b
 sub:=fun a b=>a-b
 mul:=fun a b=>a*b
 quo:=fun a b=>a.tdiv b
 rem:=fun a b=>a.tmod b
 band:=fun k a b=>bitAnd k a b
 shr:=fun k a b=>shiftR k a b
 imin:=fun a b=>min a b
 imax:=fun a b=>max a b
 eqI:=fun a b=>a==b
 leI:=fun a b=>decide (a≤b)
 ltI:=fun a b=>decide (a<b)
 eqB:=fun a b=>a==b
 not:=fun a=> !a
 and:=fun a b=>a&&b
 pick:=fun c a b=>bif c then a else b
 eqS:=fun a b=>a.toList==b.toList
 ltS:=fun a b=>Op.bytesLess a.toList b.toList
 appS:=fun a b=>a++b
 lenS:=fun a=>(a.size:Int)
 getS:=fun s n=>((s.data.getD n.toNat 0).toNat:Int)
 extS:=fun s l h=>s.extract l.toNat h.toNat
 len:=fun es=>(es.length:Int)
 get:=fun es i d=>es.getD i d
 set:=fun es i y=>es.set i y
 app:=fun a b=>a++b
 sli:=fun es l h=>(es.take h.toNat).drop l.toNat
 rep:=fun n z=>List.replicate n.toNat z
 frz:=V.frzs
 nat:=Int.toNat
 ltN:=fun i es=>i<es.length
 nofz:=fun es=>V.noFzs es=true
 nown:=fun es=>V.owneds es=false
 emp:=fun es=>es=[]
 ok:=fun o t y=>vw stdV T o 20 t y=some y
 okS:=fun t y=>OkS T t y
 solid:=fun es=>∀x∈es,x.solid=true
 le:=fun a b=>a≤b
 lt:=fun a b=>a<b
 ne0:=fun b=>b≠0
 imp:=fun b p=>b=true→p
 tt:=fun b=>b=true
 ifP:=fun b p q=>(b=true→p)∧(b=false→q)
 strB:=bytesV
 byt:=bytesOk
def fieldsOf (P:Program) (t:TypeId):Option (List (Nat×TypeId)):=match P.underlying t with
 |some (.struct fs)=>some (fs.toList.map fun x=>(x.offset,x.type))
 |_=>none
structure Got where
 zero:Option V
 agg:Option Bool
 cells:Nat
 int:Option IntKind
 elem:Option TypeId
 str:Bool
 bool:Bool
 fields:Option (List (Nat×TypeId))
 struct:Option (List V)
 small:Bool
def gotT (P:Program) (t:TypeId):Got:=
 {zero:=zeroOf P t,agg:=aggT P t,cells:=P.cellsOf t,int:=intT P t,elem:=elemOf P t,str:=isStr P t,bool:=boolT P t,fields:=fieldsOf P t,struct:=structOf P t,small:=decide (P.bytesOf t≤65536)}
def kAgg:TK→Bool
 | .agg _=>true
 |_=>false
def zsOf:V→Option (List V)
 | .agg zs=>some zs
 |_=>none
def wantT (ti:TI):Got:=
 {zero:=some ti.zero
  agg:=some (kAgg ti.k)
  cells:=ti.cells
  int:=match ti.k with
   | .int k=>some k
   |_=>none
  elem:=match ti.k with
   | .slc e=>some e
   |_=>none
  str:=match ti.k with
   | .str=>true
   |_=>false
  bool:=match ti.k with
   | .bool=>true
   |_=>false
  fields:=match ti.k with
   | .agg fs=>some fs
   |_=>none
  struct:=match ti.k with
   | .agg _=>zsOf ti.zero
   |_=>none
  small:=true}
def offsC (T:Tab):List (Nat×TypeId)→Nat→Option Nat
 |[],n=>some n
 |(o,t)::l,n=>match tget T t with
  |some ti=>if o=n∧ti.cells≠0 then offsC T l (n+ti.cells) else none
  |none=>none
def sameZ (e:TypeId):V→Bool
 | .slc true e' _ []=>nbeq e e'
 |_=>false
def chkTI (T:Tab) (ti:TI):Bool:=match ti.k with
 | .agg fs=>decide (offsC T fs 0=some ti.cells)
 | .slc e=>decide (ti.cells=1)&&(sameZ e ti.zero&&(match tget T e with
   |some te=>decide (te.cells≠0)
   |none=>false))
 |_=>decide (ti.cells=1)
def dZ:V→V
 | .slc _ _ d _=>d
 |x=>x
def wantD (T:Tab) (ti:TI):Option V:=match ti.k with
 | .slc e=>match tget T e with
   |some te=>some te.zero
   |none=>none
 |_=>some ti.zero
def gotD (ti:TI):Option V:=match ti.k with
 | .slc _=>some (dZ ti.zero)
 |_=>some ti.zero
structure TabOk (P:Program) (T:Tab):Prop where
 eq:(T.map fun x=>gotT P x.1)=T.map fun x=>wantT x.2
 chk:(T.all fun x=>chkTI T x.2)=true
 dz:(T.map fun x=>gotD x.2)=T.map fun x=>wantD T x.2
section
variable {P:Program} {T:Tab}
theorem tget_mem {T:Tab} {t:Nat} {ti:TI} (h:tget T t=some ti):(t,ti)∈T:=by
 induction T with
 |nil=>simp [tget] at h
 |cons x l ih=>
  obtain ⟨k,ti'⟩:=x
  simp only [tget] at h
  split at h
  ·rename_i hk
   simp only [Option.some.injEq] at h
   rw [nbeq_eq hk,h]
   simp
  ·exact List.mem_cons_of_mem _ (ih h)
theorem map_eq_mem {α β:Type} {f g:α→β}:∀{l:List α},l.map f=l.map g→∀x∈l,f x=g x
 |[],_,x,hx=>by simp at hx
 |y::l,h,x,hx=>by
  simp only [List.map_cons,List.cons.injEq] at h
  rcases List.mem_cons.1 hx with rfl|hx
  ·exact h.1
  ·exact map_eq_mem h.2 x hx
theorem TabOk.got (h:TabOk P T) {t:Nat} {ti:TI} (ht:tget T t=some ti):gotT P t=wantT ti:=map_eq_mem h.eq _ (tget_mem ht)
theorem TabOk.c (h:TabOk P T) {t:Nat} {ti:TI} (ht:tget T t=some ti):chkTI T ti=true:=by
 have:=List.all_eq_true.1 h.chk _ (tget_mem ht)
 exact this
theorem TabOk.zero (h:TabOk P T) {t:Nat} {ti:TI} (ht:tget T t=some ti):zeroOf P t=some ti.zero:=congrArg Got.zero (h.got ht)
theorem TabOk.agg (h:TabOk P T) {t:Nat} {ti:TI} (ht:tget T t=some ti):aggT P t=some (kAgg ti.k):=congrArg Got.agg (h.got ht)
theorem TabOk.cells (h:TabOk P T) {t:Nat} {ti:TI} (ht:tget T t=some ti):P.cellsOf t=ti.cells:=congrArg Got.cells (h.got ht)
theorem TabOk.small (h:TabOk P T) {t:Nat} {ti:TI} (ht:tget T t=some ti):P.bytesOf t≤65536:=by
 have:=congrArg Got.small (h.got ht)
 simpa [gotT,wantT] using this
theorem TabOk.elem (h:TabOk P T) {t e:Nat} (ht:elemT T t=some e):elemOf P t=some e:=by
 unfold elemT at ht
 split at ht
 ·rename_i hh
  simp only [Option.some.injEq] at ht
  subst ht
  exact congrArg Got.elem (h.got hh)
 ·cases ht
theorem TabOk.str (h:TabOk P T) {t:Nat} (ht:isStrT T t=true):isStr P t=true:=by
 unfold isStrT at ht
 split at ht
 ·rename_i hh;exact congrArg Got.str (h.got hh)
 ·cases ht
theorem TabOk.bool (h:TabOk P T) {t:Nat} (ht:isBoolT T t=true):boolT P t=true:=by
 unfold isBoolT at ht
 split at ht
 ·rename_i hh;exact congrArg Got.bool (h.got hh)
 ·cases ht
theorem TabOk.kind (h:TabOk P T) {t:Nat} {k:IntKind} (ht:kindT T t=some k):intT P t=some k:=by
 unfold kindT at ht
 split at ht
 ·rename_i hh
  simp only [Option.some.injEq] at ht
  subst ht
  exact congrArg Got.int (h.got hh)
 ·cases ht
theorem TabOk.fields (h:TabOk P T) {t:Nat} {fs:List (Nat×TypeId)} (ht:fieldsT T t=some fs):fieldsOf P t=some fs:=by
 unfold fieldsT at ht
 split at ht
 ·rename_i hh
  simp only [Option.some.injEq] at ht
  subst ht
  exact congrArg Got.fields (h.got hh)
 ·cases ht
theorem nthF_get (fs:List (Nat×TypeId)) (i:Nat):nthF fs i=fs[i]? :=by
 induction fs generalizing i with
 |nil=>simp [nthF]
 |cons x l ih=>cases i with
  |zero=>simp [nthF]
  |succ i=>simp [nthF,ih]
theorem nthV_get (fs:List V) (i:Nat):nthV fs i=fs[i]? :=by
 induction fs generalizing i with
 |nil=>simp [nthV]
 |cons x l ih=>cases i with
  |zero=>simp [nthV]
  |succ i=>simp [nthV,ih]
theorem nthO_get (fs:List Oper) (i:Nat):nthO fs i=fs[i]? :=by
 induction fs generalizing i with
 |nil=>simp [nthO]
 |cons x l ih=>cases i with
  |zero=>simp [nthO]
  |succ i=>simp [nthO,ih]
theorem fieldT_of {t f:Nat} {fs:List (Nat×TypeId)} (h:fieldsOf P t=some fs):fieldT P t f=nthF fs f:=by
 unfold fieldsOf at h
 unfold fieldT
 split at h
 ·rename_i x hx
  simp only [Option.some.injEq] at h
  subst h
  rw [hx,nthF_get]
  simp
 ·cases h
mutual
theorem vw_size (h:TabOk P T) (o:Bool):∀(n:Nat) (t:TypeId) (y z:V),vw stdV T o n t y=some z→z.size=tcells T t∧(∃ti,tget T t=some ti)∧fits P t z=true∧(∀fs,fieldsT T t=some fs→∃zs,z= .agg zs)∧(o=false→z.owned=false)∧z.isHole=false∧(∀fs,z≠.tup fs)
 |0,_,_,_,hv=>by simp [vw] at hv
 |n+1,t,y,z,hv=>by
  simp only [vw] at hv
  have one:∀{ti:TI},tget T t=some ti→kAgg ti.k=false→z.size=1→(∀fs,z≠.agg fs)→(∀fs,z≠.tup fs)→(∀n,z≠.hole n)→ti.cells=1→(o=false→z.owned=false)→(∀fs,ti.k≠.agg fs)→
   z.size=tcells T t∧(∃ti,tget T t=some ti)∧fits P t z=true∧(∀fs,fieldsT T t=some fs→∃zs,z= .agg zs)∧(o=false→z.owned=false)∧z.isHole=false∧(∀fs,z≠.tup fs):=by
   intro ti ht hk hs h1 h2 h3 hc ho hna
   refine ⟨by simp [tcells,ht,hs,hc],⟨ti,ht⟩,?_,fun fs hf=> ?_,ho,?_,h2⟩
   ·unfold fits
    rw [h.agg ht,hk,h.cells ht,hc,hs]
    cases z<;>simp_all
   ·unfold fieldsT at hf
    rw [ht] at hf
    split at hf
    ·rename_i e;simp only [Option.some.injEq] at e;subst e;exact absurd rfl (hna _)
    ·cases hf
   ·cases z<;>simp_all [V.isHole]
  split at hv
  ·rename_i k c zz ht
   simp only [Option.some.injEq] at hv;subst hv
   have:=h.c ht
   exact one ht rfl rfl (by simp) (by simp) (by simp) (by simpa [chkTI] using this) (fun _=>rfl) (by simp)
  ·rename_i c zz ht
   simp only [Option.some.injEq] at hv;subst hv
   have:=h.c ht
   exact one ht rfl rfl (by simp) (by simp) (by simp) (by simpa [chkTI] using this) (fun _=>rfl) (by simp)
  ·rename_i c zz ht
   simp only [Option.some.injEq] at hv;subst hv
   have:=h.c ht
   exact one ht rfl rfl (by simp) (by simp) (by simp) (by simpa [chkTI] using this) (fun _=>rfl) (by simp)
  ·rename_i e c _ _ d _ ht
   simp only [Option.some.injEq] at hv;subst hv
   have:=h.c ht
   simp only [chkTI,Bool.and_eq_true,decide_eq_true_eq] at this
   exact one ht rfl rfl (by simp) (by simp) (by simp) this.1 (fun h=>by simp [V.owned,h]) (by simp)
  ·rename_i fs c zz ht
   split at hv
   ·rename_i ys hys
    simp only [Option.some.injEq] at hv;subst hv
    have hc:=h.c ht
    simp only [chkTI,decide_eq_true_eq] at hc
    obtain ⟨e1,e2,_⟩:=vws_size h o n fs 0 y ys hys
    have hsz:=e1 0 c hc
    refine ⟨by simp only [V.size,tcells,ht];omega,⟨_,ht⟩,?_,fun fs' _=>⟨ys,rfl⟩,fun ho=>by simp only [V.owned];exact e2 ho,rfl,by simp⟩
    unfold fits
    rw [h.agg ht,h.cells ht]
    simp only [kAgg,Bool.true_and,V.size]
    simp;omega
   ·cases hv
  ·cases hv
theorem vws_size (h:TabOk P T) (o:Bool):∀(n:Nat) (fs:List (Nat×TypeId)) (i:Nat) (y:V) (ys:List V),vws stdV T o n fs i y=some ys→
 (∀k m,offsC T fs k=some m→k+V.sizes ys=m)∧(o=false→V.owneds ys=false)∧ys.length=fs.length
 |_,[],_,_,ys,hv=>by
  simp only [vws,Option.some.injEq] at hv
  subst hv
  exact ⟨fun k m h=>by simpa [offsC,V.sizes] using h,fun _=>rfl,rfl⟩
 |0,_::_,_,_,_,hv=>by simp [vws] at hv
 |n+1,(o',t)::fs,i,y,ys,hv=>by
  simp only [vws] at hv
  split at hv
  ·rename_i v hv1
   split at hv
   ·rename_i vs hv2
    simp only [Option.some.injEq] at hv
    subst hv
    obtain ⟨e1,⟨ti,e2⟩,_,_,e3,_⟩:=vw_size h o n t _ v hv1
    obtain ⟨f1,f2,f3⟩:=vws_size h o n fs (i+1) y vs hv2
    refine ⟨fun k m hm=> ?_,fun ho=>by simp [V.owneds,e3 ho,f2 ho],by simp [f3]⟩
    simp only [offsC,e2] at hm
    split at hm
    ·have:=f1 _ _ hm
     simp only [V.sizes,e1,tcells,e2]
     omega
    ·cases hm
   ·cases hv
  ·cases hv
end
end
end Go.Ax
namespace Go.Ax
def gb:Option Bool→Bool
 |none=>true
 |some b=>b
def vz (σ:Env):A→A
 | .rf s _ p=> .rf s (σ s).ver p
 | .ad s _ p=> .ad s (σ s).ver p
 | .ag s _ p fs=> .ag s (σ s).ver p fs
 |a=>a
structure Agr (S:Sta) (σ:Env):Prop where
 on:∀t g a,(t,g,a)∈S→(σ t).g=gb g∧(σ t).u=true∧(gb g=true→(σ t).a=vz σ a)
 off:∀t,(∀e,(t,e)∉S)→(σ t).owner=false
def Alls (ps:List Prop):Prop:=∀q∈ps,q
theorem alls_nil:Alls []:=fun _ h=>by simp at h
theorem alls_cons {p:Prop} {l:List Prop}:Alls (p::l)↔p∧Alls l:=by
 constructor
 ·exact fun h=>⟨h p (by simp),fun q hq=>h q (List.mem_cons_of_mem _ hq)⟩
 ·rintro ⟨h1,h2⟩ q hq
  rcases List.mem_cons.1 hq with rfl|hq
  ·exact h1
  ·exact h2 q hq
theorem alls_append {l l':List Prop}:Alls (l++l')↔Alls l∧Alls l':=by
 constructor
 ·exact fun h=>⟨fun q hq=>h q (List.mem_append.2 (.inl hq)),fun q hq=>h q (List.mem_append.2 (.inr hq))⟩
 ·exact fun h q hq=>(List.mem_append.1 hq).elim (h.1 q) (h.2 q)
section
variable {P:Program} {T:Tab} {S:Sta} {σ:Env}
theorem look_mem {t:Nat} {e:Option Bool×A} (h:look S t=some e):(t,e)∈S:=by
 induction S with
 |nil=>simp [look] at h
 |cons x l ih=>
  obtain ⟨k,e'⟩:=x
  simp only [look] at h
  split at h
  ·rename_i hk
   simp only [Option.some.injEq] at h
   rw [nbeq_eq hk,h]
   simp
  ·exact List.mem_cons_of_mem _ (ih h)
theorem look_none {t:Nat} (h:look S t=none):∀e,(t,e)∉S:=by
 induction S with
 |nil=>simp
 |cons x l ih=>
  obtain ⟨k,e'⟩:=x
  simp only [look] at h
  split at h
  ·cases h
  ·rename_i hk
   intro e he
   rcases List.mem_cons.1 he with he|he
   ·simp only [Prod.mk.injEq] at he
    obtain ⟨rfl,rfl⟩:=he
    rw [nbeq_refl] at hk
    cases hk
   ·exact ih h e he
theorem opdS_sound (hT:TabOk P T) (hA:Agr S σ) {ty:TypeId} {x:Operand} {g:Option Bool} {a:A} (h:opdS T S ty x=some (g,a)) (hg:gb g=true):opd P σ ty x=some (true,vz σ a):=by
 cases x with
 |tmp t=>
  simp only [opdS] at h
  split at h
  ·rename_i g' v hl
   obtain ⟨e1,_,e3⟩:=hA.on _ _ _ (look_mem hl)
   split at h
   ·rename_i ho
    simp only [Option.some.injEq,Prod.mk.injEq] at h
    obtain ⟨rfl,rfl⟩:=h
    have e3':(σ t).a= .val v:=e3 hg
    simp only [opd,e3',ho,if_true,e1,vz,hg]
   ·rename_i ho
    simp only [Option.some.injEq,Prod.mk.injEq] at h
    obtain ⟨rfl,rfl⟩:=h
    have e3':(σ t).a= .val v:=e3 hg
    simp [opd,e3',ho,e1,vz,hg]
  ·rename_i g' a' hn hl
   obtain ⟨e1,_,e3⟩:=hA.on _ _ _ (look_mem hl)
   simp only [Option.some.injEq,Prod.mk.injEq] at h
   obtain ⟨rfl,rfl⟩:=h
   cases a' with
   |val v=>exact absurd rfl (hn v)
   |_=>have e3':=e3 hg;simp only [vz] at e3' ⊢;simp [opd,e3',e1,hg]
  ·cases h
 |const v=>
  simp only [opdS] at h
  split at h
  ·rename_i x hx
   simp only [Option.some.injEq,Prod.mk.injEq] at h
   obtain ⟨rfl,rfl⟩:=h
   have:constV P ty v=some x:=by
    unfold constS at hx
    split at hx
    ·simpa [constV] using hx
    ·simpa [constV] using hx
    ·simpa [constV] using hx
    ·simpa [constV] using hx
    ·split at hx
     ·rename_i e c _ e' d es ht
      simp only [Option.some.injEq] at hx
      subst hx
      have hz:=hT.zero ht
      have hc:=hT.c ht
      simp only [chkTI,Bool.and_eq_true,decide_eq_true_eq] at hc
      have hc2:=hc.2.1
      unfold sameZ at hc2
      split at hc2
      ·rename_i heq
       simp only [V.slc.injEq] at heq
       obtain ⟨rfl,rfl,rfl,rfl⟩:=heq
       have:=nbeq_eq hc2
       subst this
       simp only [constV,isNilC,if_true,hz]
      ·cases hc2
     ·cases hx
    ·cases hx
   simp [opd,this,vz]
  ·cases h
 |func f=>
  simp only [opdS,Option.some.injEq,Prod.mk.injEq] at h
  obtain ⟨rfl,rfl⟩:=h
  rfl
 |global g=>simp [opdS] at h
theorem ownS_sound (hA:Agr S σ) {s:Nat} {r:V} (h:ownS S s=some r):σ.own s (σ s).ver=some r:=by
 unfold ownS at h
 split at h
 ·rename_i x hl
  split at h
  ·rename_i ho
   simp only [Option.some.injEq] at h
   subst h
   obtain ⟨e1,_,e3⟩:=hA.on _ _ _ (look_mem hl)
   exact Env.own_iff'.2 ⟨e1,rfl,e3 rfl,ho⟩
  ·cases h
 ·cases h
theorem imG_sound {g:Option Bool} {ps:List Prop} (h:Alls (imG (std T) g ps)) (hg:gb g=true):Alls ps:=by
 cases g with
 |none=>cases ps<;>simpa [imG] using h
 |some b=>
  have hb:b=true:=hg
  induction ps with
  |nil=>exact alls_nil
  |cons p l ih=>
   simp only [imG] at h
   rw [alls_cons] at h ⊢
   exact ⟨h.1 hb,ih h.2⟩
theorem geG_sound {g gx:Option Bool} (h:Alls (geG (std T) g gx)) (hg:gb g=true):gb gx=true:=by
 cases gx with
 |none=>rfl
 |some b=>
  cases g with
  |none=>simp only [geG,alls_cons] at h;exact h.1
  |some a=>simp only [geG,alls_cons] at h;exact h.1 hg
theorem atS_sound:∀(p:List Nat) (x y:V) (ps:List Prop),atS (std T) T x p=some (y,ps)→Alls ps→x.at p=y∧x.okp p
 |[],x,y,ps,h,_=>by
  simp only [atS,Option.some.injEq,Prod.mk.injEq] at h
  exact ⟨by simp only [V.at];exact h.1,trivial⟩
 |i::p,.slc o e d es,y,ps,h,hp=>by
  cases o with
  |false=>simp [atS] at h
  |true=>
   simp only [atS] at h
   split at h
   ·rename_i y' hv
    split at h
    ·rename_i z q hz
     simp only [Option.some.injEq,Prod.mk.injEq] at h
     obtain ⟨rfl,rfl⟩:=h
     rw [alls_cons,alls_cons] at hp
     obtain ⟨h1,h2,h3⟩:=hp
     have h2':vw stdV T (dO d) 20 e (es.getD i d)=some (es.getD i d):=h2
     have hv':vw stdV T (dO d) 20 e (es.getD i d)=some y':=hv
     rw [h2'] at hv'
     simp only [Option.some.injEq] at hv'
     subst hv'
     obtain ⟨e1,e2⟩:=atS_sound p _ _ _ hz h3
     exact ⟨by simp only [V.at,V.kid];exact e1,⟨⟨rfl,h1⟩,e2⟩⟩
    ·cases h
   ·cases h
 |i::p,.agg fs,y,ps,h,hp=>by
  simp only [atS] at h
  split at h
  ·rename_i z hz
   rw [nthV_get] at hz
   obtain ⟨e1,e2⟩:=atS_sound p _ _ _ h hp
   have hl:i<fs.length:=(List.getElem?_eq_some_iff.1 hz).1
   have:fs.getD i (.hole 0)=z:=getD_of_some hz
   exact ⟨by simp only [V.at,V.kid];rw [this];exact e1,⟨hl,by simp only [V.kid];rw [this];exact e2⟩⟩
  ·cases h
 |i::p,.box e c,y,ps,h,hp=>by
  cases i with
  |zero=>
   simp only [atS] at h
   obtain ⟨e1,e2⟩:=atS_sound p _ _ _ h hp
   exact ⟨by simp only [V.at,V.kid];exact e1,⟨trivial,e2⟩⟩
  |succ i=>simp [atS] at h
 |_::_,.int _ _,_,_,h,_=>by simp [atS] at h
 |_::_,.bool _,_,_,h,_=>by simp [atS] at h
 |_::_,.str _,_,_,h,_=>by simp [atS] at h
 |_::_,.tup _,_,_,h,_=>by simp [atS] at h
 |_::_,.fn _ _,_,_,h,_=>by simp [atS] at h
 |_::_,.hole _,_,_,h,_=>by simp [atS] at h
theorem updS_sound:∀(p:List Nat) (x y z r:V) (ps:List Prop),atS (std T) T x p=some (z,ps)→Alls ps→updS (std T) T x p y=some r→r=x.upd p y
 |[],x,y,z,r,ps,h,_,hu=>by
  simp only [updS,Option.some.injEq] at hu
  simp only [V.upd,hu]
 |i::p,.slc o e d es,y,z,r,ps,h,hp,hu=>by
  cases o with
  |false=>simp [atS] at h
  |true=>
   simp only [atS] at h
   split at h
   ·rename_i y' hv
    split at h
    ·rename_i z' q hz
     simp only [Option.some.injEq,Prod.mk.injEq] at h
     obtain ⟨rfl,rfl⟩:=h
     rw [alls_cons,alls_cons] at hp
     obtain ⟨h1,h2,h3⟩:=hp
     have h2':vw stdV T (dO d) 20 e (es.getD i d)=some (es.getD i d):=h2
     have hv':vw stdV T (dO d) 20 e (es.getD i d)=some y':=hv
     rw [h2'] at hv'
     simp only [Option.some.injEq] at hv'
     subst hv'
     simp only [updS,hv] at hu
     split at hu
     ·rename_i u hu'
      simp only [Option.some.injEq] at hu
      subst hu
      have:=updS_sound p _ y _ u _ hz h3 hu'
      simp only [V.upd,V.setKid,V.kid,this]
      rfl
     ·cases hu
    ·cases h
   ·cases h
 |i::p,.agg fs,y,z,r,ps,h,hp,hu=>by
  simp only [atS] at h
  split at h
  ·rename_i z' hz
   simp only [updS,hz] at hu
   split at hu
   ·rename_i u hu'
    simp only [Option.some.injEq] at hu
    subst hu
    rw [nthV_get] at hz
    have:=updS_sound p _ y _ u _ h hp hu'
    have hg:fs.getD i (.hole 0)=z':=getD_of_some hz
    simp only [V.upd,V.setKid,V.kid,hg,this]
   ·cases hu
  ·cases h
 |i::p,.box e c,y,z,r,ps,h,hp,hu=>by
  cases i with
  |zero=>
   simp only [atS] at h
   simp only [updS] at hu
   split at hu
   ·rename_i u hu'
    simp only [Option.some.injEq] at hu
    subst hu
    have:=updS_sound p _ y _ u _ h hp hu'
    simp only [V.upd,V.setKid,V.kid,this]
   ·cases hu
  |succ i=>simp [atS] at h
 |_::_,.int _ _,_,_,_,_,h,_,_=>by simp [atS] at h
 |_::_,.bool _,_,_,_,_,h,_,_=>by simp [atS] at h
 |_::_,.str _,_,_,_,_,h,_,_=>by simp [atS] at h
 |_::_,.tup _,_,_,_,_,h,_,_=>by simp [atS] at h
 |_::_,.fn _ _,_,_,_,_,h,_,_=>by simp [atS] at h
 |_::_,.hole _,_,_,_,_,h,_,_=>by simp [atS] at h
theorem atW_sound:∀(p:List Nat) (x y:V) (ps:List Prop),atW (std T) T x p=some (y,ps)→Alls ps→((x.at p).size=y.size∧(x.at p).isScalar=y.isScalar)∧x.okp p∧∀u r,updS (std T) T x p u=some r→r=x.upd p u
 |[],x,y,ps,h,_=>by
  simp only [atW,Option.some.injEq,Prod.mk.injEq] at h
  obtain ⟨rfl,rfl⟩:=h
  refine ⟨⟨by simp only [V.at],by simp only [V.at]⟩,trivial,fun u r hu=> ?_⟩
  simp only [updS,Option.some.injEq] at hu
  simp only [V.upd,hu]
 |[i],.slc o e d es,y,ps,h,hp=>by
  cases o with
  |false=>simp [atW] at h
  |true=>
   simp only [atW] at h
   split at h
   ·rename_i y' hv
    have hv':vw stdV T (dO d) 20 e (es.getD i d)=some y':=hv
    have key:∀{q:List Prop},Alls ((std T).ltN i es::q)→i<es.length:=fun h=>(alls_cons.1 h).1
    have upd:∀u r,updS (std T) T (.slc true e d es) [i] u=some r→r=V.upd (.slc true e d es) [i] u:=by
     intro u r hu
     simp only [updS,hv] at hu
     simp only [Option.some.injEq] at hu
     subst hu
     simp only [V.upd,V.setKid,V.kid]
     rfl
    split at h
    ·simp only [Option.some.injEq,Prod.mk.injEq] at h
     obtain ⟨rfl,rfl⟩:=h
     have h2':vw stdV T (dO d) 20 e (es.getD i d)=some (es.getD i d):=(alls_cons.1 (alls_cons.1 hp).2).1
     rw [h2'] at hv'
     simp only [Option.some.injEq] at hv'
     subst hv'
     exact ⟨⟨by simp only [V.at,V.kid],by simp only [V.at,V.kid]⟩,⟨⟨rfl,key hp⟩,trivial⟩,upd⟩
    ·rename_i hsd
     have hdo:dO d=true:=by
      simp only [Bool.or_eq_false_iff,Bool.not_eq_false'] at hsd
      exact hsd.2
     rw [hdo] at hv'
     simp only [Option.some.injEq,Prod.mk.injEq] at h
     obtain ⟨rfl,rfl⟩:=h
     have h2:OkS T e (es.getD i d):=(alls_cons.1 (alls_cons.1 hp).2).1
     refine ⟨?_,⟨⟨rfl,key hp⟩,trivial⟩,upd⟩
     rcases h2 with h2|⟨z,h2,h3,h4⟩
     ·rw [h2] at hv'
      simp only [Option.some.injEq] at hv'
      subst hv'
      exact ⟨by simp only [V.at,V.kid],by simp only [V.at,V.kid]⟩
     ·rw [h2] at hv'
      simp only [Option.some.injEq] at hv'
      subst hv'
      exact ⟨by simp only [V.at,V.kid];exact h3,by simp only [V.at,V.kid];exact h4⟩
   ·cases h
 |i::j::p,.slc o e d es,y,ps,h,hp=>by
  cases o with
  |false=>simp [atW] at h
  |true=>
   simp only [atW] at h
   split at h
   ·rename_i y' hv
    split at h
    ·rename_i z q hz
     simp only [Option.some.injEq,Prod.mk.injEq] at h
     obtain ⟨rfl,rfl⟩:=h
     rw [alls_cons,alls_cons] at hp
     obtain ⟨h1,h2,h3⟩:=hp
     have h2':vw stdV T (dO d) 20 e (es.getD i d)=some (es.getD i d):=h2
     have hv':vw stdV T (dO d) 20 e (es.getD i d)=some y':=hv
     rw [h2'] at hv'
     simp only [Option.some.injEq] at hv'
     subst hv'
     obtain ⟨e1,e2,e3⟩:=atW_sound (j::p) _ _ _ hz h3
     refine ⟨by rw [show V.at (.slc true e d es) (i::j::p)=V.at (es.getD i d) (j::p) by simp only [V.at,V.kid]];exact e1,⟨⟨rfl,h1⟩,e2⟩,fun u r hu=> ?_⟩
     rw [updS,hv] at hu
     dsimp only at hu
     split at hu
     ·rename_i u' hu'
      simp only [Option.some.injEq] at hu
      subst hu
      have:=e3 _ _ hu'
      rw [V.upd]
      simp only [V.setKid,V.kid,←this]
      rfl
     ·cases hu
    ·cases h
   ·cases h
 |i::p,.agg fs,y,ps,h,hp=>by
  simp only [atW] at h
  split at h
  ·rename_i z hz
   have hz0:=hz
   rw [nthV_get] at hz
   obtain ⟨e1,e2,e3⟩:=atW_sound p _ _ _ h hp
   have hl:i<fs.length:=(List.getElem?_eq_some_iff.1 hz).1
   have hg:fs.getD i (.hole 0)=z:=getD_of_some hz
   refine ⟨by simp only [V.at,V.kid];rw [hg];exact e1,⟨hl,by simp only [V.kid];rw [hg];exact e2⟩,fun u r hu=> ?_⟩
   simp only [updS,hz0] at hu
   split at hu
   ·rename_i u' hu'
    simp only [Option.some.injEq] at hu
    subst hu
    have:=e3 _ _ hu'
    simp only [V.upd,V.setKid,V.kid,hg,this]
   ·cases hu
  ·cases h
 |i::p,.box e c,y,ps,h,hp=>by
  cases i with
  |zero=>
   simp only [atW] at h
   obtain ⟨e1,e2,e3⟩:=atW_sound p _ _ _ h hp
   refine ⟨by simp only [V.at,V.kid];exact e1,⟨trivial,e2⟩,fun u r hu=> ?_⟩
   simp only [updS] at hu
   split at hu
   ·rename_i u' hu'
    simp only [Option.some.injEq] at hu
    subst hu
    have:=e3 _ _ hu'
    simp only [V.upd,V.setKid,V.kid,this]
   ·cases hu
  |succ i=>simp [atW] at h
 |_::_,.int _ _,_,_,h,_=>by simp [atW] at h
 |_::_,.bool _,_,_,h,_=>by simp [atW] at h
 |_::_,.str _,_,_,h,_=>by simp [atW] at h
 |_::_,.tup _,_,_,h,_=>by simp [atW] at h
 |_::_,.fn _ _,_,_,h,_=>by simp [atW] at h
 |_::_,.hole _,_,_,h,_=>by simp [atW] at h
theorem atRW_sound {i:Nat} {p:List Nat} {r y:V} {ps:List Prop} (h:atRW (std T) T r (i::p)=some (y,ps)) (hp:Alls ps):((r.at (i::p)).size=y.size∧(r.at (i::p)).isScalar=y.isScalar)∧r.okm (i::p)∧∀u r',updS (std T) T r (i::p) u=some r'→r'=r.upd (i::p) u:=by
 unfold atRW at h
 dsimp only at h
 split at h
 ·cases h
 ·cases h
 ·rename_i n1 n2
  obtain ⟨e1,e2,e3⟩:=atW_sound _ _ _ _ h hp
  refine ⟨e1,?_,e3⟩
  cases r with
  |agg fs=>exact absurd rfl (n1 fs)
  |_=>exact e2
theorem atR_sound {p:List Nat} {r y:V} {ps:List Prop} (h:atR (std T) T r p=some (y,ps)) (hp:Alls ps):r.at p=y∧(p=[]∨(r.okm p∧(∀fs,r≠.tup fs)∧(∀fs,r≠.agg fs)∧atS (std T) T r p=some (y,ps))):=by
 unfold atR at h
 split at h
 ·simp only [Option.some.injEq,Prod.mk.injEq] at h
  exact ⟨by simp only [V.at];exact h.1,.inl rfl⟩
 ·rename_i i q
  split at h
  ·cases h
  ·cases h
  ·rename_i n1 n2
   obtain ⟨e1,e2⟩:=atS_sound _ _ _ _ h hp
   refine ⟨e1,.inr ⟨?_,n2,n1,h⟩⟩
   cases r with
   |agg fs=>exact absurd rfl (n1 fs)
   |_=>exact e2
end
end Go.Ax
namespace Go.Ax
def phi (B:Book):FuncId→List V→Option (Prop×V×List V):=fun k args=>match bget B k with
 |some f=>match f args with
  |some (ps,r)=>some (Alls ps,r,[])
  |none=>none
 |none=>none
section
variable {C:Ctx} {T:Tab} {S:Sta} {σ:Env} {B:Book}
theorem lookS_sound (hA:Agr S σ) {a:A} {v:V} {ps:List Prop} (h:lookS (std T) T S a=some (v,ps)) (hp:Alls ps):(vz σ a).look σ=some v∧(vz σ a).okA σ∧(vz σ a).isAg=false:=by
 cases a with
 |val x=>
  simp only [lookS,Option.some.injEq,Prod.mk.injEq] at h
  obtain ⟨rfl,_⟩:=h
  exact ⟨rfl,trivial,rfl⟩
 |rf s ver p=>
  simp only [lookS] at h
  split at h
  ·rename_i r hr
   have ho:=ownS_sound hA hr
   split at h
   ·simp only [Option.some.injEq,Prod.mk.injEq] at h
    obtain ⟨rfl,_⟩:=h
    exact ⟨by simp [vz,A.look,ho,V.at],by simp only [vz,A.okA,ho];cases r<;>trivial,rfl⟩
   ·rename_i i q
    split at h
    ·rename_i fs
     split at h
     ·split at h
      ·rename_i y hy
       simp only [Option.some.injEq,Prod.mk.injEq] at h
       obtain ⟨rfl,_⟩:=h
       rw [nthV_get] at hy
       have hl:i<fs.length:=(List.getElem?_eq_some_iff.1 hy).1
       exact ⟨by simp [vz,A.look,ho,V.at,V.kid,hy],by simp only [vz,A.okA,ho];exact hl,rfl⟩
      ·cases h
     ·cases h
    ·rename_i hn
     split at h
     ·rename_i y ps' hy
      split at h
      ·rename_i hH
       simp only [Option.some.injEq,Prod.mk.injEq] at h
       obtain ⟨rfl,rfl⟩:=h
       obtain ⟨e1,e2⟩:=atR_sound hy hp
       rcases e2 with e2|⟨e2,e3,e4,_⟩
       ·cases e2
       ·refine ⟨by simp [vz,A.look,ho,e1],?_,rfl⟩
        simp only [vz,A.okA,ho]
        unfold V.okr
        split
        ·trivial
        ·exact absurd rfl (e3 _)
        ·exact ⟨e2,by rw [e1];exact hH⟩
      ·cases h
     ·cases h
  ·cases h
 |ad=>simp [lookS] at h
 |fz=>simp [lookS] at h
 |ag=>simp [lookS] at h
mutual
theorem frzS_eq:∀x:V,frzS (std T) x=x.frz
 | .int _ _=>rfl
 | .bool _=>rfl
 | .str _=>rfl
 | .slc _ _ _ _=>rfl
 | .agg fs=>by simp only [frzS,V.frz];rw [frzsS_eq fs]
 | .tup fs=>by simp only [frzS,V.frz];rw [frzsS_eq fs]
 | .box _ c=>by simp only [frzS,V.frz];rw [frzS_eq c]
 | .fn _ _=>rfl
 | .hole _=>rfl
theorem frzsS_eq:∀xs:List V,frzS.frzsS (std T) xs=V.frzs xs
 |[]=>rfl
 |x::l=>by simp only [frzS.frzsS,V.frzs];rw [frzS_eq x,frzsS_eq l]
end
mutual
theorem nofzS_sound:∀x:V,Alls (nofzS (std T) x)→x.isFn=false→x.noFz=true
 | .int _ _,_,_=>rfl
 | .bool _,_,_=>rfl
 | .str _,_,_=>rfl
 | .slc true _ _ es,h,_=>by
   simp only [nofzS,alls_cons] at h
   have h1:V.noFzs es=true:=h.1
   simp [V.noFz,h1]
 | .slc false _ _ es,h,_=>by
   simp only [nofzS,alls_cons] at h
   have h1:es=[]:=h.1
   subst h1
   simp [V.noFz,V.noFzs]
 | .agg fs,h,h'=>by simp only [V.noFz];exact nofzsS_sound fs h h'
 | .tup fs,h,h'=>by simp only [V.noFz];exact nofzsS_sound fs h h'
 | .box _ _,_,h=>by simp [V.isFn] at h
 | .fn _ _,_,h=>by simp [V.isFn] at h
 | .hole _,_,_=>rfl
theorem nofzsS_sound:∀xs:List V,Alls (nofzS.nofzsS (std T) xs)→V.areFn xs=false→V.noFzs xs=true
 |[],_,_=>rfl
 |x::l,h,h'=>by
  simp only [nofzS.nofzsS,alls_append] at h
  simp only [V.areFn,Bool.or_eq_false_iff] at h'
  simp only [V.noFzs,Bool.and_eq_true]
  exact ⟨nofzS_sound x h.1 h'.1,nofzsS_sound l h.2 h'.2⟩
end
theorem lookF0_sound {r:V} {p:List Nat}:∀(fs:List V) (i:Nat) (ys:List V) (ps:List Prop),lookF0 (std T) T r p fs i=some (ys,ps)→Alls ps→
 V.cpvs (fun q=>r.at q) fs p i=ys∧V.cpoks (fun q=>r.okm q∧(r.at q).isH=true) fs p i
 |[],i,ys,ps,h,_=>by
  simp only [lookF0,Option.some.injEq,Prod.mk.injEq] at h
  obtain ⟨rfl,_⟩:=h
  exact ⟨rfl,trivial⟩
 |f::fs,i,ys,ps,h,hp=>by
  simp only [lookF0] at h
  split at h
  ·rename_i hlf
   split at h
   ·rename_i hfo
    split at h
    ·rename_i y qs hy
     split at h
     ·rename_i hH
      split at h
      ·rename_i zs rs hz
       simp only [Option.some.injEq,Prod.mk.injEq] at h
       obtain ⟨rfl,rfl⟩:=h
       rw [alls_append] at hp
       obtain ⟨e1,e2⟩:=lookF0_sound fs (i+1) zs rs hz hp.2
       obtain ⟨a1,a2⟩:=atR_sound hy hp.1
       have a3:r.okm (p++[i]):=by
        rcases a2 with a2|⟨a2,_⟩
        ·simp at a2
        ·exact a2
       have a4:(r.at (p++[i])).isH=true:=by rw [a1];exact hH
       have b1:V.cpv (fun q=>r.at q) f (p++[i])=y:=by
        rw [←a1]
        cases f<;>first|(simp [V.leaf] at hlf;done)|(simp [V.owned] at hfo;done)|(simp only [V.owned] at hfo;simp [V.cpv,hfo])|rfl
       have b2:V.cpok (fun q=>r.okm q∧(r.at q).isH=true) f (p++[i]):=by
        cases f<;>first|(simp [V.leaf] at hlf;done)|(simp [V.owned] at hfo;done)|(simp only [V.owned] at hfo;simp only [V.cpok,hfo];exact ⟨a3,a4⟩)|exact ⟨a3,a4⟩
       exact ⟨by simp only [V.cpvs,b1,e1],b2,e2⟩
      ·cases h
     ·cases h
    ·cases h
   ·rename_i hfo
    split at h
    ·rename_i zs rs hz
     simp only [Option.some.injEq,Prod.mk.injEq] at h
     obtain ⟨rfl,rfl⟩:=h
     obtain ⟨e1,e2⟩:=lookF0_sound fs (i+1) zs rs hz hp
     have b1:V.cpv (fun q=>r.at q) f (p++[i])=f:=by
      cases f<;>first|(simp [V.leaf] at hlf;done)|(simp [V.owned] at hfo;done)|(simp only [V.owned] at hfo;simp [V.cpv,hfo])|rfl
     have b2:V.cpok (fun q=>r.okm q∧(r.at q).isH=true) f (p++[i]):=by
      cases f<;>first|(simp [V.leaf] at hlf;done)|(simp [V.owned] at hfo;done)|(simp only [V.owned] at hfo;simp [V.cpok,hfo])|trivial
     exact ⟨by simp only [V.cpvs,b1,e1],b2,e2⟩
    ·cases h
  ·cases h
theorem lookFS_sound {r:V} {p:List Nat}:∀(fs:List V) (i:Nat) (ys:List V) (ps:List Prop),lookFS (std T) T r p fs i=some (ys,ps)→Alls ps→
 V.cpvs (fun q=>r.at q) fs p i=ys∧V.cpoks (fun q=>r.okm q∧(r.at q).isH=true) fs p i
 |[],i,ys,ps,h,_=>by
  simp only [lookFS,Option.some.injEq,Prod.mk.injEq] at h
  obtain ⟨rfl,_⟩:=h
  exact ⟨rfl,trivial⟩
 |f::fs,i,ys,ps,h,hp=>by
  simp only [lookFS] at h
  split at h
  ·rename_i hlf
   split at h
   ·rename_i hfo
    split at h
    ·rename_i y qs hy
     split at h
     ·rename_i hH
      split at h
      ·rename_i zs rs hz
       simp only [Option.some.injEq,Prod.mk.injEq] at h
       obtain ⟨rfl,rfl⟩:=h
       rw [alls_append] at hp
       obtain ⟨e1,e2⟩:=lookFS_sound fs (i+1) zs rs hz hp.2
       obtain ⟨a1,a2⟩:=atR_sound hy hp.1
       have a3:r.okm (p++[i]):=by
        rcases a2 with a2|⟨a2,_⟩
        ·simp at a2
        ·exact a2
       have a4:(r.at (p++[i])).isH=true:=by rw [a1];exact hH
       have b1:V.cpv (fun q=>r.at q) f (p++[i])=y:=by
        rw [←a1]
        cases f<;>first|(simp [V.leaf] at hlf;done)|(simp [V.owned] at hfo;done)|(simp only [V.owned] at hfo;simp [V.cpv,hfo])|rfl
       have b2:V.cpok (fun q=>r.okm q∧(r.at q).isH=true) f (p++[i]):=by
        cases f<;>first|(simp [V.leaf] at hlf;done)|(simp [V.owned] at hfo;done)|(simp only [V.owned] at hfo;simp only [V.cpok,hfo];exact ⟨a3,a4⟩)|exact ⟨a3,a4⟩
       exact ⟨by simp only [V.cpvs,b1,e1],b2,e2⟩
      ·cases h
     ·cases h
    ·cases h
   ·rename_i hfo
    split at h
    ·rename_i zs rs hz
     simp only [Option.some.injEq,Prod.mk.injEq] at h
     obtain ⟨rfl,rfl⟩:=h
     obtain ⟨e1,e2⟩:=lookFS_sound fs (i+1) zs rs hz hp
     have b1:V.cpv (fun q=>r.at q) f (p++[i])=f:=by
      cases f<;>first|(simp [V.leaf] at hlf;done)|(simp [V.owned] at hfo;done)|(simp only [V.owned] at hfo;simp [V.cpv,hfo])|rfl
     have b2:V.cpok (fun q=>r.okm q∧(r.at q).isH=true) f (p++[i]):=by
      cases f<;>first|(simp [V.leaf] at hlf;done)|(simp [V.owned] at hfo;done)|(simp only [V.owned] at hfo;simp [V.cpok,hfo])|trivial
     exact ⟨by simp only [V.cpvs,b1,e1],b2,e2⟩
    ·cases h
  ·split at h
   ·rename_i gs _
    split at h
    ·rename_i zs qs hz0
     split at h
     ·rename_i ys' rs hz
      simp only [Option.some.injEq,Prod.mk.injEq] at h
      obtain ⟨rfl,rfl⟩:=h
      rw [alls_append] at hp
      obtain ⟨d1,d2⟩:=lookF0_sound gs 0 zs qs hz0 hp.1
      obtain ⟨e1,e2⟩:=lookFS_sound fs (i+1) ys' rs hz hp.2
      exact ⟨by simp only [V.cpvs,V.cpv,d1,e1],d2,e2⟩
     ·cases h
    ·cases h
   ·cases h
theorem lookAS_sound (hA:Agr S σ) {a:A} {v:V} {ps:List Prop} (h:lookAS (std T) T S a=some (v,ps)) (hp:Alls ps):(vz σ a).look σ=some v∧(vz σ a).okA σ∧(vz σ a).isAg=a.isAg:=by
 cases a with
 |ag s ver p fs=>
  simp only [lookAS] at h
  split at h
  ·rename_i r hr
   have ho:=ownS_sound hA hr
   split at h
   ·rename_i ys qs hl
    simp only [Option.some.injEq,Prod.mk.injEq] at h
    obtain ⟨rfl,rfl⟩:=h
    obtain ⟨e1,e2⟩:=lookFS_sound fs 0 ys qs hl hp
    exact ⟨by simp only [vz,A.look,ho,Option.map_some,V.cpv,e1],by simp only [vz,A.okA,ho,V.cpok];exact e2,rfl⟩
   ·cases h
  ·cases h
 |_=>
  simp only [lookAS] at h
  obtain ⟨l1,l2,l3⟩:=lookS_sound hA h hp
  exact ⟨l1,l2,l3⟩
theorem argsS_sound (hT:TabOk C.P T) (hA:Agr S σ) {g:Option Bool} (hg:gb g=true):∀{xs:List Operand} {ts:List TypeId} {ps:List Prop} {vs:List V} {br:Bool},argsS (std T) T S g xs ts=some (ps,vs,br)→Alls ps→
 ∃p,looks C.P σ true xs ts=some (p,vs,br)∧p
 |[],_,ps,vs,br,h,_=>by
  simp only [argsS,Option.some.injEq,Prod.mk.injEq] at h
  obtain ⟨_,rfl,rfl⟩:=h
  exact ⟨True,rfl,trivial⟩
 |x::xs,ts,ps,vs,br,h,hp=>by
  simp only [argsS] at h
  split at h
  ·rename_i gx a h1
   split at h
   ·rename_i v qs h2
    split at h
    ·rename_i rs vs' br' h3
     simp only [Option.some.injEq,Prod.mk.injEq] at h
     obtain ⟨rfl,rfl,rfl⟩:=h
     rw [alls_append,alls_append] at hp
     have o1:=opdS_sound hT hA h1 (geG_sound hp.1.1 hg)
     obtain ⟨l1,l2,l3⟩:=lookAS_sound hA h2 (imG_sound hp.1.2 hg)
     obtain ⟨p,e1,e2⟩:=argsS_sound hT hA hg h3 hp.2
     refine ⟨((true=true→true=true)∧(vz σ a).okA σ)∧p,?_,⟨fun h=>h,l2⟩,e2⟩
     simp only [looks,o1,e1,l1,l3,frzS_eq]
    ·cases h
   ·cases h
  ·cases h
theorem valsS_sound (hT:TabOk C.P T) (hA:Agr S σ) {g:Option Bool} (hg:gb g=true) {ty:Nat→TypeId}:∀{xs:List (Nat×Operand)} {ps:List Prop} {vs:List (Nat×V)},valsS (std T) T S g ty xs=some (ps,vs)→Alls ps→
 ∃p,vals C.P σ true ty xs=some (p,vs)∧p
 |[],ps,vs,h,_=>by
  simp only [valsS,Option.some.injEq,Prod.mk.injEq] at h
  obtain ⟨_,rfl⟩:=h
  exact ⟨True,rfl,trivial⟩
 |(i,x)::xs,ps,vs,h,hp=>by
  simp only [valsS] at h
  split at h
  ·rename_i gx v h1
   split at h
   ·rename_i ho
    split at h
    ·rename_i e d
     split at h
     ·rename_i qs vs' h2
      simp only [Option.some.injEq,Prod.mk.injEq] at h
      obtain ⟨rfl,rfl⟩:=h
      rw [alls_append] at hp
      have o1:=opdS_sound hT hA h1 (geG_sound hp.1 hg)
      obtain ⟨p,e1,e2⟩:=valsS_sound hT hA hg h2 hp.2
      refine ⟨(true=true→true=true)∧p,?_,fun h=>h,e2⟩
      simp only [vals,o1,e1,vz,V.owned,V.isHole]
      simp [zrep,isNilC]
     ·cases h
    ·cases h
   ·rename_i ho
    split at h
    ·cases h
    ·rename_i hh
     split at h
     ·rename_i qs vs' h2
      simp only [Option.some.injEq,Prod.mk.injEq] at h
      obtain ⟨rfl,rfl⟩:=h
      rw [alls_append] at hp
      have o1:=opdS_sound hT hA h1 (geG_sound hp.1 hg)
      obtain ⟨p,e1,e2⟩:=valsS_sound hT hA hg h2 hp.2
      refine ⟨(true=true→true=true)∧p,?_,fun h=>h,e2⟩
      simp only [vals,o1,e1,vz,ho,hh]
      simp
     ·cases h
  ·cases h
theorem intS_sound (hT:TabOk C.P T) (hA:Agr S σ) {x:Operand} {g gi:Option Bool} {n:Int} (h:intS T S x=some (gi,n)) (hg:gb g=true) (hp:Alls (geG (std T) g gi)):intOpd C.P σ true x=some ((true=true→true=true),n):=by
 unfold intS at h
 split at h
 ·rename_i g' n' h1
  simp only [Option.some.injEq,Prod.mk.injEq] at h
  obtain ⟨rfl,rfl⟩:=h
  have o1:=opdS_sound hT hA h1 (geG_sound hp hg)
  simp only [intOpd,o1,vz]
 ·cases h
theorem boundS_sound (hT:TabOk C.P T) (hA:Agr S σ) {x:Option Operand} {g gi:Option Bool} {d n:Int} (h:boundS T S d x=some (gi,n)) (hg:gb g=true) (hp:Alls (geG (std T) g gi)):∃p,boundOf C.P σ true d x=some (p,n)∧p:=by
 cases x with
 |none=>
  simp only [boundS,Option.some.injEq,Prod.mk.injEq] at h
  obtain ⟨_,rfl⟩:=h
  exact ⟨True,rfl,trivial⟩
 |some x=>exact ⟨_,intS_sound hT hA h hg hp,fun h=>h⟩
theorem ikE_eq {k k':IntKind} (h:ikE k k'=true):k=k':=by
 cases k<;>cases k'<;>first|rfl|(simp [ikE,ikN] at h)
theorem fitT_sound (hT:TabOk C.P T) {t:TypeId} {y:V} (h:fitT T t y=true):fits C.P t y=true:=by
 unfold fitT at h
 split at h
 ·rename_i ht
  have hc:=hT.c ht
  simp only [chkTI,decide_eq_true_eq] at hc
  simp only [fits,hT.agg ht,hT.cells ht,kAgg,V.size,hc];rfl
 ·rename_i ht
  have hc:=hT.c ht
  simp only [chkTI,decide_eq_true_eq] at hc
  simp only [fits,hT.agg ht,hT.cells ht,kAgg,V.size,hc];rfl
 ·rename_i ht
  have hc:=hT.c ht
  simp only [chkTI,decide_eq_true_eq] at hc
  simp only [fits,hT.agg ht,hT.cells ht,kAgg,V.size,hc];rfl
 ·rename_i ht
  have hc:=hT.c ht
  simp only [chkTI,Bool.and_eq_true,decide_eq_true_eq] at hc
  simp only [fits,hT.agg ht,hT.cells ht,kAgg,V.size,hc.1];rfl
 ·rename_i ht
  simp only [fits,hT.agg ht,hT.cells ht,kAgg,V.size,nbeq_eq h];simp
 ·rename_i ht
  simp only [fits,hT.agg ht,hT.cells ht,kAgg,V.size,nbeq_eq h];rfl
 ·rename_i ht
  simp only [fits,hT.agg ht,hT.cells ht,kAgg,V.size,nbeq_eq h];rfl
 ·cases h
theorem binS_sound {op:BinOp} {k:IntKind} {a b:Int} {ps:List Prop} {v:V} (h:binS (std T) op k a b=some (ps,v)) (hp:Alls ps):∃p,binV op (.int k a) (.int k b)=some (p,v)∧p:=by
 cases op<;>simp only [binS,Option.some.injEq,Prod.mk.injEq,reduceCtorEq] at h
 all_goals
  obtain ⟨rfl,rfl⟩:=h
  simp only [binV,if_pos,if_true,reduceCtorEq,if_false]
  refine ⟨_,rfl,?_⟩
  first
   |trivial
   |exact (alls_cons.1 hp).1
theorem strS_sound {op:BinOp} {a b:ByteArray} {ps:List Prop} {v:V} (h:strS (std T) op a b=some (ps,v)) (hp:Alls ps):∃p,binV op (.str a) (.str b)=some (p,v)∧p:=by
 cases op<;>simp only [strS,Option.some.injEq,Prod.mk.injEq,reduceCtorEq] at h
 all_goals
  obtain ⟨rfl,rfl⟩:=h
  simp only [binV]
  refine ⟨_,rfl,?_⟩
  first
   |trivial
   |(have h1:(a.size:Int)+(b.size:Int)<1099511627776:=(alls_cons.1 hp).1
     omega)
end
end Go.Ax
namespace Go.Ax
section
variable {C:Ctx} {T:Tab} {S:Sta} {σ:Env} {B:Book}
theorem vw_fz (hT:TabOk C.P T) {t:TypeId} {y z:V} (h:vw (std T).v T false 20 t y=some z) (hok:(std T).ok false t y):z=y∧fits C.P t y=true:=by
 have h1:vw stdV T false 20 t y=some y:=hok
 have h2:vw stdV T false 20 t y=some z:=h
 rw [h1] at h2
 simp only [Option.some.injEq] at h2
 exact ⟨h2.symm,(vw_size hT false 20 t y y h1).2.2.1⟩
theorem offs_sum (hT:TabOk C.P T):∀(fts:List (Nat×TypeId)) (ys:List V) (n k m:Nat),offsC T fts k=some m→(∀(i:Nat) (x:Nat×TypeId) (y:V),fts[i]? =some x→ys[i]? =some y→y.size=tcells T x.2)→fts.length=ys.length→
 ∀(x:Nat×TypeId),fts[n]? =some x→x.1=k+V.offs ys n∧tcells T x.2≠0
 |[],_,_,_,_,_,_,_,_,hx=>by simp at hx
 |(o,t)::fts,[],_,_,_,_,_,hl,_,_=>by simp at hl
 |(o,t)::fts,y::ys,n,k,m,h,hs,hl,x,hx=>by
  simp only [offsC] at h
  split at h
  ·rename_i ti ht
   split at h
   ·rename_i hc
    have h0:=hs 0 (o,t) y rfl rfl
    simp only [tcells,ht] at h0
    cases n with
    |zero=>
     simp at hx
     subst hx
     exact ⟨by simp [V.offs,V.sizes,hc.1],by simp [tcells,ht,hc.2]⟩
    |succ n=>
     have:=offs_sum hT fts ys n (k+ti.cells) m h (fun i x y h1 h2=>hs (i+1) x y (by simpa using h1) (by simpa using h2)) (by simpa using hl) x (by simpa using hx)
     refine ⟨?_,this.2⟩
     rw [this.1]
     simp only [V.offs,List.take_succ_cons,V.sizes,h0]
     omega
   ·cases h
  ·cases h
theorem vws_get (hT:TabOk C.P T) (o:Bool):∀(n:Nat) (fs:List (Nat×TypeId)) (i:Nat) (y:V) (ys:List V),vws stdV T o n fs i y=some ys→∀(j:Nat) (x:Nat×TypeId) (z:V),fs[j]? =some x→ys[j]? =some z→z.size=tcells T x.2
 |_,[],_,_,_,_,j,x,z,hx,_=>by simp at hx
 |0,_::_,_,_,_,hv,_,_,_,_,_=>by simp [vws] at hv
 |n+1,(o',t)::fs,i,y,ys,hv,j,x,z,hx,hz=>by
  simp only [vws] at hv
  split at hv
  ·rename_i v hv1
   split at hv
   ·rename_i vs hv2
    simp only [Option.some.injEq] at hv
    subst hv
    cases j with
    |zero=>
     simp at hx hz
     subst hx;subst hz
     exact (vw_size hT o n t _ v hv1).1
    |succ j=>exact vws_get hT o n fs (i+1) y vs hv2 j x z (by simpa using hx) (by simpa using hz)
   ·cases hv
  ·cases hv
theorem field_ok (hT:TabOk C.P T) {t f:Nat} {fts:List (Nat×TypeId)} {x:Nat×TypeId} (hf:fieldsT T t=some fts) (hx:nthF fts f=some x) {fs:List V} (hz:∃o y n,vw stdV T o n t y=some (.agg fs)):
 fieldT C.P t f=some x∧C.P.cellsOf x.2≠0∧f<fs.length∧V.offs fs f=x.1:=by
 obtain ⟨o,y,n,hz⟩:=hz
 have h1:fieldT C.P t f=some x:=by rw [fieldT_of (hT.fields hf)];exact hx
 rw [nthF_get] at hx
 cases n with
 |zero=>simp [vw] at hz
 |succ n=>
  unfold fieldsT at hf
  split at hf
  ·rename_i fs' c zz ht
   simp only [Option.some.injEq] at hf
   subst hf
   simp only [vw,ht] at hz
   split at hz
   ·rename_i ys hys
    simp only [Option.some.injEq,V.agg.injEq] at hz
    subst hz
    have hc:=hT.c ht
    simp only [chkTI,decide_eq_true_eq] at hc
    have hl:=(vws_size hT o n fs' 0 y ys hys).2.2
    obtain ⟨e1,e2⟩:=offs_sum hT fs' ys f 0 c hc (vws_get hT o n fs' 0 y ys hys) hl.symm x hx
    have hlt:f<fs'.length:=(List.getElem?_eq_some_iff.1 hx).1
    refine ⟨h1,?_,by omega,by omega⟩
    unfold tcells at e2
    split at e2
    ·rename_i ti hti;rw [hT.cells hti];exact e2
    ·exact absurd rfl e2
   ·cases hz
  ·cases hf
end
end Go.Ax
namespace Go.Ax
section
variable {C:Ctx} {T:Tab} {S:Sta} {σ:Env} {B:Book}
theorem tcells_ne (hT:TabOk C.P T) {t:TypeId} (h:nblt 0 (tcells T t)=true):C.P.cellsOf t≠0:=by
 have h':0<tcells T t:=by
  have:=nble_le h
  omega
 unfold tcells at h'
 split at h'
 ·rename_i ti ht;rw [hT.cells ht];omega
 ·omega
theorem placeS_sound (hT:TabOk C.P T) {off f:Nat} {ft:TypeId} {fs:List V} (h:placeS T off ft f fs=true):C.P.cellsOf ft≠0∧f<fs.length∧V.offs fs f=off:=by
 simp only [placeS,Bool.and_eq_true] at h
 refine ⟨tcells_ne hT h.2,?_,nbeq_eq h.1.1⟩
 have:=nble_le h.1.2
 omega
theorem okr_of {r:V} {p:List Nat} {x:V×List Prop} (h:p=[]∨(r.okm p∧(∀fs,r≠.tup fs)∧(∀fs,r≠.agg fs)∧atS (std T) T r p=some x)) (hH:(r.at p).isH=true):r.okr p:=by
 rcases h with rfl|⟨h1,h2,h3,_⟩
 ·cases r<;>trivial
 ·unfold V.okr
  split
  ·trivial
  ·exact absurd rfl (h2 _)
  ·exact ⟨h1,hH⟩
theorem rdA_own {s:Nat} {p:List Nat} {y:V} (ho:y.owned=true) (hH:y.isH=true):rdA s (σ s).ver p y=some (vz σ (.rf s 0 p)):=by
 simp [rdA,ho,hH,vz]
theorem rdA_val {s ver:Nat} {p:List Nat} {y:V} (ho:y.owned=false):rdA s ver p y=some (.val y):=by
 simp [rdA,ho]
theorem rdA_agg {s:Nat} {p:List Nat} {fs:List V} (ho:(V.agg fs).owned=true) (hf:V.flats fs=true):rdA s (σ s).ver p (.agg fs)=some (vz σ (.ag s 0 p fs)):=by
 simp [rdA,ho,hf,vz,V.isH]
theorem okm_box {r c:V} {e:TypeId} {p:List Nat} {x:V×List Prop} (e1:r.at p= .box e c) (h:p=[]∨(r.okm p∧(∀fs,r≠.tup fs)∧(∀fs,r≠.agg fs)∧atS (std T) T r p=some x)):r.okm (p++[0]):=by
 have key:∀(p:List Nat) (r:V),r.at p= .box e c→r.okp p→r.okp (p++[0]):=by
  intro p
  induction p with
  |nil=>
   intro r h1 _
   simp only [V.at] at h1
   subst h1
   exact ⟨trivial,trivial⟩
  |cons i p ih=>
   intro r h1 h2
   exact ⟨h2.1,ih _ h1 h2.2⟩
 rcases h with rfl|⟨h1,h2,h3,_⟩
 ·simp only [V.at] at e1
  subst e1
  exact ⟨trivial,trivial⟩
 ·cases p with
  |nil=>exact h1.elim
  |cons i p=>
   have:=key (i::p) r e1 (by cases r<;>first|exact h1|exact h1.elim)
   cases r with
   |agg fs=>exact absurd rfl (h3 fs)
   |_=>exact this
theorem elem_ok (hT:TabOk C.P T) {t e:TypeId} (h:elemT T t=some e):elemOf C.P t=some e∧C.P.cellsOf e≠0:=by
 refine ⟨hT.elem h,?_⟩
 unfold elemT at h
 split at h
 ·rename_i e' _ _ ht
  simp only [Option.some.injEq] at h
  subst h
  have hc:=hT.c ht
  simp only [chkTI,Bool.and_eq_true,decide_eq_true_eq] at hc
  have h2:=hc.2.2
  cases hh:tget T e' with
  |none=>rw [hh] at h2;cases h2
  |some te=>rw [hT.cells hh];rw [hh] at h2;simpa using h2
 ·cases h
mutual
theorem frzT_std (T:Tab):∀v:V,frzT (std T) v=v.frz
 | .slc _ _ _ _=>rfl
 | .agg fs=>by simp only [frzT,V.frz,frzTs_std T fs]
 | .tup fs=>by simp only [frzT,V.frz,frzTs_std T fs]
 | .box _ c=>by simp only [frzT,V.frz,frzT_std T c]
 | .int _ _=>rfl
 | .bool _=>rfl
 | .str _=>rfl
 | .fn _ _=>rfl
 | .hole _=>rfl
theorem frzTs_std (T:Tab):∀l:List V,frzTs (std T) l=V.frzs l
 |[]=>rfl
 |v::l=>by simp only [frzTs,V.frzs,frzT_std T v,frzTs_std T l]
end
theorem frzK_std {T:Tab} {C:Ctx} {B:Book} (hΦ:C.Φ=phi B) (k:FuncId) (r:V):frzK (std T) B k r=frzC C k r:=by
 unfold frzK frzC
 rw [hΦ]
 simp only [phi]
 cases hb:bget B (2000000000+k) with
 |none=>rfl
 |some f=>
  dsimp only
  cases hf:f [] with
  |none=>rfl
  |some r'=>exact frzT_std T r
theorem argsR_sound (hT:TabOk C.P T) (hA:Agr S σ) {g:Option Bool} (hg:gb g=true):∀{xs:List Operand} {ts:List TypeId} {ps:List Prop} {vs:List V} {br:Bool},argsS (std T) T S g xs ts=some (ps,vs,br)→Alls ps→looksR C.P σ xs ts=argsR T S xs ts
 |[],_,ps,vs,br,_,_=>rfl
 |x::xs,ts,ps,vs,br,h,hp=>by
  simp only [argsS] at h
  split at h
  ·rename_i gx a h1
   split at h
   ·rename_i v qs h2
    split at h
    ·rename_i rs vs' br' h3
     simp only [Option.some.injEq,Prod.mk.injEq] at h
     obtain ⟨rfl,rfl,rfl⟩:=h
     rw [alls_append,alls_append] at hp
     have o1:=opdS_sound hT hA h1 (geG_sound hp.1.1 hg)
     have e:=argsR_sound hT hA hg h3 hp.2
     simp only [looksR,argsR,o1,h1,e]
     cases a<;>rfl
    ·cases h
   ·cases h
  ·cases h
theorem brKS_std {T:Tab} {S:Sta} {B:Book} (hΦ:C.Φ=phi B) (k:FuncId) {xs:List Operand} {ts:List TypeId} (br:Bool) (h:looksR C.P σ xs ts=argsR T S xs ts):brK C σ k xs ts br=brKS T B S k xs ts br:=by
 unfold brK brKS
 rw [hΦ,h]
 simp only [phi]
 cases br with
 |false=>rfl
 |true=>
  cases hb:bget B (3000000000+k) with
  |none=>rfl
  |some f=>
   dsimp only
   cases hf:f [] with
   |none=>rfl
   |some r'=>simp
theorem lopS_sound (hT:TabOk C.P T) (hA:Agr S σ) (hΦ:C.Φ=phi B) {g:Option Bool} (hg:gb g=true) {o:Oper} {ps:List Prop} {a:A} (h:lopS (std T) T B S g o=some (ps,a)) (hp:Alls ps):
 ∃p,lop C σ true o=some (p,vz σ a)∧p:=by
 cases hop:o.op with
 |move x=>
  simp only [lopS,hop] at h
  split at h
  ·rename_i gx a' h1
   simp only [Option.some.injEq,Prod.mk.injEq] at h
   obtain ⟨rfl,rfl⟩:=h
   have o1:=opdS_sound hT hA h1 (geG_sound hp hg)
   refine ⟨_,by simp only [lop,hop,o1];rfl,?_⟩
   simp
  ·cases h
 |assign x=>
  simp only [lopS,hop] at h
  split at h
  ·rename_i gx v h1
   split at h
   ·cases h
   ·rename_i ho
    simp only [Option.some.injEq,Prod.mk.injEq] at h
    obtain ⟨rfl,rfl⟩:=h
    have o1:=opdS_sound hT hA h1 (geG_sound hp hg)
    exact ⟨true=true→true=true,by simp only [lop,hop,o1,vz,ho,Bool.false_eq_true,if_false],fun h=>h⟩
  ·rename_i gx s ver i p h1
   split at h
   ·cases h
   ·rename_i r hn hr
    simp only [Option.some.injEq,Prod.mk.injEq] at h
    obtain ⟨rfl,rfl⟩:=h
    have o1:=opdS_sound hT hA h1 (geG_sound hp hg)
    refine ⟨true=true→true=true,?_,fun h=>h⟩
    simp only [lop,hop,o1,vz,ownS_sound hA hr]
   ·cases h
  ·rename_i gx s ver h1
   split at h
   ·rename_i d hd
    split at h
    ·rename_i f hf
     split at h
     ·rename_i r hr
      simp only [Option.some.injEq,Prod.mk.injEq] at h
      obtain ⟨rfl,rfl⟩:=h
      have o1:=opdS_sound hT hA h1 (geG_sound hp hg)
      refine ⟨true=true→true=true,?_,fun h=>h⟩
      simp only [lop,hop,o1,vz,hd]
      rw [if_pos]
      rw [hΦ]
      simp only [phi,hf,hr]
      rfl
     ·cases h
    ·cases h
   ·cases h
  ·cases h
 |pick c x y=>
  simp only [lopS,hop] at h
  split at h
  ·rename_i gc c' ga a' gb' b' h1 h2 h3
   simp only [Option.some.injEq,Prod.mk.injEq] at h
   obtain ⟨rfl,rfl⟩:=h
   rw [alls_append,alls_append] at hp
   have o1:=opdS_sound hT hA h1 (geG_sound hp.1.1 hg)
   have a1:c'=true→gb ga=true:=by
    intro hc
    have:=imG_sound hp.1.2 hg
    cases ga with
    |none=>rfl
    |some b=>simp only [geG,List.map_cons,alls_cons] at this;exact this.1 hc
   have a2:c'=false→gb gb'=true:=by
    intro hc
    have:=imG_sound hp.2 hg
    cases gb' with
    |none=>rfl
    |some b=>simp only [geG,List.map_cons,alls_cons] at this;exact this.1 (by simp [std,hc])
   refine ⟨(true=true→true=true)∧(true=true→true=true),?_,fun h=>h,fun h=>h⟩
   simp only [lop,hop,o1,vz]
   cases c' with
   |true=>simp only [if_true,opdS_sound hT hA h2 (a1 rfl),vz];rfl
   |false=>simp only [Bool.false_eq_true,if_false,opdS_sound hT hA h3 (a2 rfl),vz];rfl
  ·cases h
 |binOp op xt x y yt=>
  simp only [lopS,hop] at h
  split at h
  ·rename_i gx a' gy b' h1 h2
   split at h
   ·rename_i hbt
    have hb:=hT.bool hbt
    have hu:C.P.underlying xt=some .bool:=by
     unfold boolT at hb
     split at hb
     ·rename_i hh;exact hh
     ·cases hb
    split at h
    ·simp only [Option.some.injEq,Prod.mk.injEq] at h
     obtain ⟨rfl,rfl⟩:=h
     rw [alls_append] at hp
     have o1:=opdS_sound hT hA h1 (geG_sound hp.1 hg)
     have o2:=opdS_sound hT hA h2 (geG_sound hp.2 hg)
     refine ⟨_,by simp only [lop,hop,o1,o2,vz,hu,if_true];rfl,?_⟩
     simp
    ·simp only [Option.some.injEq,Prod.mk.injEq] at h
     obtain ⟨rfl,rfl⟩:=h
     rw [alls_append] at hp
     have o1:=opdS_sound hT hA h1 (geG_sound hp.1 hg)
     have o2:=opdS_sound hT hA h2 (geG_sound hp.2 hg)
     refine ⟨_,by simp only [lop,hop,o1,o2,vz,hu,if_true];rfl,?_⟩
     simp
    ·cases h
   ·cases h
  ·rename_i gx k a' gy k' b' h1 h2
   split at h
   ·rename_i hk
    have:=ikE_eq hk
    subst this
    split at h
    ·rename_i qs v h3
     simp only [Option.some.injEq,Prod.mk.injEq] at h
     obtain ⟨rfl,rfl⟩:=h
     rw [alls_append,alls_append] at hp
     have o1:=opdS_sound hT hA h1 (geG_sound hp.1.1 hg)
     have o2:=opdS_sound hT hA h2 (geG_sound hp.1.2 hg)
     obtain ⟨p,e1,e2⟩:=binS_sound h3 (imG_sound hp.2 hg)
     refine ⟨((true=true→true=true)∧(true=true→true=true))∧(true=true→p),?_,⟨fun h=>h,fun h=>h⟩,fun _=>e2⟩
     simp only [lop,hop,o1,o2,vz,e1]
     rfl
    ·cases h
   ·split at h
    ·simp only [Option.some.injEq,Prod.mk.injEq] at h
     obtain ⟨rfl,rfl⟩:=h
     rw [alls_append,alls_append] at hp
     have o1:=opdS_sound hT hA h1 (geG_sound hp.1.1 hg)
     have o2:=opdS_sound hT hA h2 (geG_sound hp.1.2 hg)
     have hb:(0:Int)≤b':=(alls_cons.1 (imG_sound hp.2 hg)).1
     refine ⟨((true=true→true=true)∧(true=true→true=true))∧(true=true→(0:Int)≤b'),?_,⟨fun h=>h,fun h=>h⟩,fun _=>hb⟩
     simp only [lop,hop,o1,o2,vz,binV,if_true]
     rfl
    ·cases h
  ·rename_i gx a' gy b' h1 h2
   split at h
   ·rename_i qs v h3
    simp only [Option.some.injEq,Prod.mk.injEq] at h
    obtain ⟨rfl,rfl⟩:=h
    rw [alls_append,alls_append] at hp
    have o1:=opdS_sound hT hA h1 (geG_sound hp.1.1 hg)
    have o2:=opdS_sound hT hA h2 (geG_sound hp.1.2 hg)
    obtain ⟨p,e1,e2⟩:=strS_sound h3 (imG_sound hp.2 hg)
    refine ⟨((true=true→true=true)∧(true=true→true=true))∧(true=true→p),?_,⟨fun h=>h,fun h=>h⟩,fun _=>e2⟩
    simp only [lop,hop,o1,o2,vz,e1]
    rfl
   ·cases h
  ·cases h
 |unOp op t x=>
  simp only [lopS,hop] at h
  split at h
  ·rename_i gx b h1
   simp only [Option.some.injEq,Prod.mk.injEq] at h
   obtain ⟨rfl,rfl⟩:=h
   have o1:=opdS_sound hT hA h1 (geG_sound hp hg)
   exact ⟨true=true→true=true,by simp only [lop,hop,o1,vz];rfl,fun h=>h⟩
  ·rename_i gx k n h1
   simp only [Option.some.injEq,Prod.mk.injEq] at h
   obtain ⟨rfl,rfl⟩:=h
   have o1:=opdS_sound hT hA h1 (geG_sound hp hg)
   exact ⟨true=true→true=true,by simp only [lop,hop,o1,vz];rfl,fun h=>h⟩
  ·cases h
 |load t x=>
  simp only [lopS,hop] at h
  split at h
  ·rename_i gx y h1
   split at h
   ·rename_i z hz
    simp only [Option.some.injEq,Prod.mk.injEq] at h
    obtain ⟨rfl,rfl⟩:=h
    rw [alls_append] at hp
    have o1:=opdS_sound hT hA h1 (geG_sound hp.1 hg)
    obtain ⟨rfl,e2⟩:=vw_fz hT hz (alls_cons.1 (imG_sound hp.2 hg)).1
    refine ⟨_,by simp only [lop,hop,o1,vz,e2,if_true];rfl,?_⟩
    simp
   ·cases h
  ·rename_i gx v h1
   split at h
   ·rename_i y hy
    split at h
    ·rename_i hf
     simp only [Option.some.injEq,Prod.mk.injEq] at h
     obtain ⟨rfl,rfl⟩:=h
     have o1:=opdS_sound hT hA h1 (geG_sound hp hg)
     refine ⟨_,by simp only [lop,hop,o1,vz,hy,fitT_sound hT hf,if_true];rfl,?_⟩
     simp
    ·cases h
   ·cases h
  ·rename_i gx s ver p h1
   split at h
   ·rename_i r hr
    split at h
    ·rename_i i p' y qs hy
     split at h
     ·rename_i hf
      have main:∀a',((geG (std T) g gx++imG (std T) g qs),a')=(ps,a)→rdA s (σ s).ver (i::p') y=some (vz σ a')→∃p,lop C σ true o=some (p,vz σ a)∧p:=by
       rintro a' he hrd
       simp only [Prod.mk.injEq] at he
       obtain ⟨rfl,rfl⟩:=he
       rw [alls_append] at hp
       have o1:=opdS_sound hT hA h1 (geG_sound hp.1 hg)
       obtain ⟨e1,e2⟩:=atR_sound hy (imG_sound hp.2 hg)
       have e3:r.okm (i::p'):=by
        rcases e2 with e2|e2
        ·cases e2
        ·exact e2.1
       refine ⟨_,by simp only [lop,hop,o1,vz,ownS_sound hA hr,e1,fitT_sound hT hf,if_true,hrd];rfl,?_⟩
       simp [e3]
      split at h
      ·rename_i ho
       simp only [Option.some.injEq] at h
       exact main _ h (rdA_val ho)
      ·rename_i ho
       split at h
       ·rename_i hH
        simp only [Option.some.injEq] at h
        exact main _ h (rdA_own ho hH)
       ·split at h
        ·split at h
         ·rename_i hfl
          simp only [Option.some.injEq] at h
          exact main _ h (rdA_agg ho hfl)
         ·cases h
        ·cases h
     ·cases h
    ·cases h
   ·cases h
  ·rename_i gx s ver p h1
   split at h
   ·rename_i r hr
    split at h
    ·rename_i e c qs hy
     split at h
     ·rename_i hf
      have main:∀a',((geG (std T) g gx++imG (std T) g qs),a')=(ps,a)→rdA s (σ s).ver (p++[0]) c=some (vz σ a')→∃p,lop C σ true o=some (p,vz σ a)∧p:=by
       rintro a' he hrd
       simp only [Prod.mk.injEq] at he
       obtain ⟨rfl,rfl⟩:=he
       rw [alls_append] at hp
       have o1:=opdS_sound hT hA h1 (geG_sound hp.1 hg)
       obtain ⟨e1,e2⟩:=atR_sound hy (imG_sound hp.2 hg)
       have e3:r.okr p:=okr_of e2 (by rw [e1];rfl)
       have e4:r.okm (p++[0]):=okm_box e1 e2
       refine ⟨_,by simp only [lop,hop,o1,vz,ownS_sound hA hr,e1,fitT_sound hT hf,if_true,hrd];rfl,?_⟩
       simp [e3,e4]
      split at h
      ·rename_i ho
       simp only [Option.some.injEq] at h
       exact main _ h (rdA_val ho)
      ·rename_i ho
       split at h
       ·rename_i hH
        simp only [Option.some.injEq] at h
        exact main _ h (rdA_own ho hH)
       ·split at h
        ·split at h
         ·rename_i hfl
          simp only [Option.some.injEq] at h
          exact main _ h (rdA_agg ho hfl)
         ·cases h
        ·cases h
     ·cases h
    ·cases h
   ·cases h
  ·cases h
 |nilCheck x=>
  simp only [lopS,hop] at h
  split at h
  ·rename_i gx s ver p h1
   split at h
   ·rename_i r hr
    split at h
    ·rename_i e c qs hy
     simp only [Option.some.injEq,Prod.mk.injEq] at h
     obtain ⟨rfl,rfl⟩:=h
     rw [alls_append] at hp
     have o1:=opdS_sound hT hA h1 (geG_sound hp.1 hg)
     obtain ⟨e1,e2⟩:=atR_sound hy (imG_sound hp.2 hg)
     have e3:r.okr p:=okr_of e2 (by rw [e1];rfl)
     refine ⟨_,by simp only [lop,hop,o1,vz,ownS_sound hA hr,e1];rfl,?_⟩
     simp [e3]
    ·cases h
   ·cases h
  ·cases h
 |fieldAddr st x f=>
  simp only [lopS,hop] at h
  split at h
  ·rename_i fts hfts
   split at h
   ·rename_i off ft hn
    have hft:fieldT C.P st f=some (off,ft):=by rw [fieldT_of (hT.fields hfts)];exact hn
    split at h
    ·rename_i gx y h1
     simp only [Option.some.injEq,Prod.mk.injEq] at h
     obtain ⟨rfl,rfl⟩:=h
     rw [alls_append] at hp
     have o1:=opdS_sound hT hA h1 (geG_sound hp.1 hg)
     have hok:vw stdV T false 20 st y=some y:=(alls_cons.1 (imG_sound hp.2 hg)).1
     obtain ⟨zs,rfl⟩:=(vw_size hT false 20 st y y hok).2.2.2.1 fts hfts
     obtain ⟨_,e2,e3,e4⟩:=field_ok hT hfts hn ⟨false,_,20,hok⟩
     have hc:C.P.cellsOf ft≠0∧f<zs.length∧V.offs zs f=off:=⟨e2,e3,e4⟩
     refine ⟨_,by simp only [lop,hop,hft,o1,vz];rw [if_pos hc];rfl,?_⟩
     simp
    ·rename_i gx v h1
     split at h
     ·rename_i fs hy
      split at h
      ·rename_i hpl
       simp only [Option.some.injEq,Prod.mk.injEq] at h
       obtain ⟨rfl,rfl⟩:=h
       have o1:=opdS_sound hT hA h1 (geG_sound hp hg)
       refine ⟨_,by simp only [lop,hop,hft,o1,vz,hy];rw [if_pos (placeS_sound hT hpl)],?_⟩
       simp
      ·cases h
     ·cases h
    ·rename_i gx s ver p h1
     split at h
     ·rename_i r hr
      split at h
      ·rename_i i p' fs qs hy
       split at h
       ·rename_i hpl
        simp only [Option.some.injEq,Prod.mk.injEq] at h
        obtain ⟨rfl,rfl⟩:=h
        rw [alls_append] at hp
        have o1:=opdS_sound hT hA h1 (geG_sound hp.1 hg)
        obtain ⟨e1,e2⟩:=atR_sound hy (imG_sound hp.2 hg)
        have e3:r.okm (i::p'):=by
         rcases e2 with e2|e2
         ·cases e2
         ·exact e2.1
        refine ⟨_,by simp only [lop,hop,hft,o1,vz,ownS_sound hA hr,e1];rw [if_pos (placeS_sound hT hpl)],?_⟩
        simp [e3]
       ·cases h
      ·cases h
     ·cases h
    ·rename_i gx s ver p h1
     split at h
     ·rename_i r hr
      split at h
      ·rename_i e fs qs hy
       split at h
       ·rename_i hpl
        simp only [Option.some.injEq,Prod.mk.injEq] at h
        obtain ⟨rfl,rfl⟩:=h
        rw [alls_append] at hp
        have o1:=opdS_sound hT hA h1 (geG_sound hp.1 hg)
        obtain ⟨e1,e2⟩:=atR_sound hy (imG_sound hp.2 hg)
        have e3:r.okr p:=okr_of e2 (by rw [e1];rfl)
        refine ⟨_,by simp only [lop,hop,hft,o1,vz,ownS_sound hA hr,e1];rw [if_pos (placeS_sound hT hpl)],?_⟩
        simp [e3]
       ·cases h
      ·cases h
     ·cases h
    ·cases h
   ·cases h
  ·cases h
 |indexAddr st x i=>
  simp only [lopS,hop] at h
  split at h
  ·rename_i e gi n he hi
   split at h
   ·rename_i gx e' d es h1
    split at h
    ·rename_i hb
     have:=nbeq_eq hb
     subst this
     simp only [Option.some.injEq,Prod.mk.injEq] at h
     obtain ⟨rfl,rfl⟩:=h
     rw [alls_append,alls_append] at hp
     have o1:=opdS_sound hT hA h1 (geG_sound hp.1.1 hg)
     have o2:=intS_sound hT hA hi hg hp.1.2
     have hq:=imG_sound hp.2 hg
     simp only [alls_cons] at hq
     have q1:0≤n:=hq.1
     have q2:n<(es.length:Int):=hq.2.1
     obtain ⟨c1,c2⟩:=elem_ok hT he
     refine ⟨_,by simp only [lop,hop,c1,o1,o2,vz];rw [if_pos ⟨trivial,c2⟩];rfl,?_⟩
     simp [q1,q2]
    ·cases h
   ·rename_i gx s ver p h1
    split at h
    ·rename_i r hr
     split at h
     ·rename_i e' d es qs hy
      split at h
      ·rename_i hb
       have:=nbeq_eq hb
       subst this
       simp only [Option.some.injEq,Prod.mk.injEq] at h
       obtain ⟨rfl,rfl⟩:=h
       rw [alls_append,alls_append] at hp
       have o1:=opdS_sound hT hA h1 (geG_sound hp.1.1 hg)
       have o2:=intS_sound hT hA hi hg hp.1.2
       have hq:=imG_sound hp.2 hg
       rw [alls_append] at hq
       obtain ⟨e1,e2⟩:=atR_sound hy hq.1
       have e3:r.okr p:=okr_of e2 (by rw [e1];rfl)
       have hq2:=hq.2
       simp only [alls_cons] at hq2
       have q1:0≤n:=hq2.1
       have q2:n<(es.length:Int):=hq2.2.1
       obtain ⟨c1,c2⟩:=elem_ok hT he
       refine ⟨_,by simp only [lop,hop,c1,o1,o2,vz,ownS_sound hA hr,e1];rw [if_pos ⟨trivial,c2⟩];rfl,?_⟩
       simp [q1,q2,e3]
      ·cases h
     ·cases h
    ·cases h
   ·cases h
  ·cases h
 |index st x i=>
  simp only [lopS,hop] at h
  split at h
  ·rename_i hst
   split at h
   ·rename_i gx s gi n h1 hi
    simp only [Option.some.injEq,Prod.mk.injEq] at h
    obtain ⟨rfl,rfl⟩:=h
    rw [alls_append,alls_append] at hp
    have o1:=opdS_sound hT hA h1 (geG_sound hp.1.1 hg)
    have o2:=intS_sound hT hA hi hg hp.1.2
    have hq:=imG_sound hp.2 hg
    simp only [alls_cons] at hq
    have q1:0≤n:=hq.1
    have q2:n<(s.size:Int):=hq.2.1
    refine ⟨_,by simp only [lop,hop,hT.str hst,o1,o2,vz];rfl,?_⟩
    simp [q1,q2]
   ·cases h
  ·cases h
 |extract x i=>
  simp only [lopS,hop] at h
  split at h
  ·rename_i gx fs h1
   split at h
   ·rename_i y hy
    rw [nthV_get] at hy
    have hl:i<fs.length:=(List.getElem?_eq_some_iff.1 hy).1
    simp only [Option.some.injEq,Prod.mk.injEq] at h
    obtain ⟨rfl,rfl⟩:=h
    have o1:=opdS_sound hT hA h1 (geG_sound hp hg)
    refine ⟨_,by simp only [lop,hop,o1,vz,if_pos hl,getD_of_some hy];rfl,?_⟩
    simp
   ·cases h
  ·rename_i gx s ver h1
   split at h
   ·rename_i fs hr
    split at h
    ·rename_i y hy
     rw [nthV_get] at hy
     have hl:i<fs.length:=(List.getElem?_eq_some_iff.1 hy).1
     split at h
     ·rename_i ho
      simp only [Option.some.injEq,Prod.mk.injEq] at h
      obtain ⟨rfl,rfl⟩:=h
      have o1:=opdS_sound hT hA h1 (geG_sound hp hg)
      refine ⟨_,by simp only [lop,hop,o1,vz,ownS_sound hA hr,if_pos hl,getD_of_some hy,ho,if_true];rfl,?_⟩
      simp
     ·rename_i ho
      simp only [Option.some.injEq,Prod.mk.injEq] at h
      obtain ⟨rfl,rfl⟩:=h
      have o1:=opdS_sound hT hA h1 (geG_sound hp hg)
      refine ⟨_,by simp only [lop,hop,o1,vz,ownS_sound hA hr,if_pos hl,getD_of_some hy,ho,Bool.false_eq_true,if_false];rfl,?_⟩
      simp
    ·cases h
   ·cases h
  ·cases h
 |slice st x lo hi mx=>
  cases mx with
  |some m=>simp [lopS,hop] at h
  |none=>
   simp only [lopS,hop] at h
   split at h
   ·rename_i gx e d es h1
    split at h
    ·rename_i e' he
     split at h
     ·rename_i hb
      have:=nbeq_eq hb
      subst this
      split at h
      ·rename_i gl l gh k h2 h3
       simp only [Option.some.injEq,Prod.mk.injEq] at h
       obtain ⟨rfl,rfl⟩:=h
       rw [alls_append,alls_append,alls_append] at hp
       have o1:=opdS_sound hT hA h1 (geG_sound hp.1.1.1 hg)
       obtain ⟨p2,o2,r2⟩:=boundS_sound hT hA h2 hg hp.1.1.2
       obtain ⟨p3,o3,r3⟩:=boundS_sound hT hA h3 hg hp.1.2
       have hq:=imG_sound hp.2 hg
       simp only [alls_cons] at hq
       have q1:0≤l:=hq.1
       have q2:l≤k:=hq.2.1
       have q3:k≤(es.length:Int):=hq.2.2.1
       obtain ⟨c1,c2⟩:=elem_ok hT he
       have o3':boundOf C.P σ true (es.length:Int) hi=some (p3,k):=o3
       refine ⟨_,by simp only [lop,hop,o1,vz,c1,o2,o3'];rw [if_pos ⟨trivial,c2⟩];rfl,?_⟩
       simp [q1,q2,q3,r2,r3]
      ·cases h
     ·cases h
    ·cases h
   ·rename_i gx s h1
    split at h
    ·rename_i hst
     split at h
     ·rename_i gl l gh k h2 h3
      simp only [Option.some.injEq,Prod.mk.injEq] at h
      obtain ⟨rfl,rfl⟩:=h
      rw [alls_append,alls_append,alls_append] at hp
      have o1:=opdS_sound hT hA h1 (geG_sound hp.1.1.1 hg)
      obtain ⟨p2,o2,r2⟩:=boundS_sound hT hA h2 hg hp.1.1.2
      obtain ⟨p3,o3,r3⟩:=boundS_sound hT hA h3 hg hp.1.2
      have hq:=imG_sound hp.2 hg
      simp only [alls_cons] at hq
      have q1:0≤l:=hq.1
      have q2:l≤k:=hq.2.1
      have q3:k≤(s.size:Int):=hq.2.2.1
      have o3':boundOf C.P σ true (s.size:Int) hi=some (p3,k):=o3
      refine ⟨_,by simp only [lop,hop,o1,vz,hT.str hst,o2,o3'];rfl,?_⟩
      simp [q1,q2,q3,r2,r3]
     ·cases h
    ·cases h
   ·cases h
 |convert s d x=>
  simp only [lopS,hop] at h
  split at h
  ·rename_i k' k gx k2 n h1 h2 h3
   simp only [Option.some.injEq,Prod.mk.injEq] at h
   obtain ⟨rfl,rfl⟩:=h
   have o1:=opdS_sound hT hA h3 (geG_sound hp hg)
   refine ⟨_,by simp only [lop,hop,o1,vz,hT.kind h1,hT.kind h2];rfl,?_⟩
   simp
  ·rename_i gx sl ver h1 h2 h3
   split at h
   ·rename_i e e' dd es h4 h5 h6
    split at h
    ·rename_i ti h7 h8 h9
     split at h
     ·rename_i h10
      simp only [Option.some.injEq,Prod.mk.injEq] at h
      obtain ⟨rfl,rfl⟩:=h
      rw [alls_append] at hp
      have o1:=opdS_sound hT hA h3 (geG_sound hp.1 hg)
      have hq:bytesOk es:=(alls_cons.1 (imG_sound hp.2 hg)).1
      have k1:=hT.elem h5
      have k2:C.P.cellsOf e=1:=by rw [hT.cells h9];exact nbeq_eq h10
      have k3:=hT.str h4
      have k4:intT C.P s=none:=intT_of_elem k1
      have k5:intT C.P d=none:=intT_of_str k3
      refine ⟨_,by simp only [lop,hop,o1,vz,k4,k5,k3,k1,ownS_sound hA h6];rw [if_pos ⟨hT.kind h8,nbeq_eq h7,k2⟩];rfl,?_⟩
      simp [hq]
     ·cases h
    ·cases h
   ·cases h
  ·cases h
 |alloc t=>
  simp only [lopS,hop] at h
  split at h
  ·rename_i ti ht
   simp only [Option.some.injEq,Prod.mk.injEq] at h
   obtain ⟨_,rfl⟩:=h
   exact ⟨True,by simp only [lop,hop,hT.zero ht];rfl,trivial⟩
  ·cases h
 |box t x=>
  simp only [lopS,hop] at h
  split at h
  ·rename_i gx v h1
   split at h
   ·rename_i ho
    split at h
    ·rename_i hf
     simp only [Option.some.injEq,Prod.mk.injEq] at h
     obtain ⟨rfl,rfl⟩:=h
     have o1:=opdS_sound hT hA h1 (geG_sound hp hg)
     refine ⟨_,by simp only [lop,hop,o1,vz,ho,Bool.false_and,Bool.false_eq_true,if_false,fitT_sound hT hf,if_true];rfl,?_⟩
     simp
    ·cases h
   ·cases h
  ·cases h
 |makeSlice t l c=>
  simp only [lopS,hop] at h
  split at h
  ·rename_i e he
   split at h
   ·rename_i gl n gc m ti h1 h2 ht
    simp only [Option.some.injEq,Prod.mk.injEq] at h
    obtain ⟨rfl,rfl⟩:=h
    rw [alls_append,alls_append] at hp
    have o1:=intS_sound hT hA h1 hg hp.1.1
    have o2:=intS_sound hT hA h2 hg hp.1.2
    have hq:=imG_sound hp.2 hg
    simp only [alls_cons] at hq
    have q1:0≤n:=hq.1
    have q2:n≤m:=hq.2.1
    have q3:m≤2147483647:=hq.2.2.1
    refine ⟨_,by simp only [lop,hop,hT.elem he,o1,o2,hT.zero ht];rw [if_pos (hT.small ht)];rfl,?_⟩
    simp [q1,q2,q3]
   ·cases h
  ·cases h
 |buildSlice t n parts=>
  simp only [lopS,hop] at h
  split at h
  ·rename_i e he
   split at h
   ·rename_i ti qs vs ht hv
    split at h
    ·rename_i hle
     split at h
     ·rename_i es hes
      simp only [Option.some.injEq,Prod.mk.injEq] at h
      obtain ⟨rfl,rfl⟩:=h
      obtain ⟨p,o1,r1⟩:=valsS_sound hT hA hg hv hp
      have hc:n*C.P.cellsOf e≤2^20∧0<C.P.cellsOf e:=by
       have:=(elem_ok hT he).2
       rw [hT.cells ht] at this ⊢
       exact ⟨nble_le hle,by omega⟩
      exact ⟨p,by simp only [lop,hop,hT.elem he,hT.zero ht,o1];rw [if_pos hc,hes];rfl,r1⟩
     ·cases h
    ·cases h
   ·cases h
  ·cases h
 |build t parts=>
  simp only [lopS,hop] at h
  split at h
  ·rename_i fts c zs ht
   split at h
   ·rename_i qs vs hv
    split at h
    ·rename_i fs hfs
     simp only [Option.some.injEq,Prod.mk.injEq] at h
     obtain ⟨rfl,rfl⟩:=h
     have hst:structOf C.P t=some zs:=congrArg Got.struct (hT.got ht)
     have hty:(fun i=>((fieldT C.P t i).map (·.2)).getD 0)=ftyS fts:=by
      funext i
      rw [fieldT_of (hT.fields (t:=t) (fs:=fts) (by simp [fieldsT,ht]))]
      unfold ftyS
      cases nthF fts i<;>rfl
     obtain ⟨p,o1,r1⟩:=valsS_sound hT hA hg hv hp
     refine ⟨p,?_,r1⟩
     simp only [lop,hop,hst,hty,o1,hfs]
     rfl
    ·cases h
   ·cases h
  ·cases h
 |makeFunc fn first caps=>
  cases fn with
  |func f=>
   simp only [lopS,hop] at h
   split at h
   ·rename_i qs vs hf hv
    split at h
    ·cases h
    rename_i hfb
    simp only [Option.some.injEq,Prod.mk.injEq] at h
    obtain ⟨rfl,rfl⟩:=h
    obtain ⟨p,o1,r1⟩:=valsS_sound hT hA hg hv hp
    exact ⟨p,by simp only [lop,hop,hf,o1,hfb,Bool.false_eq_true,if_false];rfl,r1⟩
   ·cases h
  |_=>simp [lopS,hop] at h
 |call c=>
  obtain ⟨cal,args,ats⟩:=c
  cases cal with
  |builtin b=>
   cases b with
   |len=>
    simp only [lopS,hop] at h
    split at h
    ·rename_i x t h1 h2
     split at h
     ·rename_i gx a' h3
      split at h
      ·rename_i o' e' d' es qs h4
       split at h
       ·rename_i e he
        simp only [Option.some.injEq,Prod.mk.injEq] at h
        obtain ⟨rfl,rfl⟩:=h
        rw [alls_append] at hp
        have o1:=opdS_sound hT hA h3 (geG_sound hp.1 hg)
        obtain ⟨l1,l2,l3⟩:=lookS_sound hA h4 (imG_sound hp.2 hg)
        refine ⟨_,by simp only [lop,hop,h1,h2,o1,l3,Bool.false_eq_true,if_false,l1,hT.elem he,Option.isSome_some,if_true];rfl,?_⟩
        simp [l2]
       ·cases h
      ·rename_i s qs h4
       split at h
       ·rename_i hst
        simp only [Option.some.injEq,Prod.mk.injEq] at h
        obtain ⟨rfl,rfl⟩:=h
        rw [alls_append] at hp
        have o1:=opdS_sound hT hA h3 (geG_sound hp.1 hg)
        obtain ⟨l1,l2,l3⟩:=lookS_sound hA h4 (imG_sound hp.2 hg)
        refine ⟨_,by simp only [lop,hop,h1,h2,o1,l3,Bool.false_eq_true,if_false,l1,hT.str hst,if_true];rfl,?_⟩
        simp [l2]
       ·cases h
      ·cases h
     ·cases h
    ·cases h
   |min=>
    simp only [lopS,hop] at h
    split at h
    ·rename_i x y h0
     split at h
     ·rename_i gx k a1 gy k' b1 h1 h2
      split at h
      ·rename_i hk
       have:=ikE_eq hk
       subst this
       simp only [Option.some.injEq,Prod.mk.injEq] at h
       obtain ⟨rfl,rfl⟩:=h
       rw [alls_append] at hp
       have o1:=opdS_sound hT hA h1 (geG_sound hp.1 hg)
       have o2:=opdS_sound hT hA h2 (geG_sound hp.2 hg)
       refine ⟨_,by simp only [lop,hop,h0,o1,o2,vz,if_true];rfl,?_⟩
       simp
      ·cases h
     ·cases h
    ·cases h
   |max=>
    simp only [lopS,hop] at h
    split at h
    ·rename_i x y h0
     split at h
     ·rename_i gx k a1 gy k' b1 h1 h2
      split at h
      ·rename_i hk
       have:=ikE_eq hk
       subst this
       simp only [Option.some.injEq,Prod.mk.injEq] at h
       obtain ⟨rfl,rfl⟩:=h
       rw [alls_append] at hp
       have o1:=opdS_sound hT hA h1 (geG_sound hp.1 hg)
       have o2:=opdS_sound hT hA h2 (geG_sound hp.2 hg)
       refine ⟨_,by simp only [lop,hop,h0,o1,o2,vz,if_true];rfl,?_⟩
       simp
      ·cases h
     ·cases h
    ·cases h
   |_=>simp [lopS,hop] at h
  |invoke r m=>simp [lopS,hop] at h
  |value f=>
   simp only [lopS,hop] at h
   split at h
   ·rename_i gf k caps h1
    split at h
    ·rename_i qs vs br h2
     split at h
     ·cases h
     rename_i hfb
     split at h
     ·rename_i ct hct
      split at h
      ·rename_i rs r hr
       have hphi:C.Φ k (vs++caps)=some (Alls rs,r,[]):=by rw [hΦ];simp only [phi,hct,hr]
       split at h
       ·split at h
        ·cases h
        ·rename_i hfn
         simp only [Option.some.injEq,Prod.mk.injEq] at h
         obtain ⟨rfl,rfl⟩:=h
         rw [alls_append,alls_append] at hp
         have o1:=opdS_sound hT hA h1 (geG_sound hp.1.1 hg)
         obtain ⟨p,o2,r2⟩:=argsS_sound hT hA hg h2 hp.1.2
         have hq:=imG_sound hp.2 hg
         rw [alls_append] at hq
         have hnf:=nofzS_sound r hq.2 hfn
         refine ⟨_,by simp only [lop,hop,o1,o2,vz,hphi,hnf,hfb,frzK_std hΦ,Bool.not_true,Bool.and_false,Bool.or_false,Bool.false_eq_true,if_false];rfl,?_⟩
         simp [r2,hq.1]
       ·rename_i hbk
        simp only [Option.some.injEq,Prod.mk.injEq] at h
        obtain ⟨rfl,rfl⟩:=h
        rw [alls_append,alls_append] at hp
        have o1:=opdS_sound hT hA h1 (geG_sound hp.1.1 hg)
        obtain ⟨p,o2,r2⟩:=argsS_sound hT hA hg h2 hp.1.2
        have hq:=imG_sound hp.2 hg
        have hb:brK C σ k _ _ br=false:=(brKS_std (T:=T) (S:=S) hΦ k br (argsR_sound hT hA hg h2 hp.1.2)).trans hbk
        refine ⟨_,by simp only [lop,hop,o1,o2,vz,hphi,hb,hfb,frzK_std hΦ,Bool.false_and,Bool.or_false,Bool.false_eq_true,if_false];rfl,?_⟩
        simp [r2,hq]
      ·cases h
     ·cases h
    ·cases h
   ·cases h
 |_=>simp [lopS,hop] at h
end
end Go.Ax
