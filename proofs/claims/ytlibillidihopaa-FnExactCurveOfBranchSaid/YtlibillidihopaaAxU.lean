/-
  AX, part U: steps, and regions.
-/
import Derived.Test.YtlibillidihopaaAxTG
namespace Go.Ax
open Go.RowKit

/-- A step: t: it stands in order with all others. -/
def step (C : Ctx) (ops : Array Oper) (t : Bool) (σ : Env) (o : Oper) : Option (Prop × Env) :=
  if t then
    match lstep C ops σ o with
    | some r => some r
    | none => wstep C σ o
  else match o.dst with
    | some d => if (σ d).owner then none else lstep C ops σ o
    | none => none

/-- the region's run, in the text's order -/
def ev (C : Ctx) (ops : Array Oper) : List Oper → List Bool → Env → (Env → Prop) → Prop
  | o :: l, t :: ts, σ, K => match step C ops t σ o with
    | some (p, σ') => p ∧ ev C ops l ts σ' K
    | none => False
  | [], _, σ, K => K σ
  | _ :: _, [], _, _ => False

section
variable {C : Ctx} {F : Nat → Prop} {O : Nat → Nat → Prop} {Z : Nat → Prop} {σ σ' : Env} {a : Act} {w w' : World} {ops : Array Oper}

theorem wstep_sound (hI : Inv C F O (fun _ => False) σ a w) {o : Oper} {i : Nat} (hi : ops[i]? = some o) {p : Prop} (h : wstep C σ o = some (p, σ')) (hp : p) {Q : Exit → Act → World → Prop} : wpOp C.P ops Q i (G C σ') a w := by
  have hg : o.guard = none := by
    cases hh : o.guard with
    | none => rfl
    | some g => simp [wstep, hh] at h
  have hw : o.wp C.P a w (G C σ') Q := by
    have h' := h
    simp only [wstep, hg] at h'
    split at h'
    · rename_i x d hop hd; exact wstep_assign hI hg hop hd h hp
    · rename_i t x v hop hd; exact wstep_store hI hg hop hd h hp
    · rename_i args ats d hop hd; exact wstep_append hI hg hop hd h hp
    · cases h'
  unfold wpOp
  rw [hi]
  dsimp only
  rw [show Region.wanted o (yielded ops a.tmps) = true from by unfold Region.wanted; rw [hg]]
  exact .inl hw

theorem step_sound (hC : CtxOk C) {t : Bool} {o : Oper} {i : Nat} (hi : ops[i]? = some o) {p : Prop} (h : step C ops t σ o = some (p, σ')) (hp : p) {Q : Exit → Act → World → Prop} (hG : G C σ a w) : wpOp C.P ops Q i (G C σ') a w := by
  obtain ⟨F, O, hI⟩ := hG
  unfold step at h
  split at h
  · split at h
    · rename_i r hr
      simp only [Option.some.injEq] at h
      subst h
      exact lstep_sound hC hI hi hr hp
    · exact wstep_sound hI hi h hp
  · split at h
    · split at h
      · cases h
      · exact lstep_sound hC hI hi h hp
    · cases h

theorem G.drew (h : G C σ a w) : G C σ a { w with drawn := w.drawn + 1 } := by
  obtain ⟨F, O, hI⟩ := h
  exact ⟨F, O, hI.worldZ (Nat.le_refl _) (fun _ _ _ => rfl) (fun _ h => h.elim) (fun _ _ _ _ _ h => h.elim) rfl rfl rfl⟩

/-! ### in the text's order -/

theorem ev_ops (hC : CtxOk C) {K : Env → Prop} {Q : Exit → Act → World → Prop} (hK : ∀ σ a w, K σ → G C σ a w → Q .normal a w) : ∀ (l : List Oper) (k : Nat) (ts : List Bool) (σ : Env) (a : Act) (w : World), (∀ j, l[j]? = ops[k + j]?) → ev C ops l ts σ K → G C σ a w →
    wpOps C.P ops Q ((List.range l.length).map (k + ·)) a w
  | [], k, ts, σ, a, w, _, h, hG => by
    cases ts <;> exact hK σ a w h hG
  | o :: l, k, ts, σ, a, w, hl, h, hG => by
    cases ts with
    | nil => exact h.elim
    | cons t ts =>
      simp only [ev] at h
      split at h
      · rename_i p σ' hs
        have hi : ops[k]? = some o := by simpa using (hl 0).symm
        have e : (List.range (o :: l).length).map (k + ·) = k :: (List.range l.length).map (k + 1 + ·) := by
          rw [List.length_cons, List.range_succ_eq_map]
          simp only [List.map_cons, List.map_map, Nat.add_zero, List.cons.injEq, true_and]
          apply List.map_congr_left
          intro j _
          simp only [Function.comp]
          omega
        rw [e, wpOps_cons]
        exact wpOp_mono (fun a' w' hG' => ev_ops hC hK l (k + 1) ts σ' a' w' (fun j => by have := hl (j + 1); simpa [Nat.add_assoc, Nat.add_comm 1 j] using this) h.2 hG') (step_sound hC hi hs h.1 hG)
      · exact h.elim

/-! ### in any order -/

def St (C : Ctx) (ops : Array Oper) (ts : List Bool) (i : Nat) (σ σ' : Env) : Prop := ∃ o p, ops[i]? = some o ∧ step C ops (ts.getD i true) σ o = some (p, σ') ∧ p

theorem anyA_sound (hC : CtxOk C) {ts : List Bool} {K : Env → Prop} {Q : Exit → Act → World → Prop} (hK : ∀ σ a w, K σ → G C σ a w → Q .normal a w) : ∀ (n : Nat) (listed : Array Bool) (σ : Env) (a : Act) (w : World), anyA (St C ops ts) ops K n listed σ → G C σ a w →
    wpAny C.P .any ops Q n listed a w
  | 0, _, σ, a, w, h, hG => ⟨h.1, hK σ a w h.2 hG⟩
  | n + 1, listed, σ, a, w, h, hG => by
    refine ⟨fun h0 => hK σ a w (h.1 h0) hG, fun i hi => ?_⟩
    obtain ⟨σ', ⟨o, p, ho, hs, hp⟩, h2⟩ := h.2 i hi
    exact wpOp_mono (fun a' w' hG' => anyA_sound hC hK n _ σ' a' w' h2 hG') (step_sound hC ho hs hp hG)

theorem mem_looksAt_tmp {o : Oper} {t : Nat} (h : Operand.tmp t ∈ o.op.operands) : t ∈ o.looksAt ops := by
  unfold Oper.looksAt
  refine List.mem_append.2 (.inl (List.mem_filterMap.2 ⟨.tmp t, by simpa using h, rfl⟩))

theorem opd_put {P : Program} {ty : TypeId} {x : Operand} {d : Nat} {g : Bool} {A : A} (h : x ≠ .tmp d) : opd P (σ.put d g A) ty x = opd P σ ty x := by
  cases x with
  | tmp t =>
    have htd : t ≠ d := fun e => h (by rw [e])
    simp only [opd, Env.put, htd, if_false]
  | _ => rfl

theorem gd_put {o : Oper} {d : Nat} {g : Bool} {A : A} (h : d ∉ o.looksAt ops) : gd ops (σ.put d g A) o = gd ops σ o := by
  unfold gd
  cases hg : o.guard with
  | none => rfl
  | some jw =>
    obtain ⟨j, want⟩ := jw
    cases ht : (ops[j]?).bind (·.dst) with
    | none => simp [ht]
    | some t =>
      have : t ≠ d := by
        rintro rfl
        refine h ?_
        unfold Oper.looksAt
        refine List.mem_append.2 (.inr ?_)
        simp [hg, ht]
      simp [ht, Env.put, this]

/-- what a local step lays into its register -/
def lres (C : Ctx) (ops : Array Oper) (σ : Env) (o : Oper) : Option (Prop × Bool × A) :=
  match gd ops σ o with
  | some true => match lop C σ true o with
    | some (p, A) => some (p, true, A)
    | none => none
  | some false => some (True, false, .val (.hole 0))
  | none => none

theorem lstep_eq {o : Oper} {d : Nat} (hd : o.dst = some d) : lstep C ops σ o = match lres C ops σ o with
    | some (p, g, A) => if C.dst d then some (p, σ.put d g A) else none
    | none => none := by
  unfold lstep lres
  rw [hd]
  cases gd ops σ o with
  | none => rfl
  | some b =>
    cases b with
    | true =>
      dsimp only
      cases hl : lop C σ true o with
      | none => rfl
      | some r => rfl
    | false => rfl

theorem lres_refs (hw : Wf σ) {o : Oper} {p : Prop} {g : Bool} {A : A} (h : lres C ops σ o = some (p, g, A)) : ∀ s ver, A.refs = some (s, ver) → ver ≤ (σ s).ver := by
  unfold lres at h
  split at h
  · split at h
    · rename_i hl
      simp only [Option.some.injEq, Prod.mk.injEq] at h
      obtain ⟨_, _, rfl⟩ := h
      exact lop_refs hw hl
    · cases h
  · simp only [Option.some.injEq, Prod.mk.injEq] at h
    obtain ⟨_, _, rfl⟩ := h
    intro s ver hr
    simp [A.refs] at hr
  · cases h

theorem lres_mono {o : Oper} {r : Prop × Bool × A} (hg : gd ops σ o = gd ops σ' o) (h : LeR C.P σ σ' o.op.operands.toList) (ho : ∀ ty x, x ∈ o.op.operands → opd C.P σ ty x = opd C.P σ' ty x) (hl : lres C ops σ o = some r) : lres C ops σ' o = some r := by
  unfold lres at hl ⊢
  rw [← hg]
  split at hl
  · split at hl
    · rename_i h2
      rw [lop_mono h ho h2]
      exact hl
    · cases hl
  · exact hl
  · cases hl

theorem put_comm {d e : Nat} {g h : Bool} {A B : Go.Ax.A} (hne : d ≠ e) : (σ.put d g A).put e h B = (σ.put e h B).put d g A := by
  funext t
  simp only [Env.put]
  by_cases h1 : t = d
  · subst h1
    simp [hne]
  · by_cases h2 : t = e
    · subst h2
      simp [h1]
    · simp [h1, h2]

theorem Wf.put (hw : Wf σ) {d : Nat} {g : Bool} {A : A} (h : ∀ s ver, A.refs = some (s, ver) → ver ≤ (σ s).ver) : Wf (σ.put d g A) := by
  intro t s ver hr
  have hle : (σ s).ver ≤ ((σ.put d g A) s).ver := by simp only [Env.put]; split <;> simp_all
  by_cases ht : t = d
  · subst ht
    simp only [Env.put, if_true] at hr
    exact Nat.le_trans (h s ver hr) hle
  · simp only [Env.put, ht, if_false] at hr
    exact Nat.le_trans (hw t s ver hr) hle

theorem Env.own_put_some {d s ver : Nat} {g : Bool} {A : Go.Ax.A} {y : V} (ho : (σ d).owner = false) (h : σ.own s ver = some y) : (σ.put d g A).own s ver = some y := by
  by_cases hs : s = d
  · subst hs
    obtain ⟨h1, h2, h3, h4⟩ := Env.own_iff'.1 h
    simp [E.owner, h1, h3, h4] at ho
  · rw [Env.own_put_ne hs]; exact h

/-- local steps that are apart commute -/
theorem lstep_comm {oi oj : Oper} {di dj : Nat} (hap : oi.apart ops oj = true) (hdi : oi.dst = some di) (hdj : oj.dst = some dj) (hw : Wf σ) (hoi : (σ di).owner = false) {σi σij : Env} {pi pj : Prop}
    (hi : lstep C ops σ oi = some (pi, σi)) (hoj : (σi dj).owner = false) (hj : lstep C ops σi oj = some (pj, σij)) :
    ∃ σj, lstep C ops σ oj = some (pj, σj) ∧ lstep C ops σj oi = some (pi, σij) ∧ (σ dj).owner = false ∧ (σj di).owner = false ∧ Wf σj := by
  obtain ⟨a1, a2, a3⟩ := Oper.apart_spec hap
  have hne : di ≠ dj := fun e => a2 di hdi (by rw [hdj, e])
  rw [lstep_eq hdi] at hi
  split at hi
  · rename_i p g A hli
    split at hi
    · rename_i hdn
      simp only [Option.some.injEq, Prod.mk.injEq] at hi
      obtain ⟨rfl, rfl⟩ := hi
      rw [lstep_eq hdj] at hj
      split at hj
      · rename_i p' g' B hlj
        split at hj
        · rename_i hdn'
          simp only [Option.some.injEq, Prod.mk.injEq] at hj
          obtain ⟨rfl, rfl⟩ := hj
          have n1 : ∀ x, x ∈ oj.op.operands.toList → x ≠ .tmp di := fun x hx e => a1 di hdi (mem_looksAt_tmp (by subst e; simpa using hx))
          have n2 : ∀ x, x ∈ oi.op.operands.toList → x ≠ .tmp dj := fun x hx e => a3 dj hdj (mem_looksAt_tmp (by subst e; simpa using hx))
          have hlj' : lres C ops σ oj = some (p', g', B) := by
            refine lres_mono (gd_put (a1 di hdi)) (fun ty x gx A' s ver y hx ho hr hy => ?_) (fun ty x hx => opd_put (n1 x (by simpa using hx))) hlj
            rw [opd_put (n1 x hx)] at ho
            by_cases hs : s = di
            · subst hs
              rw [Env.own_put_eq (opd_refs hw ho _ _ hr)] at hy; cases hy
            · rwa [Env.own_put_ne hs] at hy
          have hod : (σ dj).owner = false := by
            have := hoj
            simp only [Env.put, if_neg (Ne.symm hne)] at this
            exact this
          have hli' : lres C ops (σ.put dj g' B) oi = some (p, g, A) := by
            refine lres_mono (gd_put (a3 dj hdj)).symm (fun ty x gx A' s ver y hx ho hr hy => Env.own_put_some hod hy) (fun ty x hx => (opd_put (n2 x (by simpa using hx))).symm) hli
          refine ⟨σ.put dj g' B, ?_, ?_, hod, ?_, Wf.put hw (lres_refs hw hlj')⟩
          · rw [lstep_eq hdj, hlj']
            dsimp only
            rw [if_pos hdn']
          · rw [lstep_eq hdi, hli']
            dsimp only
            rw [if_pos hdn, put_comm (Ne.symm hne)]
          · simp only [Env.put, if_neg hne]; exact hoi
        · cases hj
      · cases hj
    · cases hi
  · cases hi

/-! ### versions grow -/

/-- registers keep what they refer to, or hold a value; versions grow -/
def Grow (σ σ' : Env) : Prop := ∀ t, (σ t).ver ≤ (σ' t).ver ∧ ((σ' t).a = (σ t).a ∨ (σ' t).a.refs = none)

theorem Grow.refl : Grow σ σ := fun _ => ⟨Nat.le_refl _, .inl rfl⟩
theorem Grow.trans {σ'' : Env} (h : Grow σ σ') (h' : Grow σ' σ'') : Grow σ σ'' := fun t => ⟨Nat.le_trans (h t).1 (h' t).1, by
  rcases (h' t).2 with e | e
  · rcases (h t).2 with e' | e'
    · exact .inl (e.trans e')
    · exact .inr (by rw [e]; exact e')
  · exact .inr e⟩
theorem Grow.wf (h : Grow σ σ') (hw : Wf σ) : Wf σ' := fun t s ver hr => by
  rcases (h t).2 with e | e
  · rw [e] at hr; exact Nat.le_trans (hw t s ver hr) (h s).1
  · rw [e] at hr; cases hr
theorem Grow.drp {d : Nat} : Grow σ (σ.drp d) := fun t => by
  simp only [Env.drp]
  split
  · rename_i h; subst h; exact ⟨Nat.le_succ _, .inr rfl⟩
  · exact ⟨Nat.le_refl _, .inl rfl⟩
theorem Grow.mod {d : Nat} {x : V} : Grow σ (σ.mod d x) := fun t => by
  simp only [Env.mod]
  split
  · rename_i h; subst h; exact ⟨Nat.le_refl _, .inr rfl⟩
  · exact ⟨Nat.le_refl _, .inl rfl⟩
theorem Grow.bmp {d : Nat} {x : V} : Grow σ (σ.bmp d x) := fun t => by
  simp only [Env.bmp]
  split
  · rename_i h; subst h; exact ⟨Nat.le_succ _, .inr rfl⟩
  · exact ⟨Nat.le_refl _, .inl rfl⟩
theorem Grow.putVal {d : Nat} {g : Bool} {x : V} : Grow σ (σ.put d g (.val x)) := fun t => by
  simp only [Env.put]
  split
  · rename_i h; subst h; exact ⟨Nat.le_succ _, .inr rfl⟩
  · exact ⟨Nat.le_refl _, .inl rfl⟩

mutual
theorem takeP_grow {s ver : Nat} : ∀ (x : V) (p : List Nat) (σ σ' : Env) (q : Prop) (y : V), takeP s ver x p σ = some (q, y, σ') → Grow σ σ'
  | .agg fs, p, σ, σ', q, y, h => by
    simp only [takeP] at h
    split at h
    · rename_i q1 vs σ1 h1
      simp only [Option.some.injEq, Prod.mk.injEq] at h
      obtain ⟨_, _, rfl⟩ := h
      exact takePs_grow fs p 0 σ _ _ _ h1
    · cases h
  | .slc true e d es, p, σ, σ', q, y, h => by
    simp only [takeP] at h
    split at h
    · simp only [Option.some.injEq, Prod.mk.injEq] at h
      obtain ⟨_, _, rfl⟩ := h
      exact .mod
    · cases h
  | .slc false e d es, p, σ, σ', q, y, h => by
    simp only [takeP] at h
    split at h
    · cases h
    · simp only [Option.some.injEq, Prod.mk.injEq] at h
      obtain ⟨_, _, rfl⟩ := h
      exact .refl
  | .box e c, p, σ, σ', q, y, h => by
    simp only [takeP] at h
    split at h
    · simp only [Option.some.injEq, Prod.mk.injEq] at h
      obtain ⟨_, _, rfl⟩ := h
      exact .mod
    · cases h
  | .int _ _, p, σ, σ', q, y, h => by
    simp only [takeP] at h
    split at h
    · cases h
    · simp only [Option.some.injEq, Prod.mk.injEq] at h
      obtain ⟨_, _, rfl⟩ := h
      exact .refl
  | .bool _, p, σ, σ', q, y, h => by
    simp only [takeP] at h
    split at h
    · cases h
    · simp only [Option.some.injEq, Prod.mk.injEq] at h
      obtain ⟨_, _, rfl⟩ := h
      exact .refl
  | .str _, p, σ, σ', q, y, h => by
    simp only [takeP] at h
    split at h
    · cases h
    · simp only [Option.some.injEq, Prod.mk.injEq] at h
      obtain ⟨_, _, rfl⟩ := h
      exact .refl
  | .tup _, p, σ, σ', q, y, h => by
    simp only [takeP] at h
    split at h
    · cases h
    · simp only [Option.some.injEq, Prod.mk.injEq] at h
      obtain ⟨_, _, rfl⟩ := h
      exact .refl
  | .fn _ _, p, σ, σ', q, y, h => by
    simp only [takeP] at h
    split at h
    · cases h
    · simp only [Option.some.injEq, Prod.mk.injEq] at h
      obtain ⟨_, _, rfl⟩ := h
      exact .refl
  | .hole _, p, σ, σ', q, y, h => by
    simp only [takeP] at h
    split at h
    · cases h
    · simp only [Option.some.injEq, Prod.mk.injEq] at h
      obtain ⟨_, _, rfl⟩ := h
      exact .refl
theorem takePs_grow {s ver : Nat} : ∀ (fs : List V) (p : List Nat) (i : Nat) (σ σ' : Env) (q : Prop) (ys : List V), takePs s ver fs p i σ = some (q, ys, σ') → Grow σ σ'
  | [], p, i, σ, σ', q, ys, h => by
    simp only [takePs, Option.some.injEq, Prod.mk.injEq] at h
    obtain ⟨_, _, rfl⟩ := h
    exact .refl
  | x :: xs, p, i, σ, σ', q, ys, h => by
    simp only [takePs] at h
    split at h
    · rename_i q1 v σ1 h1
      split at h
      · rename_i q2 vs σ2 h2
        simp only [Option.some.injEq, Prod.mk.injEq] at h
        obtain ⟨_, _, rfl⟩ := h
        exact (takeP_grow x _ σ σ1 _ _ h1).trans (takePs_grow xs p _ σ1 _ _ _ h2)
      · cases h
    · cases h
end

theorem takeA_grow {A : A} {q : Prop} {x : V} (h : takeA σ A = some (q, x, σ')) : Grow σ σ' := by
  unfold takeA at h
  split at h
  · simp only [Option.some.injEq, Prod.mk.injEq] at h
    obtain ⟨_, _, rfl⟩ := h
    exact .refl
  · split at h
    · split at h
      · simp only [Option.some.injEq, Prod.mk.injEq] at h
        obtain ⟨_, _, rfl⟩ := h
        exact .drp
      · split at h
        · split at h
          · simp only [Option.some.injEq, Prod.mk.injEq] at h
            obtain ⟨_, _, rfl⟩ := h
            exact .mod
          · cases h
        · simp only [Option.some.injEq, Prod.mk.injEq] at h
          obtain ⟨_, _, rfl⟩ := h
          exact .mod
    · cases h
  · exact takeP_grow _ _ _ _ _ _ h
  · cases h

theorem lstep_wf (hw : Wf σ) {o : Oper} {p : Prop} (h : lstep C ops σ o = some (p, σ')) : Wf σ' := by
  cases hd : o.dst with
  | none => unfold lstep at h; rw [hd] at h; split at h <;> simp_all
  | some d =>
    rw [lstep_eq hd] at h
    split at h
    · rename_i hl
      split at h
      · simp only [Option.some.injEq, Prod.mk.injEq] at h
        obtain ⟨_, rfl⟩ := h
        exact hw.put (lres_refs hw hl)
      · cases h
    · cases h

theorem wstep_wf (hw : Wf σ) {o : Oper} {p : Prop} (h : wstep C σ o = some (p, σ')) : Wf σ' := by
  unfold wstep at h
  split at h
  · cases h
  · split at h
    · split at h
      · rename_i gx A h1
        split at h
        · rename_i q y σ1 ht
          have g1 := takeA_grow ht
          split at h
          · split at h
            · split at h
              · cases h
              · rename_i s ver hsd
                simp only [Option.some.injEq, Prod.mk.injEq] at h
                obtain ⟨_, rfl⟩ := h
                refine Wf.put ((g1.trans .putVal).wf hw) (fun s' ver' hr => ?_)
                simp only [A.refs, Option.some.injEq, Prod.mk.injEq] at hr
                obtain ⟨rfl, rfl⟩ := hr
                simp [Env.put]
            · simp only [Option.some.injEq, Prod.mk.injEq] at h
              obtain ⟨_, rfl⟩ := h
              exact (g1.trans .putVal).wf hw
          · cases h
        · cases h
      · cases h
    · split at h
      · split at h
        · rename_i q y σ1 ht
          have g1 := takeA_grow ht
          split at h
          · split at h
            · split at h
              · simp only [Option.some.injEq, Prod.mk.injEq] at h
                obtain ⟨_, rfl⟩ := h
                split
                · exact (g1.trans .mod).wf hw
                · exact (g1.trans .bmp).wf hw
              · cases h
            · cases h
          · split at h
            · split at h
              · split at h
                · simp only [Option.some.injEq, Prod.mk.injEq] at h
                  obtain ⟨_, rfl⟩ := h
                  split
                  · exact (g1.trans .mod).wf hw
                  · exact (g1.trans .bmp).wf hw
                · cases h
              · cases h
            · cases h
          · cases h
        · cases h
      · cases h
    · split at h
      · split at h
        · split at h
          · split at h
            · rename_i q e' dd es σ1 ht
              have g1 := takeA_grow ht
              split at h
              · split at h
                · split at h
                  · split at h
                    · split at h
                      · rename_i q2 e2 d2 es3 σ2 ht2
                        simp only [Option.some.injEq, Prod.mk.injEq] at h
                        obtain ⟨_, rfl⟩ := h
                        exact ((g1.trans (takeA_grow ht2)).trans .putVal).wf hw
                      · cases h
                    · simp only [Option.some.injEq, Prod.mk.injEq] at h
                      obtain ⟨_, rfl⟩ := h
                      exact (g1.trans .putVal).wf hw
                  · cases h
                · cases h
              · cases h
            · cases h
          · cases h
        · cases h
      · cases h
    · cases h

theorem step_wf (hw : Wf σ) {t : Bool} {o : Oper} {p : Prop} (h : step C ops t σ o = some (p, σ')) : Wf σ' := by
  unfold step at h
  split at h
  · split at h
    · rename_i r hr
      simp only [Option.some.injEq] at h
      subst h
      exact lstep_wf hw hr
    · exact wstep_wf hw h
  · split at h
    · split at h
      · cases h
      · exact lstep_wf hw h
    · cases h

/-! ### one run serves every order -/

theorem getD_false {l : Array Bool} {i : Nat} (h : l.getD i true = false) : l.getD i false = false := by
  simp only [Array.getD_eq_getD_getElem?] at h ⊢
  cases hh : l[i]? with
  | none => simp [hh] at h
  | some b => simp [hh] at h ⊢; exact h

theorem ready_apart {ts : List Bool} (hk : chk ops ts = true) {listed : Array Bool} (hc : Closed ops listed) {i j : Nat} (hi : i ∈ Region.ready .any ops listed) (hj : j ∈ Region.ready .any ops listed) (hne : i ≠ j) :
    ts.getD i true = false ∧ ts.getD j true = false ∧ ∃ x y, ops[i]? = some x ∧ ops[j]? = some y ∧ x.apart ops y = true ∧ y.apart ops x = true := by
  have key : ∀ i j, i < j → i ∈ Region.ready .any ops listed → j ∈ Region.ready .any ops listed → ts.getD i true = false ∧ ts.getD j true = false ∧ ∃ x y, ops[i]? = some x ∧ ops[j]? = some y ∧ x.apart ops y = true ∧ y.apart ops x = true := by
    intro i j hij hi hj
    obtain ⟨hju, oj, hoj, hall⟩ := mem_ready.1 hj
    obtain ⟨hiu, oi, hoi, _⟩ := mem_ready.1 hi
    simp only [chk, Bool.and_eq_true] at hk
    have hjn : j < ops.size := (Array.getElem?_eq_some_iff.1 hoj).1
    rcases chkPairs_spec hk.2 j (by simpa using hjn) i hij with hb | hb
    · have hw := masks_spec (ops := ops) ops.toList [] (fun j => by simp) (fun j i h => by simp at h) j i hb
      have := hw.listed hc (fun o ho => by rw [hoj] at ho; simp only [Option.some.injEq] at ho; subst ho; exact hall)
      rw [getD_false hiu] at this
      cases this
    · exact hb
  rcases Nat.lt_or_gt_of_ne hne with h | h
  · exact key i j h hi hj
  · obtain ⟨h1, h2, x, y, h3, h4, h5, h6⟩ := key j i h hj hi
    exact ⟨h2, h1, y, x, h4, h3, h6, h5⟩

theorem step_false {o : Oper} {p : Prop} (h : step C ops false σ o = some (p, σ')) : ∃ d, o.dst = some d ∧ (σ d).owner = false ∧ lstep C ops σ o = some (p, σ') := by
  unfold step at h
  rw [if_neg (by simp)] at h
  split at h
  · rename_i d hd
    split at h
    · cases h
    · rename_i ho
      exact ⟨d, hd, by simpa using ho, h⟩
  · cases h

theorem step_false' {o : Oper} {p : Prop} {d : Nat} (hd : o.dst = some d) (ho : (σ d).owner = false) (h : lstep C ops σ o = some (p, σ')) : step C ops false σ o = some (p, σ') := by
  unfold step
  rw [if_neg (by simp), hd]
  dsimp only
  rw [ho, if_neg (by simp)]
  exact h

theorem ev_any {ts : List Bool} {K : Env → Prop} (hk : chk ops ts = true) : ∀ (l : List Oper) (k : Nat) (tl : List Bool) (σ : Env), (∀ j, l[j]? = ops[k + j]?) → (∀ j, tl[j]? = ts[k + j]?) → k + l.length = ops.size → ev C ops l tl σ K → Wf σ →
    anyA (St C ops ts) ops K l.length (upto ops.size k) σ
  | [], k, tl, σ, hl, ht, hn, h, hw => by
    have hK : K σ := by cases tl <;> exact h
    refine ⟨?_, hK⟩
    cases hr : Region.ready .any ops (upto ops.size k) with
    | nil => rfl
    | cons x xs =>
      have hx : x ∈ Region.ready .any ops (upto ops.size k) := by rw [hr]; simp
      obtain ⟨h1, o, ho, _⟩ := mem_ready.1 hx
      have hxn : x < ops.size := (Array.getElem?_eq_some_iff.1 ho).1
      rw [upto_get, if_pos hxn] at h1
      simp at hn h1
      omega
  | o :: l, k, tl, σ, hl, ht, hn, h, hw => by
    cases tl with
    | nil => exact h.elim
    | cons t tl =>
      simp only [ev] at h
      split at h
      · rename_i p σ' hs
        have ho : ops[k]? = some o := by simpa using (hl 0).symm
        have htk : ts.getD k true = t := by
          have := (ht 0).symm
          simp at this
          simp [List.getD_eq_getElem?_getD, this]
        have hkn : k < ops.size := by simp at hn; omega
        have hr : k ∈ Region.ready .any ops (upto ops.size k) := by
          refine mem_ready.2 ⟨by rw [upto_get, if_pos hkn]; simp, o, ho, fun e he hb => ?_⟩
          have := hk
          simp only [chk, Bool.and_eq_true] at this
          have := chkEdges_spec this.1 k o (by simpa using ho) e he hb
          rw [upto_get, if_pos (by omega)]
          simpa using this
        have hcl : Closed ops (upto ops.size k) := by
          intro j oj hoj hj e he hb
          have hjn : j < ops.size := (Array.getElem?_eq_some_iff.1 hoj).1
          rw [upto_get, if_pos hjn] at hj
          simp at hj
          have := hk
          simp only [chk, Bool.and_eq_true] at this
          have := chkEdges_spec this.1 j oj (by simpa using hoj) e he hb
          rw [upto_get, if_pos (by omega)]
          simp; omega
        refine anyA_first (I := Wf) (i := k) (fun listed j σ σi σij hc hi hj hne hw ⟨oi, pi, hoi, hsi, hpi⟩ ⟨oj, pj, hoj, hsj, hpj⟩ => ?ex) l.length _ σ σ' hcl hw hr ⟨o, p, ho, by rw [htk]; exact hs, h.1⟩ ?main
        case ex =>
          obtain ⟨t1, t2, x, y, hx, hy, ap1, _⟩ := ready_apart hk hc hi hj (Ne.symm hne)
          rw [hoi] at hx; rw [hoj] at hy
          simp only [Option.some.injEq] at hx hy
          subst hx; subst hy
          rw [t1] at hsi; rw [t2] at hsj
          obtain ⟨di, hdi, hoi', hli⟩ := step_false hsi
          obtain ⟨dj, hdj, hoj', hlj⟩ := step_false hsj
          obtain ⟨σj, e1, e2, e3, e4, e5⟩ := lstep_comm ap1 hdi hdj hw hoi' hli hoj' hlj
          exact ⟨σj, ⟨oj, pj, hoj, by rw [t2]; exact step_false' hdj e3 e1, hpj⟩, ⟨oi, pi, hoi, by rw [t1]; exact step_false' hdi e4 e2, hpi⟩, e5⟩
        case main =>
          rw [upto_set hkn]
          exact ev_any hk l (k + 1) tl σ' (fun j => by have := hl (j + 1); simpa [Nat.add_assoc, Nat.add_comm 1 j] using this) (fun j => by have := ht (j + 1); simpa [Nat.add_assoc, Nat.add_comm 1 j] using this) (by simp at hn; omega) h.2 (step_wf hw hs)
      · exact h.elim

theorem upto_zero (n : Nat) : upto n 0 = Array.replicate n false := by
  apply Array.ext'
  simp [upto]
  induction n with
  | zero => rfl
  | succ n ih => rw [List.range_succ, List.map_append, ih, List.replicate_succ']; rfl

/-- a region that draws its order -/
theorem region_any (hC : CtxOk C) (hm : C.P.follows .mixedOrders = true) {id : Nat} {ts : List Bool} {K : Env → Prop} {Q : Exit → Act → World → Prop} (hk : chk ops ts = true) (hG : G C σ a w) (h : ev C ops ops.toList ts σ K)
    (hK : ∀ σ a w, K σ → G C σ a w → Q .normal a w) : (Code.region id ops true).wp C.P Q a w := by
  refine wp_region_any hm ?_
  have hw : Wf σ := by obtain ⟨F, O, hI⟩ := hG; exact hI.wf
  have := ev_any (C := C) hk ops.toList 0 ts σ (fun j => by simp) (fun j => by simp) (by simp) h hw
  rw [upto_zero] at this
  exact anyA_sound hC hK _ _ σ a _ (by simpa using this) hG.drew

/-- a region in the text's order -/
theorem region_lex (hC : CtxOk C) {id : Nat} {ts : List Bool} {K : Env → Prop} {Q : Exit → Act → World → Prop} (hG : G C σ a w) (h : ev C ops ops.toList ts σ K)
    (hK : ∀ σ a w, K σ → G C σ a w → Q .normal a w) : (Code.region id ops false).wp C.P Q a w := by
  refine wp_region ?_
  have := ev_ops hC (Q := Q) hK ops.toList 0 ts σ a w (fun j => by simp) h hG
  simpa using this
end
end Go.Ax
