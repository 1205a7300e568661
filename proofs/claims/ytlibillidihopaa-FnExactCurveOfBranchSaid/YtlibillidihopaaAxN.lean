/-
  AX, part N: guarded steps; regions in the text's order and in any order.
-/
import Derived.Test.YtlibillidihopaaAxM
namespace Go.Ax

def gd (ops : Array Oper) (σ : Env) (o : Oper) : Option Bool :=
  match o.guard with
  | none => some true
  | some (j, want) =>
    match (ops[j]?).bind (·.dst) with
    | some t => if (σ t).u then (if (σ t).g then (match (σ t).a with
      | .val (.bool b) => some (b == want)
      | _ => none) else some false) else none
    | none => none

def E.owner (e : E) : Bool := e.g && (match e.a with | .val x => x.owned | _ => false)

/-- a local step -/
def lstep (C : Ctx) (ops : Array Oper) (σ : Env) (o : Oper) : Option (Prop × Env) :=
  match gd ops σ o, o.dst with
  | some true, some d => match lop C σ true o with
    | some (p, A) => if C.dst d then some (p, σ.put d true A) else none
    | none => none
  | some false, some d => if C.dst d then some (True, σ.put d false (.val (.hole 0))) else none
  | _, _ => none

section
variable {C : Ctx} {F : Nat → Prop} {O : Nat → Nat → Prop} {Z : Nat → Prop} {σ σ' : Env} {a : Act} {w w' : World} {ops : Array Oper}

/-- what an environment says of a frame and a world -/
def G (C : Ctx) (σ : Env) (a : Act) (w : World) : Prop := ∃ F O, Inv C F O (fun _ => False) σ a w

def Wf (σ : Env) : Prop := ∀ t s ver, (σ t).a.refs = some (s, ver) → ver ≤ (σ s).ver

theorem gd_sound (hI : Inv C F O Z σ a w) {o : Oper} {g : Bool} (h : gd ops σ o = some g) : Region.wanted o (yielded ops a.tmps) = g := by
  unfold gd at h
  unfold Region.wanted
  split at h
  · rename_i hg; rw [hg]; simpa using h
  · rename_i j want hg
    rw [hg]
    dsimp only
    split at h
    · rename_i t ht
      split at h
      · rename_i hu
        unfold yielded
        rw [ht]
        simp only [Option.bind_some]
        split at h
        · rename_i hgt
          split at h
          · rename_i b hb
            simp only [Option.some.injEq] at h
            subst h
            obtain ⟨h1, h2, _⟩ := hI.slot t hgt
            obtain ⟨cs, h3, h4⟩ := h2 _ hb
            have hv : a.tmps.getD t undef = .bool b := by cases h4; exact h3
            have : a.tmps[t]? = some (.bool b) := by
              simp only [Array.getD_eq_getD_getElem?, Array.getElem?_eq_getElem h1, Option.getD_some] at hv
              rw [Array.getElem?_eq_getElem h1, hv]
            rw [this]
            cases b <;> cases want <;> rfl
          · cases h
        · rename_i hgt
          simp only [Option.some.injEq] at h
          subst h
          have hv := hI.und t (by simpa using hgt) hu
          have : a.tmps[t]? = none ∨ a.tmps[t]? = some undef := by
            cases hh : a.tmps[t]? with
            | none => exact .inl rfl
            | some v => right; simp only [Array.getD_eq_getD_getElem?, hh, Option.getD_some] at hv; rw [hv]
          rcases this with hh | hh <;> rw [hh] <;> rfl
      · cases h
    · cases h

theorem opd_refs (hw : Wf σ) {P : Program} {ty : TypeId} {x : Operand} {g : Bool} {A : A} (h : opd P σ ty x = some (g, A)) : ∀ s ver, A.refs = some (s, ver) → ver ≤ (σ s).ver := by
  intro s ver hr
  cases x with
  | tmp t =>
    simp only [opd] at h
    cases ha : (σ t).a with
    | val x =>
      simp only [ha] at h
      split at h
      · simp only [Option.some.injEq, Prod.mk.injEq] at h
        obtain ⟨_, rfl⟩ := h
        simp only [A.refs, Option.some.injEq, Prod.mk.injEq] at hr
        obtain ⟨rfl, rfl⟩ := hr
        exact Nat.le_refl _
      · simp only [Option.some.injEq, Prod.mk.injEq] at h
        obtain ⟨_, rfl⟩ := h
        simp [A.refs] at hr
    | _ =>
      simp only [ha, Option.some.injEq, Prod.mk.injEq] at h
      obtain ⟨_, rfl⟩ := h
      exact hw t s ver (by rw [ha]; exact hr)
  | const v =>
    simp only [opd, Option.map_eq_some_iff, Prod.mk.injEq] at h
    obtain ⟨x, _, _, rfl⟩ := h
    simp [A.refs] at hr
  | func f => simp only [opd, Option.some.injEq, Prod.mk.injEq] at h; obtain ⟨_, rfl⟩ := h; simp [A.refs] at hr
  | global g => simp [opd] at h

theorem lop_refs (hw : Wf σ) {g : Bool} {o : Oper} {p : Prop} {A : A} (h : lop C σ g o = some (p, A)) : ∀ s ver, A.refs = some (s, ver) → ver ≤ (σ s).ver := by
  have val : ∀ {x : V}, A = .val x → ∀ s ver, A.refs = some (s, ver) → ver ≤ (σ s).ver := by rintro x rfl s ver hr; simp [A.refs] at hr
  have fz : ∀ {x : V}, A = .fz x → ∀ s ver, A.refs = some (s, ver) → ver ≤ (σ s).ver := by rintro x rfl s ver hr; simp [A.refs] at hr
  unfold lop at h
  split at h
  · rw [Option.map_eq_some_iff] at h
    obtain ⟨⟨gx, a'⟩, h1, h2⟩ := h
    simp only [Prod.mk.injEq] at h2
    obtain ⟨_, rfl⟩ := h2
    exact opd_refs hw h1
  · split at h
    · split at h
      · cases h
      · simp only [Option.some.injEq, Prod.mk.injEq] at h; exact val h.2.symm
    · rename_i h1
      split at h
      · cases h
      · simp only [Option.some.injEq, Prod.mk.injEq] at h
        obtain ⟨_, rfl⟩ := h
        exact opd_refs hw h1
      · cases h
    · cases h
  · split at h
    · split at h
      · simp only [Option.some.injEq, Prod.mk.injEq] at h; exact val h.2.symm
      · cases h
    · cases h
  · split at h
    · split at h
      · rw [if_pos rfl, Option.map_eq_some_iff] at h; obtain ⟨v, _, h2⟩ := h; simp only [Prod.mk.injEq] at h2; exact val h2.2.symm
      · rw [if_neg (by simp)] at h; cases h
    · rw [Option.map_eq_some_iff] at h; obtain ⟨⟨_, v⟩, _, h2⟩ := h; simp only [Prod.mk.injEq] at h2; exact val h2.2.symm
    · cases h
  · split at h
    · simp only [Option.some.injEq, Prod.mk.injEq] at h; exact val h.2.symm
    · simp only [Option.some.injEq, Prod.mk.injEq] at h; exact val h.2.symm
    · cases h
  · split at h
    · split at h
      · simp only [Option.some.injEq, Prod.mk.injEq] at h; exact val h.2.symm
      · cases h
    · rename_i h1
      split at h
      · split at h
        · rw [Option.map_eq_some_iff] at h; obtain ⟨v, hv, h2⟩ := h; simp only [Prod.mk.injEq] at h2; obtain ⟨_, rfl⟩ := h2
          intro s ver hr
          obtain ⟨rfl, rfl⟩ := rdA_refs hv s ver hr
          exact opd_refs hw h1 _ _ rfl
        · cases h
      · cases h
    · rename_i h1
      split at h
      · split at h
        · split at h
          · rw [Option.map_eq_some_iff] at h; obtain ⟨v, hv, h2⟩ := h; simp only [Prod.mk.injEq] at h2; obtain ⟨_, rfl⟩ := h2
            intro s ver hr
            obtain ⟨rfl, rfl⟩ := rdA_refs hv s ver hr
            exact opd_refs hw h1 _ _ rfl
          · cases h
        · cases h
      · cases h
    · cases h
  · split at h
    · split at h
      · simp only [Option.some.injEq, Prod.mk.injEq] at h; exact fz h.2.symm
      · cases h
    · rename_i h1
      split at h
      · split at h
        · split at h
          · simp only [Option.some.injEq, Prod.mk.injEq] at h; obtain ⟨_, rfl⟩ := h
            intro s ver hr
            exact opd_refs hw h1 s ver hr
          · cases h
        · cases h
      · cases h
    · rename_i h1
      split at h
      · split at h
        · split at h
          · simp only [Option.some.injEq, Prod.mk.injEq] at h; obtain ⟨_, rfl⟩ := h
            intro s ver hr
            exact opd_refs hw h1 s ver hr
          · cases h
        · cases h
      · cases h
    · cases h
  · split at h
    · split at h
      · simp only [Option.some.injEq, Prod.mk.injEq] at h; exact fz h.2.symm
      · cases h
    · rename_i h1 _
      split at h
      · split at h
        · split at h
          · simp only [Option.some.injEq, Prod.mk.injEq] at h; obtain ⟨_, rfl⟩ := h
            intro s ver hr
            exact opd_refs hw h1 s ver hr
          · cases h
        · cases h
      · cases h
    · cases h
  · split at h
    · simp only [Option.some.injEq, Prod.mk.injEq] at h; exact val h.2.symm
    · cases h
  · split at h
    · split at h
      · simp only [Option.some.injEq, Prod.mk.injEq] at h; exact val h.2.symm
      · cases h
    · rename_i h1
      split at h
      · split at h
        · split at h
          · simp only [Option.some.injEq, Prod.mk.injEq] at h; obtain ⟨_, rfl⟩ := h
            intro s ver hr
            exact opd_refs hw h1 s ver hr
          · simp only [Option.some.injEq, Prod.mk.injEq] at h; exact val h.2.symm
        · cases h
      · cases h
    · cases h
  · split at h
    · split at h
      · split at h
        · simp only [Option.some.injEq, Prod.mk.injEq] at h; exact val h.2.symm
        · cases h
      · cases h
    · split at h
      · simp only [Option.some.injEq, Prod.mk.injEq] at h; exact val h.2.symm
      · cases h
    · cases h
  · split at h
    · simp only [Option.some.injEq, Prod.mk.injEq] at h; exact val h.2.symm
    · cases h
  · rw [Option.map_eq_some_iff] at h; obtain ⟨v, _, h2⟩ := h; simp only [Prod.mk.injEq] at h2; exact val h2.2.symm
  · split at h
    · split at h
      · cases h
      · split at h
        · simp only [Option.some.injEq, Prod.mk.injEq] at h; exact val h.2.symm
        · cases h
    · cases h
  · split at h
    · split at h
      · split at h
        · simp only [Option.some.injEq, Prod.mk.injEq] at h; exact val h.2.symm
        · cases h
      · cases h
    · cases h
  · split at h
    · split at h
      · split at h
        · rw [Option.map_eq_some_iff] at h; obtain ⟨v, _, h2⟩ := h; simp only [Prod.mk.injEq] at h2; exact val h2.2.symm
        · cases h
      · cases h
    · cases h
  · split at h
    · rw [Option.map_eq_some_iff] at h; obtain ⟨v, _, h2⟩ := h; simp only [Prod.mk.injEq] at h2; exact val h2.2.symm
    · cases h
  · split at h
    · simp only [Option.some.injEq, Prod.mk.injEq] at h; exact val h.2.symm
    · cases h
  · split at h
    · split at h
      · split at h
        · split at h
          · cases h
          · split at h
            · split at h
              · simp only [Option.some.injEq, Prod.mk.injEq] at h; exact val h.2.symm
              · cases h
            · split at h
              · simp only [Option.some.injEq, Prod.mk.injEq] at h; exact val h.2.symm
              · cases h
            · cases h
        · cases h
      · cases h
    · split at h
      · split at h
        · split at h
          · simp only [Option.some.injEq, Prod.mk.injEq] at h; exact val h.2.symm
          · cases h
        · cases h
      · cases h
    · split at h
      · split at h
        · split at h
          · simp only [Option.some.injEq, Prod.mk.injEq] at h; exact val h.2.symm
          · cases h
        · cases h
      · cases h
    · split at h
      · split at h
        · split at h
          · cases h
          · simp only [Option.some.injEq, Prod.mk.injEq] at h; exact val h.2.symm
        · cases h
      · cases h
    · cases h
  · cases h

theorem Inv.wfd (h : Inv C F O Z σ a w) : Wf σ := h.wf

/-- a local step goes through, in whatever the guard's case -/
theorem lstep_sound (hC : CtxOk C) (hI : Inv C F O (fun _ => False) σ a w) {i : Nat} {o : Oper} (hi : ops[i]? = some o) {p : Prop} (h : lstep C ops σ o = some (p, σ')) (hp : p) {Q : Exit → Act → World → Prop} :
    wpOp C.P ops Q i (G C σ') a w := by
  unfold lstep at h
  split at h
  · rename_i d hgd hd
    split at h
    · rename_i p' A hl
      split at h
      · rename_i hdn
        simp only [Option.some.injEq, Prod.mk.injEq] at h
        obtain ⟨rfl, rfl⟩ := h
        have hw := gd_sound hI hgd
        have hdl : d < a.tmps.size := by rw [hI.ts]; exact hdn.2
        unfold wpOp
        rw [hi]
        dsimp only
        rw [hw, if_pos rfl]
        exact .inl (Oper.wp_mono (fun a' w' h => h) (lop_sound hC hI hl rfl hp hd hdl hdn.1 (lop_refs hI.wfd hl)))
      · cases h
    · cases h
  · rename_i d hgd hd
    split at h
    · rename_i hdn
      simp only [Option.some.injEq, Prod.mk.injEq] at h
      obtain ⟨_, rfl⟩ := h
      have hw := gd_sound hI hgd
      have hdl : d < a.tmps.size := by rw [hI.ts]; exact hdn.2
      unfold wpOp
      rw [hi]
      dsimp only
      rw [hw, if_neg (by simp), hd]
      exact ⟨F, _, (hI.putVal hdl (.inl hdn.1) (g := false) (cs := []) (On := fun _ => False) (x := .hole 0) (fun h => by cases h) (fun _ h => h) (fun _ => rfl)).lessZ (fun _ h => h.elim)⟩
    · cases h
  · cases h
end
end Go.Ax
