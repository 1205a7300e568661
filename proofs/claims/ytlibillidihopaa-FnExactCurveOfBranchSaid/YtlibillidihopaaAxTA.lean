/-
  AX, part TA: values of one shape; a frame that is put together of two.
-/
import Derived.Test.YtlibillidihopaaAxT
namespace Go.Ax
open Go.RowKit

/-- one shape: only scalars differ -/
inductive Sh : V → V → Prop
  | refl (x : V) : Sh x x
  | scal (x y : V) (hx : x.isScalar = true) (hy : y.isScalar = true) : Sh x y
  | slc (o : Bool) (e : TypeId) (d : V) (es es' : List V) (hl : es.length = es'.length) (h : ∀ (i : Nat) (x y : V), es[i]? = some x → es'[i]? = some y → Sh x y) : Sh (.slc o e d es) (.slc o e d es')
  | agg (es es' : List V) (hl : es.length = es'.length) (h : ∀ (i : Nat) (x y : V), es[i]? = some x → es'[i]? = some y → Sh x y) : Sh (.agg es) (.agg es')
  | box (e : TypeId) (c c' : V) (h : Sh c c') : Sh (.box e c) (.box e c')

theorem sizes_congr : ∀ {es es' : List V}, es.length = es'.length → (∀ (i : Nat) (x y : V), es[i]? = some x → es'[i]? = some y → x.size = y.size) → es.map V.size = es'.map V.size
  | [], [], _, _ => rfl
  | x :: es, y :: es', hl, h => by
    simp only [List.map_cons]
    rw [h 0 x y rfl rfl, sizes_congr (by simpa using hl) (fun i x y a b => h (i + 1) x y (by simpa using a) (by simpa using b))]
  | [], _ :: _, hl, _ => by simp at hl
  | _ :: _, [], hl, _ => by simp at hl

theorem scalar_facts {x : V} (h : x.isScalar = true) : x.size = 1 ∧ x.isH = false ∧ x.owned = false ∧ (∀ i, ¬ x.hasKid i) ∧ (∀ fs, x ≠ .tup fs) ∧ (∀ fs, x ≠ .agg fs) := by
  cases x <;> simp_all [V.isScalar, V.size, V.isH, V.owned, V.hasKid]

theorem Sh.facts {x y : V} (h : Sh x y) : x.size = y.size ∧ x.isH = y.isH ∧ x.owned = y.owned ∧ (∀ i, y.hasKid i → x.hasKid i ∧ Sh (x.kid i) (y.kid i)) ∧ (∀ fs, x = .agg fs → ∃ fs', y = .agg fs' ∧ ∀ i, V.offs fs i = V.offs fs' i) ∧
    ((∃ fs, x = .tup fs) → x = y) ∧ ((∃ fs, y = .tup fs) → x = y) := by
  induction h with
  | refl x => exact ⟨rfl, rfl, rfl, fun i h => ⟨h, .refl _⟩, fun fs h => ⟨fs, h, fun _ => rfl⟩, fun _ => rfl, fun _ => rfl⟩
  | scal x y hx hy =>
    obtain ⟨a1, a2, a3, a4, a5, a6⟩ := scalar_facts hx
    obtain ⟨b1, b2, b3, b4, b5, b6⟩ := scalar_facts hy
    exact ⟨by rw [a1, b1], by rw [a2, b2], by rw [a3, b3], fun i h => absurd h (b4 i), fun fs h => absurd h (a6 fs), fun ⟨fs, h⟩ => absurd h (a5 fs), fun ⟨fs, h⟩ => absurd h (b5 fs)⟩
  | slc o e d es es' hl h ih =>
    refine ⟨rfl, rfl, rfl, fun i hk => ?_, fun fs h => (by cases h), fun ⟨fs, h⟩ => (by cases h), fun ⟨fs, h⟩ => (by cases h)⟩
    have hi : i < es'.length := hk.2
    refine ⟨⟨hk.1, by omega⟩, ?_⟩
    exact h i _ _ (some_of_lt d (by omega)) (some_of_lt d hi)
  | agg es es' hl h ih =>
    have hs := sizes_congr hl (fun i x y a b => (ih i x y a b).1)
    refine ⟨by simp only [V.size, V.sizes_map, hs], rfl, ?_, fun i hk => ?_, fun fs h => ?_, fun ⟨fs, h⟩ => (by cases h), fun ⟨fs, h⟩ => (by cases h)⟩
    · simp only [V.owned, V.owneds_eq]
      rw [Bool.eq_iff_iff, List.any_eq_true, List.any_eq_true]
      constructor
      · rintro ⟨x, hx, ho⟩
        obtain ⟨i, hi⟩ := List.getElem?_of_mem hx
        have hil := (List.getElem?_eq_some_iff.1 hi).1
        have hy : es'[i]? = some (es'[i]'(by omega)) := List.getElem?_eq_getElem (by omega)
        exact ⟨_, List.mem_of_getElem? hy, by rw [← (ih i x _ hi hy).2.2.1]; exact ho⟩
      · rintro ⟨x, hx, ho⟩
        obtain ⟨i, hi⟩ := List.getElem?_of_mem hx
        have hil := (List.getElem?_eq_some_iff.1 hi).1
        have hy : es[i]? = some (es[i]'(by omega)) := List.getElem?_eq_getElem (by omega)
        exact ⟨_, List.mem_of_getElem? hy, by rw [(ih i _ x hy hi).2.2.1]; exact ho⟩
    · have hi : i < es'.length := hk
      exact ⟨(by show i < es.length; omega), h i _ _ (some_of_lt _ (by omega)) (some_of_lt _ hi)⟩
    · cases h
      exact ⟨es', rfl, fun i => offs_congr hs i⟩
  | box e c c' h ih => exact ⟨rfl, rfl, rfl, fun i _ => ⟨trivial, h⟩, fun fs h => (by cases h), fun ⟨fs, h⟩ => (by cases h), fun ⟨fs, h⟩ => (by cases h)⟩

theorem Sh.okp : ∀ {p : List Nat} {x y : V}, Sh x y → y.okp p → x.okp p
  | [], _, _, _, _ => trivial
  | i :: p, x, y, h, hk => by
    obtain ⟨k1, k2⟩ := h.facts.2.2.2.1 i hk.1
    exact ⟨k1, k2.okp hk.2⟩
theorem Sh.okv {p : List Nat} {x y : V} (h : Sh x y) (hk : y.okv p) : x.okv p := by
  by_cases ht : ∃ fs, y = .tup fs
  · rw [h.facts.2.2.2.2.2.2 ht]; exact hk
  · exact V.okv_of_okp (h.okp (V.okv_of_ne hk (fun fs e => ht ⟨fs, e⟩)))
theorem Sh.at : ∀ {p : List Nat} {x y : V}, Sh x y → y.okp p → Sh (x.at p) (y.at p)
  | [], _, _, h, _ => h
  | i :: p, x, y, h, hk => by
    obtain ⟨_, k2⟩ := h.facts.2.2.2.1 i hk.1
    exact k2.at hk.2

section
variable (cz : TypeId → Nat) (w : World)
theorem Sh.locM : ∀ {p : List Nat} {x y : V} {b o : Nat}, Sh x y → y.okp p → Go.Ax.locM cz w p x b o = Go.Ax.locM cz w p y b o
  | [], x, y, b, o, h, _ => by cases x <;> cases y <;> rfl
  | i :: p, x, y, b, o, h, hk => by
    obtain ⟨k1, k2⟩ := h.facts.2.2.2.1 i hk.1
    have hk2 := hk.2
    cases h with
    | refl => rfl
    | scal _ _ hx hy => exact absurd hk.1 ((scalar_facts hy).2.2.2.1 i)
    | slc oo e d es es' hl h =>
      simp only [Go.Ax.locM]
      split
      · exact Sh.locM k2 hk2
      · rfl
    | agg es es' hl h =>
      obtain ⟨fs', e1, e2⟩ := (Sh.agg es es' hl h).facts.2.2.2.2.1 es rfl
      cases e1
      simp only [Go.Ax.locM]
      rw [e2 i]
      exact Sh.locM k2 hk2
    | box e c c' h =>
      simp only [Go.Ax.locM]
      split
      · exact Sh.locM k2 hk2
      · rfl
theorem Sh.locV {p : List Nat} {x y : V} {v : Value} (h : Sh x y) (hk : y.okp p) : Go.Ax.locV cz w p x v = Go.Ax.locV cz w p y v := by
  cases p with
  | nil => cases x <;> cases y <;> rfl
  | cons i p =>
    obtain ⟨k1, k2⟩ := h.facts.2.2.2.1 i hk.1
    have hk2 := hk.2
    cases h with
    | refl => rfl
    | scal _ _ hx hy => exact absurd hk.1 ((scalar_facts hy).2.2.2.1 i)
    | slc oo e d es es' hl h =>
      cases v with
      | slice a l c =>
        cases a with
        | none => rfl
        | some a => exact Sh.locM cz w k2 hk2
      | _ => rfl
    | agg es es' hl h => rfl
    | box e c c' h =>
      cases v with
      | pointer a =>
        cases a with
        | none => rfl
        | some a => exact Sh.locM cz w k2 hk2
      | _ => rfl
theorem Sh.hdrV {p : List Nat} {x y : V} {v : Value} (h : Sh x y) (hk : y.okv p) : Go.Ax.hdrV cz w p x v = Go.Ax.hdrV cz w p y v := by
  by_cases ht : ∃ fs, y = .tup fs
  · rw [h.facts.2.2.2.2.2.2 ht]
  · have hk' := V.okv_of_ne hk (fun fs e => ht ⟨fs, e⟩)
    have htx : ∀ fs, x ≠ .tup fs := fun fs e => ht ⟨fs, by rw [← h.facts.2.2.2.2.2.1 ⟨fs, e⟩]; exact e⟩
    cases p with
    | nil => rfl
    | cons i p =>
      have e1 : ∀ z : V, (∀ fs, z ≠ .tup fs) → Go.Ax.hdrV cz w (i :: p) z v = if (z.at (i :: p)).isH then (Go.Ax.locV cz w (i :: p) z v).bind fun a => w.cell? ⟨a.1, a.2, none⟩ else none := by
        intro z hz
        cases p with
        | nil => cases z <;> first | rfl | exact absurd rfl (hz _)
        | cons j p => rfl
      rw [e1 x htx, e1 y (fun fs e => ht ⟨fs, e⟩), (h.at hk').facts.2.1, h.locV cz w hk']
end

theorem Sh.setKid {x : V} {i : Nat} {y : V} (hk : x.hasKid i) (h : Sh (x.kid i) y) : Sh x (x.setKid i y) := by
  cases x with
  | slc o e d es =>
    refine .slc o e d es _ (by simp) (fun j a b ha hb => ?_)
    rcases V.set_some hb with ⟨rfl, rfl⟩ | ⟨_, hb⟩
    · have : a = es.getD j d := by rw [List.getD_eq_getElem?_getD, ha]; rfl
      rw [this]; exact h
    · rw [ha] at hb; cases hb; exact .refl _
  | agg fs =>
    refine .agg fs _ (by simp) (fun j a b ha hb => ?_)
    rcases V.set_some hb with ⟨rfl, rfl⟩ | ⟨_, hb⟩
    · have : a = fs.getD j (.hole 0) := by rw [List.getD_eq_getElem?_getD, ha]; rfl
      rw [this]; exact h
    · rw [ha] at hb; cases hb; exact .refl _
  | box e c => exact .box e c y h
  | _ => exact hk.elim
theorem Sh.upd : ∀ {p : List Nat} {x y : V}, x.okp p → Sh (x.at p) y → Sh x (x.upd p y)
  | [], _, _, _, h => h
  | i :: p, x, y, hk, h => Sh.setKid hk.1 (Sh.upd hk.2 h)

section
variable {C : Ctx} {F F' : Nat → Prop} {O O' : Nat → Nat → Prop} {Z Z' : Nat → Prop} {σ σ' σb : Env} {a : Act} {w w' : World}

/-- Two frames over the same registers: what slots hold is of the later one, what refers to them of the earlier one: shapes and headers stayed. -/
theorem Inv.combine (hI : Inv C F O Z σ a w) (hB : Inv C F' O' Z' σb a w') (hF : ∀ b, F b → F' b) (hmF : ∀ b, F b → w'.heap[b]? = w.heap[b]?)
    (hH : ∀ s k off u, O s k → isHdr u = true → w.cell? ⟨k, off, none⟩ = some u → w'.cell? ⟨k, off, none⟩ = some u)
    (h0 : ∀ t, (σ' t).g = (σ t).g ∧ (σ' t).u = (σ t).u ∧ (σ' t).ver = (σ t).ver) (h1 : ∀ t, (∀ x, (σ t).a ≠ .val x) → (σ' t).a = (σ t).a)
    (h2 : ∀ t x, (σ t).a = .val x → ∃ x', (σ' t).a = .val x' ∧ Sh x x' ∧ ((σ t).g = true → (σb t).g = true ∧ (σb t).a = .val x')) : Inv C F' O' Z' σ' a w' := by
  have hpr : ∀ s ver, Pres C.cz w w' σ σ' a.tmps a.tmps s ver := by
    intro s ver r' hr'
    obtain ⟨g1, g2, g3, g4⟩ := Env.own_iff'.1 hr'
    have hr : ∃ r, (σ s).a = .val r ∧ Sh r r' := by
      cases ha : (σ s).a with
      | val r =>
        obtain ⟨x', e1, e2, _⟩ := h2 s r ha
        rw [e1] at g3
        simp only [A.val.injEq] at g3
        subst g3
        exact ⟨r, rfl, e2⟩
      | _ => have := h1 s (fun x hx => by rw [ha] at hx; cases hx); rw [this, ha] at g3; cases g3
    obtain ⟨r, hr, hsh⟩ := hr
    have hgs : (σ s).g = true := by rw [← (h0 s).1]; exact g1
    obtain ⟨cs, hreg, hrep⟩ := (hI.slot s hgs).2.1 r hr
    refine ⟨r, Env.own_iff'.2 ⟨hgs, by rw [← (h0 s).2.2]; exact g2, hr, by rw [hsh.facts.2.2.1]; exact g4⟩, fun p h hok hh => ?_, fun p q hok hh => ?_⟩
    · have hk := hsh.okv hok
      rw [← hsh.hdrV C.cz w' hok] at hh
      exact ⟨hk, hdrV_mem hrep hreg hk (hH s) hh⟩
    · have hk := hsh.okp hok
      rw [← hsh.locV C.cz w' hok] at hh
      exact ⟨hk, by rw [locV_mem hrep hreg hk (hH s)] at hh; exact hh⟩
  refine ⟨fun t hg => ?_, hB.oo, hB.of, hB.oz, hB.zf, hB.olt, hB.zlt, hB.flt, hB.ofr, hB.zfr, hB.f0, hB.ffr, hB.old, hB.size, hB.os, hB.tape, hB.output, hB.defers, fun t s ver hr => ?_, fun t hg hu => ?_, hB.ts, hB.kp, hB.hx⟩
  · have hgs : (σ t).g = true := by rw [← (h0 t).1]; exact hg
    obtain ⟨e1, e2, e3⟩ := hI.slot t hgs
    cases ha : (σ t).a with
    | val x =>
      obtain ⟨x', f1, _, f2⟩ := h2 t x ha
      obtain ⟨f3, f4⟩ := f2 hgs
      refine ⟨e1, fun y hy => ?_, fun hn => absurd f1 (hn x')⟩
      rw [f1] at hy
      simp only [A.val.injEq] at hy
      subst hy
      exact (hB.slot t f3).2.1 _ f4
    | _ =>
      have hne : ∀ x, (σ t).a ≠ .val x := fun x hx => by rw [ha] at hx; cases hx
      have e4 := h1 t hne
      refine ⟨e1, fun y hy => absurd (e4 ▸ hy) (hne y), fun _ => ?_⟩
      rw [e4]
      exact (e3 hne).pres (fun s ver _ => hpr s ver) hF hmF
  · by_cases hne : ∀ x, (σ t).a ≠ .val x
    · rw [h1 t hne] at hr
      rw [(h0 s).2.2]
      exact hI.wf t s ver hr
    · simp only [Classical.not_forall, Classical.not_not] at hne
      obtain ⟨x, hx⟩ := hne
      obtain ⟨x', f1, _⟩ := h2 t x hx
      rw [f1] at hr
      simp [A.refs] at hr
  · rw [(h0 t).1] at hg
    rw [(h0 t).2.1] at hu
    exact hI.und t hg hu
end
end Go.Ax
