/-
  AX, part K: contracts, calls, and the soundness of a step.
-/
import Derived.Test.YtlibillidihopaaAxJ
import Derived.Below
namespace Go.Ax
open Go.RowKit

/-- it can be called -/
def Callable (P : Program) (k : FuncId) : Prop := ∃ fn, P.funcs[k]? = some fn ∧ (fn.name == "runtime.NumGoroutine") = false ∧ fn.body.isNone = false

/-- THE CONTRACT OF A FUNCTION at values: called with arguments that read as 'args' it returns what reads as r; what r owns is new; all that stood stays. -/
def FnOk (P : Program) (k : FuncId) (args : List V) (r : V) : Prop :=
  Callable P k ∧
  ∀ (vals : Array Value) (w : World) (F : Nat → Prop), vals.size = args.length → (∀ (i : Nat) (x : V), args[i]? = some x → ∃ cs, x.reg cs (vals.getD i undef) ∧ Rep P.cellsOf w F x cs (fun _ => False)) → (∀ b, F b → b < w.heap.size) →
    Calls P k vals w (fun e w' => ∃ (v : Value) (cs : List Value) (On Fr : Nat → Prop), e = .returned v ∧ r.reg cs v ∧ Rep P.cellsOf w' (fun b => F b ∨ Fr b) r cs On ∧ (∀ b, On b ∨ Fr b → w.heap.size ≤ b ∧ b < w'.heap.size) ∧ (∀ b, On b → ¬ Fr b) ∧ Below w.heap.size w w')

/-- what the context says of functions is so -/
def CtxOk (C : Ctx) : Prop := (∀ k args q r, C.Φ k args = some (q, r, []) → q → FnOk C.P k args r)

section
variable {C : Ctx} {F : Nat → Prop} {O : Nat → Nat → Prop} {Z : Nat → Prop} {σ : Env} {a : Act} {w w' : World}

theorem V.sizes_map (l : List V) : V.sizes l = (l.map V.size).sum := by
  induction l with
  | nil => rfl
  | cons x l ih => simp [V.sizes, ih]

theorem offs_congr {l l' : List V} (h : l.map V.size = l'.map V.size) (i : Nat) : V.offs l i = V.offs l' i := by
  unfold V.offs
  rw [V.sizes_map, V.sizes_map, List.map_take, List.map_take, h]

mutual
theorem V.cpv_unowned (get : List Nat → V) : ∀ (x : V) (p : List Nat), x.owned = false → x.cpv get p = x
  | .int _ _, _, _ => rfl
  | .bool _, _, _ => rfl
  | .str _, _, _ => rfl
  | .slc o _ _ _, _, h => by simp only [V.owned] at h; subst h; simp [V.cpv]
  | .agg fs, p, h => by simp only [V.owned] at h; simp only [V.cpv]; rw [V.cpvs_unowned get fs p 0 h]
  | .box _ _, _, h => by simp [V.owned] at h
  | .tup _, _, _ => rfl
  | .fn _ _, _, _ => rfl
  | .hole _, _, _ => rfl
theorem V.cpvs_unowned (get : List Nat → V) : ∀ (fs : List V) (p : List Nat) (i : Nat), V.owneds fs = false → V.cpvs get fs p i = fs
  | [], _, _, _ => rfl
  | x :: xs, p, i, h => by
    simp only [V.owneds, Bool.or_eq_false_iff] at h
    simp only [V.cpvs]
    rw [V.cpv_unowned get x _ h.1, V.cpvs_unowned get xs p (i + 1) h.2]
end

theorem V.cpvs_get (get : List Nat → V) : ∀ (fs : List V) (p : List Nat) (j i : Nat), (V.cpvs get fs p j)[i]? = (fs[i]?).map fun x => x.cpv get (p ++ [j + i])
  | [], _, _, _ => by simp [V.cpvs]
  | x :: xs, p, j, 0 => by simp [V.cpvs]
  | x :: xs, p, j, i + 1 => by
    simp only [V.cpvs, List.getElem?_cons_succ]
    rw [V.cpvs_get get xs p (j + 1) i]
    rw [show j + 1 + i = j + (i + 1) from by omega]

theorem V.cpoks_get (ok : List Nat → Prop) : ∀ (fs : List V) (p : List Nat) (j : Nat), V.cpoks ok fs p j → ∀ (i : Nat) (x : V), fs[i]? = some x → x.cpok ok (p ++ [j + i])
  | [], _, _, _, i, x, hx => by simp at hx
  | y :: ys, p, j, h, 0, x, hx => by simp at hx; subst hx; exact h.1
  | y :: ys, p, j, h, i + 1, x, hx => by
    have := V.cpoks_get ok ys p (j + 1) h.2 i x (by simpa using hx)
    rw [show j + 1 + i = j + (i + 1) from by omega] at this
    exact this

theorem V.okr_of {x : V} {p : List Nat} (h : x.okm p) (hH : (x.at p).isH = true) : x.okr p := by
  cases p with
  | nil => trivial
  | cons i p =>
    cases x with
    | tup fs => exact h.1.elim
    | _ => cases p <;> exact ⟨h, hH⟩

/-- a struct's copy, as read -/
theorem cp_look (hI : Inv C F O Z σ a w) {s ver : Nat} {r : V} (hr : σ.own s ver = some r) {x : V} {p : List Nat} {c : List Value}
    (h : Cp (fun q h => ∀ r h', σ.own s ver = some r → r.okv q → hdrV C.cz w q r (a.tmps.getD s undef) = some h' → h' = h) (fun y c => Rep C.cz w F y c (fun _ => False)) x p c) :
    x.cpok (fun q => r.okm q ∧ (r.at q).isH = true) p → Rep C.cz w (fun b => F b ∨ ∃ s, O s b) (x.cpv (fun q => r.at q) p).frz c (fun _ => False) ∧ (x.cpv (fun q => r.at q) p).size = x.size := by
  induction h with
  | val x p c hx h hl =>
    intro _
    rw [V.cpv_unowned _ x p hx]
    exact ⟨(h.frz).mono (fun b hb => .inl (hb.resolve_right id)) (fun _ h => h), rfl⟩
  | hd x p h hx hp =>
    intro hok
    have hok' : (r.okm p ∧ (r.at p).isH = true) ∧ x.cpv (fun q => r.at q) p = r.at p ∧ x.size = 1 := by
      cases x with
      | slc o e d es => simp only [V.isH] at hx; subst hx; exact ⟨by simpa [V.cpok] using hok, by simp [V.cpv], rfl⟩
      | box e c => exact ⟨hok, rfl, rfl⟩
      | _ => simp [V.isH] at hx
    obtain ⟨h1, h2, h3⟩ := hok'
    rw [h2]
    have hop : Holds C.cz w F σ a.tmps (.rf s ver p) h := fun r' h' hr' hv hh => (hp r' h' hr' hv hh).symm
    obtain ⟨cs, Oy, e1, e2, e3⟩ := rf_sound hI hop hr (V.okr_of h1.1 h1.2)
    obtain ⟨u, rfl, _⟩ := isHdr_of_isH e2 h1.2
    have hu : h = u := by
      have hH := h1.2
      revert e1 hH
      cases r.at p <;> intro e1 hH <;> first | exact e1 | simp [V.isH] at hH
    subst hu
    have := e2.frz
    refine ⟨this.mono (fun b hb => hb.imp id (fun hb => ⟨s, e3 b hb⟩)) (fun _ h => h), ?_⟩
    rw [← e2.length, h3]
    rfl
  | agg fs p c hn h ih =>
    intro hok
    have hall : ∀ (i : Nat) (y : V), fs[i]? = some y → Rep C.cz w (fun b => F b ∨ ∃ s, O s b) (y.cpv (fun q => r.at q) (p ++ [i])).frz ((c.drop (V.offs fs i)).take y.size) (fun _ => False) ∧ (y.cpv (fun q => r.at q) (p ++ [i])).size = y.size := by
      intro i y hy
      have := V.cpoks_get _ fs p 0 hok i y hy
      rw [Nat.zero_add] at this
      exact ih i y hy this
    have hmap : (V.cpvs (fun q => r.at q) fs p 0).map V.size = fs.map V.size := by
      apply List.ext_getElem?
      intro i
      rw [List.getElem?_map, List.getElem?_map, V.cpvs_get]
      cases hy : fs[i]? with
      | none => rfl
      | some y => simp only [Option.map_some, Nat.zero_add]; rw [(hall i y hy).2]
    refine ⟨?_, by simp only [V.cpv, V.size]; rw [V.sizes_map, V.sizes_map, hmap]⟩
    simp only [V.cpv, V.frz]
    refine .agg _ c (fun _ _ => False) _ (by rw [V.frzs_size, V.sizes_map, hmap, ← V.sizes_map]; exact hn) (fun _ _ h => h) (fun _ _ _ _ h => h.elim) (fun i z hz => ?_)
    rw [V.frzs_eq, List.getElem?_map, V.cpvs_get] at hz
    cases hy : fs[i]? with
    | none => simp [hy] at hz
    | some y =>
      simp only [hy, Option.map_some, Option.some.injEq, Nat.zero_add] at hz
      subst hz
      rw [V.offs_frzs, offs_congr hmap, V.frz_size, (hall i y hy).2]
      exact (hall i y hy).1

/-- an operand, as read -/
theorem look_sound (hI : Inv C F O Z σ a w) {A : A} {v : Value} {x : V} (hop : Holds C.cz w F σ a.tmps A v) (hok : A.okA σ) (hl : A.look σ = some x) :
    ∃ cs, x.frz.reg cs v ∧ Rep C.cz w (fun b => F b ∨ ((x.owned || A.isAg) = true ∧ ∃ s, O s b)) x.frz cs (fun _ => False) := by
  have fin : ∀ {cs : List Value} {Oy : Nat → Prop}, x.reg cs v → Rep C.cz w F x cs Oy → (∀ b, Oy b → ∃ s, O s b) → ∃ cs, x.frz.reg cs v ∧ Rep C.cz w (fun b => F b ∨ ((x.owned || A.isAg) = true ∧ ∃ s, O s b)) x.frz cs (fun _ => False) := by
    intro cs Oy e1 e2 e3
    refine ⟨cs, V.frz_reg e1, ?_⟩
    by_cases hx : x.owned = true
    · exact e2.frz.mono (fun b hb => hb.imp id (fun hb => ⟨by simp [hx], e3 b hb⟩)) (fun _ h => h)
    · exact (e2.unowned (by simpa using hx)).frz.mono (fun b hb => hb.imp id False.elim) (fun _ h => h)
  cases A with
  | val z =>
    simp only [A.look, Option.some.injEq] at hl
    subst hl
    obtain ⟨cs, e1, e2⟩ := hop
    exact fin e1 e2 (fun _ h => h.elim)
  | rf s ver p =>
    simp only [A.look, Option.map_eq_some_iff] at hl
    obtain ⟨r, hr, rfl⟩ := hl
    simp only [A.okA, hr] at hok
    obtain ⟨cs, Oy, e1, e2, e3⟩ := rf_sound hI hop hr hok
    exact fin e1 e2 (fun b hb => ⟨s, e3 b hb⟩)
  | ag s ver p z =>
    simp only [A.look, Option.map_eq_some_iff] at hl
    obtain ⟨r, hr, rfl⟩ := hl
    simp only [A.okA, hr] at hok
    obtain ⟨cs, e1, hcp⟩ := hop
    obtain ⟨e2, _⟩ := cp_look hI hr hcp hok
    refine ⟨cs, ?_, e2.mono (fun b hb => hb.imp id (fun hb => ⟨by simp [A.isAg], hb⟩)) (fun _ h => h)⟩
    simp only [V.cpv, V.frz, V.reg]
    exact e1
  | ad => simp [A.look] at hl
  | fz => simp [A.look] at hl
end
end Go.Ax
