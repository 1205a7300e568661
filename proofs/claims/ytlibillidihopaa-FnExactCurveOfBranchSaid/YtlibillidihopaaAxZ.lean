/-
  AX, part Z: a local step of the second level is one of the first.
-/
import Derived.Test.YtlibillidihopaaAxY
namespace Go.Ax

section
variable {C : Ctx} {T : Tab} {S : Sta} {σ : Env} {B : Book}

theorem fillV_len : ∀ (vs : List (Nat × V)) (fs r : List V), fillV fs vs = some r → r.length = fs.length
  | [], fs, r, h => by simp only [fillV, Option.some.injEq] at h; rw [h]
  | (i, v) :: l, fs, r, h => by
    simp only [fillV] at h
    split at h
    · split at h
      · rw [fillV_len l _ r h]; simp
      · cases h
    · cases h

theorem vw_fz (hT : TabOk C.P T) {t : TypeId} {y z : V} (h : vw (std T).v T false 20 t y = some z) (hok : (std T).ok false t y) : z = y ∧ fits C.P t y = true := by
  have h1 : vw stdV T false 20 t y = some y := hok
  have h2 : vw stdV T false 20 t y = some z := h
  rw [h1] at h2
  simp only [Option.some.injEq] at h2
  exact ⟨h2.symm, (vw_size hT false 20 t y y h1).2.2.1⟩

theorem own_noneOf (hA : Agr S σ) {s : Nat} {r : V} (h : ownS S s = some r) (p : List Nat) : (vz σ (.rf s 0 p)) = .rf s (σ s).ver p ∧ σ.own s (σ s).ver = some r := ⟨rfl, ownS_sound hA h⟩

theorem offs_sum (hT : TabOk C.P T) : ∀ (fts : List (Nat × TypeId)) (ys : List V) (n k m : Nat), offsC T fts k = some m → (∀ (i : Nat) (x : Nat × TypeId) (y : V), fts[i]? = some x → ys[i]? = some y → y.size = tcells T x.2) → fts.length = ys.length →
    ∀ (x : Nat × TypeId), fts[n]? = some x → x.1 = k + V.offs ys n ∧ tcells T x.2 ≠ 0
  | [], _, _, _, _, _, _, _, _, hx => by simp at hx
  | (o, t) :: fts, [], _, _, _, _, _, hl, _, _ => by simp at hl
  | (o, t) :: fts, y :: ys, n, k, m, h, hs, hl, x, hx => by
    simp only [offsC] at h
    split at h
    · rename_i ti ht
      split at h
      · rename_i hc
        have h0 := hs 0 (o, t) y rfl rfl
        simp only [tcells, ht] at h0
        cases n with
        | zero =>
          simp at hx
          subst hx
          exact ⟨by simp [V.offs, V.sizes, hc.1], by simp [tcells, ht, hc.2]⟩
        | succ n =>
          have := offs_sum hT fts ys n (k + ti.cells) m h (fun i x y h1 h2 => hs (i + 1) x y (by simpa using h1) (by simpa using h2)) (by simpa using hl) x (by simpa using hx)
          refine ⟨?_, this.2⟩
          rw [this.1]
          simp only [V.offs, List.take_succ_cons, V.sizes, h0]
          omega
      · cases h
    · cases h

theorem vws_get (hT : TabOk C.P T) (o : Bool) : ∀ (n : Nat) (fs : List (Nat × TypeId)) (i : Nat) (y : V) (ys : List V), vws stdV T o n fs i y = some ys → ∀ (j : Nat) (x : Nat × TypeId) (z : V), fs[j]? = some x → ys[j]? = some z → z.size = tcells T x.2
  | _, [], _, _, _, _, j, x, z, hx, _ => by simp at hx
  | 0, _ :: _, _, _, _, hv, _, _, _, _, _ => by simp [vws] at hv
  | n + 1, (o', t) :: fs, i, y, ys, hv, j, x, z, hx, hz => by
    simp only [vws] at hv
    split at hv
    · rename_i v hv1
      split at hv
      · rename_i vs hv2
        simp only [Option.some.injEq] at hv
        subst hv
        cases j with
        | zero =>
          simp at hx hz
          subst hx; subst hz
          exact (vw_size hT o n t _ v hv1).1
        | succ j => exact vws_get hT o n fs (i + 1) y vs hv2 j x z (by simpa using hx) (by simpa using hz)
      · cases hv
    · cases hv

/-- a struct of a type of the table: where its fields lie -/
theorem field_ok (hT : TabOk C.P T) {t f : Nat} {fts : List (Nat × TypeId)} {x : Nat × TypeId} (hf : fieldsT T t = some fts) (hx : nthF fts f = some x) {fs : List V} (hz : ∃ o y n, vw stdV T o n t y = some (.agg fs)) :
    fieldT C.P t f = some x ∧ C.P.cellsOf x.2 ≠ 0 ∧ f < fs.length ∧ V.offs fs f = x.1 := by
  obtain ⟨o, y, n, hz⟩ := hz
  have h1 : fieldT C.P t f = some x := by rw [fieldT_of (hT.fields hf)]; exact hx
  rw [nthF_get] at hx
  cases n with
  | zero => simp [vw] at hz
  | succ n =>
    unfold fieldsT at hf
    split at hf
    · rename_i fs' c zz ht
      simp only [Option.some.injEq] at hf
      subst hf
      simp only [vw, ht] at hz
      split at hz
      · rename_i ys hys
        simp only [Option.some.injEq, V.agg.injEq] at hz
        subst hz
        have hc := hT.c ht
        simp only [chkTI, decide_eq_true_eq] at hc
        have hl := (vws_size hT o n fs' 0 y ys hys).2.2
        obtain ⟨e1, e2⟩ := offs_sum hT fs' ys f 0 c hc (vws_get hT o n fs' 0 y ys hys) hl.symm x hx
        have hlt : f < fs'.length := (List.getElem?_eq_some_iff.1 hx).1
        refine ⟨h1, ?_, by omega, by omega⟩
        unfold tcells at e2
        split at e2
        · rename_i ti hti; rw [hT.cells hti]; exact e2
        · exact absurd rfl e2
      · cases hz
    · cases hf
end
end Go.Ax
