/-
  AX, part X: what a state says of an environment; operands, paths, arguments.
-/
import Derived.Test.YtlibillidihopaaAxW
namespace Go.Ax

def gb : Option Bool → Bool
  | none => true
  | some b => b
def vz (σ : Env) : A → A
  | .rf s _ p => .rf s (σ s).ver p
  | .ad s _ p => .ad s (σ s).ver p
  | .ag s _ p fs => .ag s (σ s).ver p fs
  | a => a

structure Agr (S : Sta) (σ : Env) : Prop where
  on : ∀ t g a, (t, g, a) ∈ S → (σ t).g = gb g ∧ (σ t).u = true ∧ (gb g = true → (σ t).a = vz σ a)
  off : ∀ t, (∀ e, (t, e) ∉ S) → (σ t).owner = false

def Alls (ps : List Prop) : Prop := ∀ q ∈ ps, q
theorem alls_nil : Alls [] := fun _ h => by simp at h
theorem alls_cons {p : Prop} {l : List Prop} : Alls (p :: l) ↔ p ∧ Alls l := by
  constructor
  · exact fun h => ⟨h p (by simp), fun q hq => h q (List.mem_cons_of_mem _ hq)⟩
  · rintro ⟨h1, h2⟩ q hq
    rcases List.mem_cons.1 hq with rfl | hq
    · exact h1
    · exact h2 q hq
theorem alls_append {l l' : List Prop} : Alls (l ++ l') ↔ Alls l ∧ Alls l' := by
  constructor
  · exact fun h => ⟨fun q hq => h q (List.mem_append.2 (.inl hq)), fun q hq => h q (List.mem_append.2 (.inr hq))⟩
  · exact fun h q hq => (List.mem_append.1 hq).elim (h.1 q) (h.2 q)

section
variable {P : Program} {T : Tab} {S : Sta} {σ : Env}

theorem look_mem {t : Nat} {e : Option Bool × A} (h : look S t = some e) : (t, e) ∈ S := by
  induction S with
  | nil => simp [look] at h
  | cons x l ih =>
    obtain ⟨k, e'⟩ := x
    simp only [look] at h
    split at h
    · rename_i hk
      simp only [Option.some.injEq] at h
      rw [Nat.eq_of_beq_eq_true hk, h]
      simp
    · exact List.mem_cons_of_mem _ (ih h)
theorem look_none {t : Nat} (h : look S t = none) : ∀ e, (t, e) ∉ S := by
  induction S with
  | nil => simp
  | cons x l ih =>
    obtain ⟨k, e'⟩ := x
    simp only [look] at h
    split at h
    · cases h
    · rename_i hk
      intro e he
      rcases List.mem_cons.1 he with he | he
      · simp only [Prod.mk.injEq] at he
        obtain ⟨rfl, rfl⟩ := he
        rw [Nat.beq_refl] at hk
        cases hk
      · exact ih h e he

theorem opdS_sound (hT : TabOk P T) (hA : Agr S σ) {ty : TypeId} {x : Operand} {g : Option Bool} {a : A} (h : opdS T S ty x = some (g, a)) (hg : gb g = true) : opd P σ ty x = some (true, vz σ a) := by
  cases x with
  | tmp t =>
    simp only [opdS] at h
    split at h
    · rename_i g' v hl
      obtain ⟨e1, _, e3⟩ := hA.on _ _ _ (look_mem hl)
      split at h
      · rename_i ho
        simp only [Option.some.injEq, Prod.mk.injEq] at h
        obtain ⟨rfl, rfl⟩ := h
        have e3' : (σ t).a = .val v := e3 hg
        simp only [opd, e3', ho, if_true, e1, vz, hg]
      · rename_i ho
        simp only [Option.some.injEq, Prod.mk.injEq] at h
        obtain ⟨rfl, rfl⟩ := h
        have e3' : (σ t).a = .val v := e3 hg
        simp [opd, e3', ho, e1, vz, hg]
    · rename_i g' a' hn hl
      obtain ⟨e1, _, e3⟩ := hA.on _ _ _ (look_mem hl)
      simp only [Option.some.injEq, Prod.mk.injEq] at h
      obtain ⟨rfl, rfl⟩ := h
      cases a' with
      | val v => exact absurd rfl (hn v)
      | _ => have e3' := e3 hg; simp only [vz] at e3' ⊢; simp [opd, e3', e1, hg]
    · cases h
  | const v =>
    simp only [opdS] at h
    split at h
    · rename_i x hx
      simp only [Option.some.injEq, Prod.mk.injEq] at h
      obtain ⟨rfl, rfl⟩ := h
      have : constV P ty v = some x := by
        unfold constS at hx
        split at hx
        · simpa [constV] using hx
        · simpa [constV] using hx
        · simpa [constV] using hx
        · split at hx
          · rename_i e c _ e' d es ht
            simp only [Option.some.injEq] at hx
            subst hx
            have hz := hT.zero ht
            have hc := hT.c ht
            simp only [chkTI, Bool.and_eq_true, decide_eq_true_eq] at hc
            have hc2 := hc.2.1
            unfold sameZ at hc2
            split at hc2
            · rename_i heq
              simp only [V.slc.injEq] at heq
              obtain ⟨rfl, rfl, rfl, rfl⟩ := heq
              have := Nat.eq_of_beq_eq_true hc2
              subst this
              simp only [constV, isNilC, if_true, hz]
            · cases hc2
          · cases hx
        · cases hx
      simp [opd, this, vz]
    · cases h
  | func f =>
    simp only [opdS, Option.some.injEq, Prod.mk.injEq] at h
    obtain ⟨rfl, rfl⟩ := h
    rfl
  | global g => simp [opdS] at h

theorem ownS_sound (hA : Agr S σ) {s : Nat} {r : V} (h : ownS S s = some r) : σ.own s (σ s).ver = some r := by
  unfold ownS at h
  split at h
  · rename_i x hl
    split at h
    · rename_i ho
      simp only [Option.some.injEq] at h
      subst h
      obtain ⟨e1, _, e3⟩ := hA.on _ _ _ (look_mem hl)
      exact Env.own_iff'.2 ⟨e1, rfl, e3 rfl, ho⟩
    · cases h
  · cases h

theorem imG_sound {g : Option Bool} {ps : List Prop} (h : Alls (imG (std T) g ps)) (hg : gb g = true) : Alls ps := by
  cases g with
  | none => cases ps <;> simpa [imG] using h
  | some b =>
    have hb : b = true := hg
    induction ps with
    | nil => exact alls_nil
    | cons p l ih =>
      simp only [imG] at h
      rw [alls_cons] at h ⊢
      exact ⟨h.1 hb, ih h.2⟩
theorem geG_sound {g gx : Option Bool} (h : Alls (geG (std T) g gx)) (hg : gb g = true) : gb gx = true := by
  cases gx with
  | none => rfl
  | some b =>
    cases g with
    | none => simp only [geG, alls_cons] at h; exact h.1
    | some a => simp only [geG, alls_cons] at h; exact h.1 hg
theorem geG_im {g gx : Option Bool} (h : Alls (geG (std T) g gx)) : gb g = true → gb gx = true := geG_sound h

/-! ### paths -/

theorem atS_sound : ∀ (p : List Nat) (x y : V) (ps : List Prop), atS (std T) T x p = some (y, ps) → Alls ps → x.at p = y ∧ x.okp p
  | [], x, y, ps, h, _ => by
    simp only [atS, Option.some.injEq, Prod.mk.injEq] at h
    exact ⟨by simp only [V.at]; exact h.1, trivial⟩
  | i :: p, .slc o e d es, y, ps, h, hp => by
    cases o with
    | false => simp [atS] at h
    | true =>
      simp only [atS] at h
      split at h
      · rename_i y' hv
        split at h
        · rename_i z q hz
          simp only [Option.some.injEq, Prod.mk.injEq] at h
          obtain ⟨rfl, rfl⟩ := h
          rw [alls_cons, alls_cons] at hp
          obtain ⟨h1, h2, h3⟩ := hp
          have h2' : vw stdV T true 20 e (es.getD i d) = some (es.getD i d) := h2
          have hv' : vw stdV T true 20 e (es.getD i d) = some y' := hv
          rw [h2'] at hv'
          simp only [Option.some.injEq] at hv'
          subst hv'
          obtain ⟨e1, e2⟩ := atS_sound p _ _ _ hz h3
          exact ⟨by simp only [V.at, V.kid]; exact e1, ⟨⟨rfl, h1⟩, e2⟩⟩
        · cases h
      · cases h
  | i :: p, .agg fs, y, ps, h, hp => by
    simp only [atS] at h
    split at h
    · rename_i z hz
      rw [nthV_get] at hz
      obtain ⟨e1, e2⟩ := atS_sound p _ _ _ h hp
      have hl : i < fs.length := (List.getElem?_eq_some_iff.1 hz).1
      have : fs.getD i (.hole 0) = z := getD_of_some hz
      exact ⟨by simp only [V.at, V.kid]; rw [this]; exact e1, ⟨hl, by simp only [V.kid]; rw [this]; exact e2⟩⟩
    · cases h
  | i :: p, .box e c, y, ps, h, hp => by
    cases i with
    | zero =>
      simp only [atS] at h
      obtain ⟨e1, e2⟩ := atS_sound p _ _ _ h hp
      exact ⟨by simp only [V.at, V.kid]; exact e1, ⟨trivial, e2⟩⟩
    | succ i => simp [atS] at h
  | _ :: _, .int _ _, _, _, h, _ => by simp [atS] at h
  | _ :: _, .bool _, _, _, h, _ => by simp [atS] at h
  | _ :: _, .str _, _, _, h, _ => by simp [atS] at h
  | _ :: _, .tup _, _, _, h, _ => by simp [atS] at h
  | _ :: _, .fn _ _, _, _, h, _ => by simp [atS] at h
  | _ :: _, .hole _, _, _, h, _ => by simp [atS] at h

theorem updS_sound : ∀ (p : List Nat) (x y z r : V) (ps : List Prop), atS (std T) T x p = some (z, ps) → Alls ps → updS (std T) T x p y = some r → r = x.upd p y
  | [], x, y, z, r, ps, h, _, hu => by
    simp only [updS, Option.some.injEq] at hu
    simp only [V.upd, hu]
  | i :: p, .slc o e d es, y, z, r, ps, h, hp, hu => by
    cases o with
    | false => simp [atS] at h
    | true =>
      simp only [atS] at h
      split at h
      · rename_i y' hv
        split at h
        · rename_i z' q hz
          simp only [Option.some.injEq, Prod.mk.injEq] at h
          obtain ⟨rfl, rfl⟩ := h
          rw [alls_cons, alls_cons] at hp
          obtain ⟨h1, h2, h3⟩ := hp
          have h2' : vw stdV T true 20 e (es.getD i d) = some (es.getD i d) := h2
          have hv' : vw stdV T true 20 e (es.getD i d) = some y' := hv
          rw [h2'] at hv'
          simp only [Option.some.injEq] at hv'
          subst hv'
          simp only [updS, hv] at hu
          split at hu
          · rename_i u hu'
            simp only [Option.some.injEq] at hu
            subst hu
            have := updS_sound p _ y _ u _ hz h3 hu'
            simp only [V.upd, V.setKid, V.kid, this]
            rfl
          · cases hu
        · cases h
      · cases h
  | i :: p, .agg fs, y, z, r, ps, h, hp, hu => by
    simp only [atS] at h
    split at h
    · rename_i z' hz
      simp only [updS, hz] at hu
      split at hu
      · rename_i u hu'
        simp only [Option.some.injEq] at hu
        subst hu
        rw [nthV_get] at hz
        have := updS_sound p _ y _ u _ h hp hu'
        have hg : fs.getD i (.hole 0) = z' := getD_of_some hz
        simp only [V.upd, V.setKid, V.kid, hg, this]
      · cases hu
    · cases h
  | i :: p, .box e c, y, z, r, ps, h, hp, hu => by
    cases i with
    | zero =>
      simp only [atS] at h
      simp only [updS] at hu
      split at hu
      · rename_i u hu'
        simp only [Option.some.injEq] at hu
        subst hu
        have := updS_sound p _ y _ u _ h hp hu'
        simp only [V.upd, V.setKid, V.kid, this]
      · cases hu
    | succ i => simp [atS] at h
  | _ :: _, .int _ _, _, _, _, _, h, _, _ => by simp [atS] at h
  | _ :: _, .bool _, _, _, _, _, h, _, _ => by simp [atS] at h
  | _ :: _, .str _, _, _, _, _, h, _, _ => by simp [atS] at h
  | _ :: _, .tup _, _, _, _, _, h, _, _ => by simp [atS] at h
  | _ :: _, .fn _ _, _, _, _, _, h, _, _ => by simp [atS] at h
  | _ :: _, .hole _, _, _, _, _, h, _, _ => by simp [atS] at h

theorem atR_sound {p : List Nat} {r y : V} {ps : List Prop} (h : atR (std T) T r p = some (y, ps)) (hp : Alls ps) : r.at p = y ∧ (p = [] ∨ (r.okm p ∧ (∀ fs, r ≠ .tup fs) ∧ (∀ fs, r ≠ .agg fs) ∧ atS (std T) T r p = some (y, ps))) := by
  unfold atR at h
  split at h
  · simp only [Option.some.injEq, Prod.mk.injEq] at h
    exact ⟨by simp only [V.at]; exact h.1, .inl rfl⟩
  · rename_i i q
    split at h
    · cases h
    · cases h
    · rename_i n1 n2
      obtain ⟨e1, e2⟩ := atS_sound _ _ _ _ h hp
      refine ⟨e1, .inr ⟨?_, n2, n1, h⟩⟩
      cases r with
      | agg fs => exact absurd rfl (n1 fs)
      | _ => exact e2
end
end Go.Ax
