/-
  AX, part ZA: a local step of the second level is one of the first.
-/
import Derived.Test.YtlibillidihopaaAxZ
namespace Go.Ax

section
variable {C : Ctx} {T : Tab} {S : Sta} {σ : Env} {B : Book}

theorem tcells_ne (hT : TabOk C.P T) {t : TypeId} (h : Nat.blt 0 (tcells T t) = true) : C.P.cellsOf t ≠ 0 := by
  have h' : 0 < tcells T t := by
    have := Nat.le_of_ble_eq_true h
    omega
  unfold tcells at h'
  split at h'
  · rename_i ti ht; rw [hT.cells ht]; omega
  · omega

theorem placeS_sound (hT : TabOk C.P T) {off f : Nat} {ft : TypeId} {fs : List V} (h : placeS T off ft f fs = true) : C.P.cellsOf ft ≠ 0 ∧ f < fs.length ∧ V.offs fs f = off := by
  simp only [placeS, Bool.and_eq_true] at h
  refine ⟨tcells_ne hT h.2, ?_, Nat.eq_of_beq_eq_true h.1.1⟩
  have := Nat.le_of_ble_eq_true h.1.2
  omega

theorem slc_cells (hT : TabOk C.P T) {t e : TypeId} (h : elemT T t = some e) (he : (tget T e).isSome) (hc : tcells T e ≠ 0) : elemOf C.P t = some e ∧ C.P.cellsOf e ≠ 0 := by
  refine ⟨hT.elem h, ?_⟩
  cases hh : tget T e with
  | none => rw [hh] at he; cases he
  | some ti => rw [hT.cells hh]; simpa [tcells, hh] using hc

/-- a path that is not empty and lies in memory -/
theorem okr_of {r : V} {p : List Nat} {x : V × List Prop} (h : p = [] ∨ (r.okm p ∧ (∀ fs, r ≠ .tup fs) ∧ (∀ fs, r ≠ .agg fs) ∧ atS (std T) T r p = some x)) (hH : (r.at p).isH = true) : r.okr p := by
  rcases h with rfl | ⟨h1, h2, h3, _⟩
  · cases r <;> trivial
  · unfold V.okr
    split
    · trivial
    · exact absurd rfl (h2 _)
    · exact ⟨h1, hH⟩

theorem rdA_own {s : Nat} {p : List Nat} {y : V} (ho : y.owned = true) (hH : y.isH = true) : rdA s (σ s).ver p y = some (vz σ (.rf s 0 p)) := by
  simp [rdA, ho, hH, vz]
theorem rdA_val {s ver : Nat} {p : List Nat} {y : V} (ho : y.owned = false) : rdA s ver p y = some (.val y) := by
  simp [rdA, ho]
theorem rdA_agg {s : Nat} {p : List Nat} {fs : List V} (ho : (V.agg fs).owned = true) (hf : V.flats fs = true) : rdA s (σ s).ver p (.agg fs) = some (vz σ (.ag s 0 p fs)) := by
  simp [rdA, ho, hf, vz, V.isH]

theorem okm_box {r c : V} {e : TypeId} {p : List Nat} {x : V × List Prop} (e1 : r.at p = .box e c) (h : p = [] ∨ (r.okm p ∧ (∀ fs, r ≠ .tup fs) ∧ (∀ fs, r ≠ .agg fs) ∧ atS (std T) T r p = some x)) : r.okm (p ++ [0]) := by
  have key : ∀ (p : List Nat) (r : V), r.at p = .box e c → r.okp p → r.okp (p ++ [0]) := by
    intro p
    induction p with
    | nil =>
      intro r h1 _
      simp only [V.at] at h1
      subst h1
      exact ⟨trivial, trivial⟩
    | cons i p ih =>
      intro r h1 h2
      exact ⟨h2.1, ih _ h1 h2.2⟩
  rcases h with rfl | ⟨h1, h2, h3, _⟩
  · simp only [V.at] at e1
    subst e1
    exact ⟨trivial, trivial⟩
  · cases p with
    | nil => exact h1.elim
    | cons i p =>
      have := key (i :: p) r e1 (by cases r <;> first | exact h1 | exact h1.elim)
      cases r with
      | agg fs => exact absurd rfl (h3 fs)
      | _ => exact this

theorem elem_ok (hT : TabOk C.P T) {t e : TypeId} (h : elemT T t = some e) : elemOf C.P t = some e ∧ C.P.cellsOf e ≠ 0 := by
  refine ⟨hT.elem h, ?_⟩
  unfold elemT at h
  split at h
  · rename_i e' _ _ ht
    simp only [Option.some.injEq] at h
    subst h
    have hc := hT.c ht
    simp only [chkTI, Bool.and_eq_true, decide_eq_true_eq] at hc
    have h2 := hc.2.2
    cases hh : tget T e' with
    | none => rw [hh] at h2; cases h2
    | some te => rw [hT.cells hh]; rw [hh] at h2; simpa using h2
  · cases h

theorem lopS_sound (hT : TabOk C.P T) (hA : Agr S σ) (hΦ : C.Φ = phi B) {g : Option Bool} (hg : gb g = true) {o : Oper} {ps : List Prop} {a : A} (h : lopS (std T) T B S g o = some (ps, a)) (hp : Alls ps) :
    ∃ p, lop C σ true o = some (p, vz σ a) ∧ p := by
  cases hop : o.op with
  | move x =>
    simp only [lopS, hop] at h
    split at h
    · rename_i gx a' h1
      simp only [Option.some.injEq, Prod.mk.injEq] at h
      obtain ⟨rfl, rfl⟩ := h
      have o1 := opdS_sound hT hA h1 (geG_sound hp hg)
      refine ⟨_, by simp only [lop, hop, o1]; rfl, ?_⟩
      simp
    · cases h
  | assign x =>
    simp only [lopS, hop] at h
    split at h
    · rename_i gx v h1
      split at h
      · cases h
      · rename_i ho
        simp only [Option.some.injEq, Prod.mk.injEq] at h
        obtain ⟨rfl, rfl⟩ := h
        have o1 := opdS_sound hT hA h1 (geG_sound hp hg)
        exact ⟨true = true → true = true, by simp only [lop, hop, o1, vz, ho, Bool.false_eq_true, if_false], fun h => h⟩
    · rename_i gx s ver i p h1
      split at h
      · cases h
      · rename_i r hn hr
        simp only [Option.some.injEq, Prod.mk.injEq] at h
        obtain ⟨rfl, rfl⟩ := h
        have o1 := opdS_sound hT hA h1 (geG_sound hp hg)
        refine ⟨true = true → true = true, ?_, fun h => h⟩
        simp only [lop, hop, o1, vz, ownS_sound hA hr]
      · cases h
    · cases h
  | pick c x y =>
    simp only [lopS, hop] at h
    split at h
    · rename_i gc c' ga a' gb' b' h1 h2 h3
      simp only [Option.some.injEq, Prod.mk.injEq] at h
      obtain ⟨rfl, rfl⟩ := h
      rw [alls_append, alls_append] at hp
      have o1 := opdS_sound hT hA h1 (geG_sound hp.1.1 hg)
      have a1 : c' = true → gb ga = true := by
        intro hc
        have := imG_sound hp.1.2 hg
        cases ga with
        | none => rfl
        | some b => simp only [geG, List.map_cons, alls_cons] at this; exact this.1 hc
      have a2 : c' = false → gb gb' = true := by
        intro hc
        have := imG_sound hp.2 hg
        cases gb' with
        | none => rfl
        | some b => simp only [geG, List.map_cons, alls_cons] at this; exact this.1 (by simp [std, hc])
      refine ⟨(true = true → true = true) ∧ (true = true → true = true), ?_, fun h => h, fun h => h⟩
      simp only [lop, hop, o1, vz]
      cases c' with
      | true => simp only [if_true, opdS_sound hT hA h2 (a1 rfl), vz]; rfl
      | false => simp only [Bool.false_eq_true, if_false, opdS_sound hT hA h3 (a2 rfl), vz]; rfl
    · cases h
  | binOp op xt x y yt =>
    simp only [lopS, hop] at h
    split at h
    · rename_i gx a' gy b' h1 h2
      split at h
      · rename_i hbt
        have hb := hT.bool hbt
        have hu : C.P.underlying xt = some .bool := by
          unfold boolT at hb
          split at hb
          · rename_i hh; exact hh
          · cases hb
        split at h
        · simp only [Option.some.injEq, Prod.mk.injEq] at h
          obtain ⟨rfl, rfl⟩ := h
          rw [alls_append] at hp
          have o1 := opdS_sound hT hA h1 (geG_sound hp.1 hg)
          have o2 := opdS_sound hT hA h2 (geG_sound hp.2 hg)
          refine ⟨_, by simp only [lop, hop, o1, o2, vz, hu, if_true]; rfl, ?_⟩
          simp
        · simp only [Option.some.injEq, Prod.mk.injEq] at h
          obtain ⟨rfl, rfl⟩ := h
          rw [alls_append] at hp
          have o1 := opdS_sound hT hA h1 (geG_sound hp.1 hg)
          have o2 := opdS_sound hT hA h2 (geG_sound hp.2 hg)
          refine ⟨_, by simp only [lop, hop, o1, o2, vz, hu, if_true]; rfl, ?_⟩
          simp
        · cases h
      · cases h
    · rename_i gx k a' gy k' b' h1 h2
      split at h
      · rename_i hk
        have := ikE_eq hk
        subst this
        split at h
        · rename_i qs v h3
          simp only [Option.some.injEq, Prod.mk.injEq] at h
          obtain ⟨rfl, rfl⟩ := h
          rw [alls_append, alls_append] at hp
          have o1 := opdS_sound hT hA h1 (geG_sound hp.1.1 hg)
          have o2 := opdS_sound hT hA h2 (geG_sound hp.1.2 hg)
          obtain ⟨p, e1, e2⟩ := binS_sound h3 (imG_sound hp.2 hg)
          refine ⟨((true = true → true = true) ∧ (true = true → true = true)) ∧ (true = true → p), ?_, ⟨fun h => h, fun h => h⟩, fun _ => e2⟩
          simp only [lop, hop, o1, o2, vz, e1]
          rfl
        · cases h
      · cases h
    · rename_i gx a' gy b' h1 h2
      split at h
      · rename_i qs v h3
        simp only [Option.some.injEq, Prod.mk.injEq] at h
        obtain ⟨rfl, rfl⟩ := h
        rw [alls_append, alls_append] at hp
        have o1 := opdS_sound hT hA h1 (geG_sound hp.1.1 hg)
        have o2 := opdS_sound hT hA h2 (geG_sound hp.1.2 hg)
        obtain ⟨p, e1, e2⟩ := strS_sound h3 (imG_sound hp.2 hg)
        refine ⟨((true = true → true = true) ∧ (true = true → true = true)) ∧ (true = true → p), ?_, ⟨fun h => h, fun h => h⟩, fun _ => e2⟩
        simp only [lop, hop, o1, o2, vz, e1]
        rfl
      · cases h
    · cases h
  | unOp op t x =>
    simp only [lopS, hop] at h
    split at h
    · rename_i gx b h1
      simp only [Option.some.injEq, Prod.mk.injEq] at h
      obtain ⟨rfl, rfl⟩ := h
      have o1 := opdS_sound hT hA h1 (geG_sound hp hg)
      exact ⟨true = true → true = true, by simp only [lop, hop, o1, vz]; rfl, fun h => h⟩
    · rename_i gx k n h1
      simp only [Option.some.injEq, Prod.mk.injEq] at h
      obtain ⟨rfl, rfl⟩ := h
      have o1 := opdS_sound hT hA h1 (geG_sound hp hg)
      exact ⟨true = true → true = true, by simp only [lop, hop, o1, vz]; rfl, fun h => h⟩
    · cases h
  | load t x =>
    simp only [lopS, hop] at h
    split at h
    · rename_i gx y h1
      split at h
      · rename_i z hz
        simp only [Option.some.injEq, Prod.mk.injEq] at h
        obtain ⟨rfl, rfl⟩ := h
        rw [alls_append] at hp
        have o1 := opdS_sound hT hA h1 (geG_sound hp.1 hg)
        obtain ⟨rfl, e2⟩ := vw_fz hT hz (alls_cons.1 (imG_sound hp.2 hg)).1
        refine ⟨_, by simp only [lop, hop, o1, vz, e2, if_true]; rfl, ?_⟩
        simp
      · cases h
    · rename_i gx s ver p h1
      split at h
      · rename_i r hr
        split at h
        · rename_i i p' y qs hy
          split at h
          · rename_i hf
            have main : ∀ a', ((geG (std T) g gx ++ imG (std T) g qs), a') = (ps, a) → rdA s (σ s).ver (i :: p') y = some (vz σ a') → ∃ p, lop C σ true o = some (p, vz σ a) ∧ p := by
              rintro a' he hrd
              simp only [Prod.mk.injEq] at he
              obtain ⟨rfl, rfl⟩ := he
              rw [alls_append] at hp
              have o1 := opdS_sound hT hA h1 (geG_sound hp.1 hg)
              obtain ⟨e1, e2⟩ := atR_sound hy (imG_sound hp.2 hg)
              have e3 : r.okm (i :: p') := by
                rcases e2 with e2 | e2
                · cases e2
                · exact e2.1
              refine ⟨_, by simp only [lop, hop, o1, vz, ownS_sound hA hr, e1, fitT_sound hT hf, if_true, hrd]; rfl, ?_⟩
              simp [e3]
            split at h
            · rename_i ho
              simp only [Option.some.injEq] at h
              exact main _ h (rdA_val ho)
            · rename_i ho
              split at h
              · rename_i hH
                simp only [Option.some.injEq] at h
                exact main _ h (rdA_own ho hH)
              · split at h
                · split at h
                  · rename_i hfl
                    simp only [Option.some.injEq] at h
                    exact main _ h (rdA_agg ho hfl)
                  · cases h
                · cases h
          · cases h
        · cases h
      · cases h
    · rename_i gx s ver p h1
      split at h
      · rename_i r hr
        split at h
        · rename_i e c qs hy
          split at h
          · rename_i hf
            have main : ∀ a', ((geG (std T) g gx ++ imG (std T) g qs), a') = (ps, a) → rdA s (σ s).ver (p ++ [0]) c = some (vz σ a') → ∃ p, lop C σ true o = some (p, vz σ a) ∧ p := by
              rintro a' he hrd
              simp only [Prod.mk.injEq] at he
              obtain ⟨rfl, rfl⟩ := he
              rw [alls_append] at hp
              have o1 := opdS_sound hT hA h1 (geG_sound hp.1 hg)
              obtain ⟨e1, e2⟩ := atR_sound hy (imG_sound hp.2 hg)
              have e3 : r.okr p := okr_of e2 (by rw [e1]; rfl)
              have e4 : r.okm (p ++ [0]) := okm_box e1 e2
              refine ⟨_, by simp only [lop, hop, o1, vz, ownS_sound hA hr, e1, fitT_sound hT hf, if_true, hrd]; rfl, ?_⟩
              simp [e3, e4]
            split at h
            · rename_i ho
              simp only [Option.some.injEq] at h
              exact main _ h (rdA_val ho)
            · rename_i ho
              split at h
              · rename_i hH
                simp only [Option.some.injEq] at h
                exact main _ h (rdA_own ho hH)
              · split at h
                · split at h
                  · rename_i hfl
                    simp only [Option.some.injEq] at h
                    exact main _ h (rdA_agg ho hfl)
                  · cases h
                · cases h
          · cases h
        · cases h
      · cases h
    · cases h
  | fieldAddr st x f =>
    simp only [lopS, hop] at h
    split at h
    · rename_i fts hfts
      split at h
      · rename_i off ft hn
        have hft : fieldT C.P st f = some (off, ft) := by rw [fieldT_of (hT.fields hfts)]; exact hn
        split at h
        · rename_i gx y h1
          simp only [Option.some.injEq, Prod.mk.injEq] at h
          obtain ⟨rfl, rfl⟩ := h
          rw [alls_append] at hp
          have o1 := opdS_sound hT hA h1 (geG_sound hp.1 hg)
          have hok : vw stdV T false 20 st y = some y := (alls_cons.1 (imG_sound hp.2 hg)).1
          obtain ⟨zs, rfl⟩ := (vw_size hT false 20 st y y hok).2.2.2.1 fts hfts
          obtain ⟨_, e2, e3, e4⟩ := field_ok hT hfts hn ⟨false, _, 20, hok⟩
          have hc : C.P.cellsOf ft ≠ 0 ∧ f < zs.length ∧ V.offs zs f = off := ⟨e2, e3, e4⟩
          refine ⟨_, by simp only [lop, hop, hft, o1, vz]; rw [if_pos hc]; rfl, ?_⟩
          simp
        · rename_i gx s ver p h1
          split at h
          · rename_i r hr
            split at h
            · rename_i i p' fs qs hy
              split at h
              · rename_i hpl
                simp only [Option.some.injEq, Prod.mk.injEq] at h
                obtain ⟨rfl, rfl⟩ := h
                rw [alls_append] at hp
                have o1 := opdS_sound hT hA h1 (geG_sound hp.1 hg)
                obtain ⟨e1, e2⟩ := atR_sound hy (imG_sound hp.2 hg)
                have e3 : r.okm (i :: p') := by
                  rcases e2 with e2 | e2
                  · cases e2
                  · exact e2.1
                refine ⟨_, by simp only [lop, hop, hft, o1, vz, ownS_sound hA hr, e1]; rw [if_pos (placeS_sound hT hpl)], ?_⟩
                simp [e3]
              · cases h
            · cases h
          · cases h
        · rename_i gx s ver p h1
          split at h
          · rename_i r hr
            split at h
            · rename_i e fs qs hy
              split at h
              · rename_i hpl
                simp only [Option.some.injEq, Prod.mk.injEq] at h
                obtain ⟨rfl, rfl⟩ := h
                rw [alls_append] at hp
                have o1 := opdS_sound hT hA h1 (geG_sound hp.1 hg)
                obtain ⟨e1, e2⟩ := atR_sound hy (imG_sound hp.2 hg)
                have e3 : r.okr p := okr_of e2 (by rw [e1]; rfl)
                refine ⟨_, by simp only [lop, hop, hft, o1, vz, ownS_sound hA hr, e1]; rw [if_pos (placeS_sound hT hpl)], ?_⟩
                simp [e3]
              · cases h
            · cases h
          · cases h
        · cases h
      · cases h
    · cases h
  | indexAddr st x i =>
    simp only [lopS, hop] at h
    split at h
    · rename_i e gi n he hi
      split at h
      · rename_i gx e' d es h1
        split at h
        · rename_i hb
          have := Nat.eq_of_beq_eq_true hb
          subst this
          simp only [Option.some.injEq, Prod.mk.injEq] at h
          obtain ⟨rfl, rfl⟩ := h
          rw [alls_append, alls_append] at hp
          have o1 := opdS_sound hT hA h1 (geG_sound hp.1.1 hg)
          have o2 := intS_sound hT hA hi hg hp.1.2
          have hq := imG_sound hp.2 hg
          simp only [alls_cons] at hq
          have q1 : 0 ≤ n := hq.1
          have q2 : n < (es.length : Int) := hq.2.1
          obtain ⟨c1, c2⟩ := elem_ok hT he
          refine ⟨_, by simp only [lop, hop, c1, o1, o2, vz]; rw [if_pos ⟨trivial, c2⟩]; rfl, ?_⟩
          simp [q1, q2]
        · cases h
      · rename_i gx s ver p h1
        split at h
        · rename_i r hr
          split at h
          · rename_i e' d es qs hy
            split at h
            · rename_i hb
              have := Nat.eq_of_beq_eq_true hb
              subst this
              simp only [Option.some.injEq, Prod.mk.injEq] at h
              obtain ⟨rfl, rfl⟩ := h
              rw [alls_append, alls_append] at hp
              have o1 := opdS_sound hT hA h1 (geG_sound hp.1.1 hg)
              have o2 := intS_sound hT hA hi hg hp.1.2
              have hq := imG_sound hp.2 hg
              rw [alls_append] at hq
              obtain ⟨e1, e2⟩ := atR_sound hy hq.1
              have e3 : r.okr p := okr_of e2 (by rw [e1]; rfl)
              have hq2 := hq.2
              simp only [alls_cons] at hq2
              have q1 : 0 ≤ n := hq2.1
              have q2 : n < (es.length : Int) := hq2.2.1
              obtain ⟨c1, c2⟩ := elem_ok hT he
              refine ⟨_, by simp only [lop, hop, c1, o1, o2, vz, ownS_sound hA hr, e1]; rw [if_pos ⟨trivial, c2⟩]; rfl, ?_⟩
              simp [q1, q2, e3]
            · cases h
          · cases h
        · cases h
      · cases h
    · cases h
  | index st x i =>
    simp only [lopS, hop] at h
    split at h
    · rename_i hst
      split at h
      · rename_i gx s gi n h1 hi
        simp only [Option.some.injEq, Prod.mk.injEq] at h
        obtain ⟨rfl, rfl⟩ := h
        rw [alls_append, alls_append] at hp
        have o1 := opdS_sound hT hA h1 (geG_sound hp.1.1 hg)
        have o2 := intS_sound hT hA hi hg hp.1.2
        have hq := imG_sound hp.2 hg
        simp only [alls_cons] at hq
        have q1 : 0 ≤ n := hq.1
        have q2 : n < (s.size : Int) := hq.2.1
        refine ⟨_, by simp only [lop, hop, hT.str hst, o1, o2, vz]; rfl, ?_⟩
        simp [q1, q2]
      · cases h
    · cases h
  | extract x i =>
    simp only [lopS, hop] at h
    split at h
    · rename_i gx fs h1
      split at h
      · rename_i y hy
        rw [nthV_get] at hy
        have hl : i < fs.length := (List.getElem?_eq_some_iff.1 hy).1
        simp only [Option.some.injEq, Prod.mk.injEq] at h
        obtain ⟨rfl, rfl⟩ := h
        have o1 := opdS_sound hT hA h1 (geG_sound hp hg)
        refine ⟨_, by simp only [lop, hop, o1, vz, if_pos hl, getD_of_some hy]; rfl, ?_⟩
        simp
      · cases h
    · rename_i gx s ver h1
      split at h
      · rename_i fs hr
        split at h
        · rename_i y hy
          rw [nthV_get] at hy
          have hl : i < fs.length := (List.getElem?_eq_some_iff.1 hy).1
          split at h
          · rename_i ho
            simp only [Option.some.injEq, Prod.mk.injEq] at h
            obtain ⟨rfl, rfl⟩ := h
            have o1 := opdS_sound hT hA h1 (geG_sound hp hg)
            refine ⟨_, by simp only [lop, hop, o1, vz, ownS_sound hA hr, if_pos hl, getD_of_some hy, ho, if_true]; rfl, ?_⟩
            simp
          · rename_i ho
            simp only [Option.some.injEq, Prod.mk.injEq] at h
            obtain ⟨rfl, rfl⟩ := h
            have o1 := opdS_sound hT hA h1 (geG_sound hp hg)
            refine ⟨_, by simp only [lop, hop, o1, vz, ownS_sound hA hr, if_pos hl, getD_of_some hy, ho, Bool.false_eq_true, if_false]; rfl, ?_⟩
            simp
        · cases h
      · cases h
    · cases h
  | slice st x lo hi mx =>
    cases mx with
    | some m => simp [lopS, hop] at h
    | none =>
      simp only [lopS, hop] at h
      split at h
      · rename_i gx e d es h1
        split at h
        · rename_i e' he
          split at h
          · rename_i hb
            have := Nat.eq_of_beq_eq_true hb
            subst this
            split at h
            · rename_i gl l gh k h2 h3
              simp only [Option.some.injEq, Prod.mk.injEq] at h
              obtain ⟨rfl, rfl⟩ := h
              rw [alls_append, alls_append, alls_append] at hp
              have o1 := opdS_sound hT hA h1 (geG_sound hp.1.1.1 hg)
              obtain ⟨p2, o2, r2⟩ := boundS_sound hT hA h2 hg hp.1.1.2
              obtain ⟨p3, o3, r3⟩ := boundS_sound hT hA h3 hg hp.1.2
              have hq := imG_sound hp.2 hg
              simp only [alls_cons] at hq
              have q1 : 0 ≤ l := hq.1
              have q2 : l ≤ k := hq.2.1
              have q3 : k ≤ (es.length : Int) := hq.2.2.1
              obtain ⟨c1, c2⟩ := elem_ok hT he
              have o3' : boundOf C.P σ true (es.length : Int) hi = some (p3, k) := o3
              refine ⟨_, by simp only [lop, hop, o1, vz, c1, o2, o3']; rw [if_pos ⟨trivial, c2⟩]; rfl, ?_⟩
              simp [q1, q2, q3, r2, r3]
            · cases h
          · cases h
        · cases h
      · rename_i gx s h1
        split at h
        · rename_i hst
          split at h
          · rename_i gl l gh k h2 h3
            simp only [Option.some.injEq, Prod.mk.injEq] at h
            obtain ⟨rfl, rfl⟩ := h
            rw [alls_append, alls_append, alls_append] at hp
            have o1 := opdS_sound hT hA h1 (geG_sound hp.1.1.1 hg)
            obtain ⟨p2, o2, r2⟩ := boundS_sound hT hA h2 hg hp.1.1.2
            obtain ⟨p3, o3, r3⟩ := boundS_sound hT hA h3 hg hp.1.2
            have hq := imG_sound hp.2 hg
            simp only [alls_cons] at hq
            have q1 : 0 ≤ l := hq.1
            have q2 : l ≤ k := hq.2.1
            have q3 : k ≤ (s.size : Int) := hq.2.2.1
            have o3' : boundOf C.P σ true (s.size : Int) hi = some (p3, k) := o3
            refine ⟨_, by simp only [lop, hop, o1, vz, hT.str hst, o2, o3']; rfl, ?_⟩
            simp [q1, q2, q3, r2, r3]
          · cases h
        · cases h
      · cases h
  | convert s d x =>
    simp only [lopS, hop] at h
    split at h
    · rename_i k' k gx k2 n h1 h2 h3
      simp only [Option.some.injEq, Prod.mk.injEq] at h
      obtain ⟨rfl, rfl⟩ := h
      have o1 := opdS_sound hT hA h3 (geG_sound hp hg)
      refine ⟨_, by simp only [lop, hop, o1, vz, hT.kind h1, hT.kind h2]; rfl, ?_⟩
      simp
    · cases h
  | alloc t =>
    simp only [lopS, hop] at h
    split at h
    · rename_i ti ht
      simp only [Option.some.injEq, Prod.mk.injEq] at h
      obtain ⟨_, rfl⟩ := h
      exact ⟨True, by simp only [lop, hop, hT.zero ht]; rfl, trivial⟩
    · cases h
  | box t x =>
    simp only [lopS, hop] at h
    split at h
    · rename_i gx v h1
      split at h
      · rename_i ho
        split at h
        · rename_i hf
          simp only [Option.some.injEq, Prod.mk.injEq] at h
          obtain ⟨rfl, rfl⟩ := h
          have o1 := opdS_sound hT hA h1 (geG_sound hp hg)
          refine ⟨_, by simp only [lop, hop, o1, vz, ho, Bool.false_and, Bool.false_eq_true, if_false, fitT_sound hT hf, if_true]; rfl, ?_⟩
          simp
        · cases h
      · cases h
    · cases h
  | makeSlice t l c =>
    simp only [lopS, hop] at h
    split at h
    · rename_i e he
      split at h
      · rename_i gl n gc m ti h1 h2 ht
        simp only [Option.some.injEq, Prod.mk.injEq] at h
        obtain ⟨rfl, rfl⟩ := h
        rw [alls_append, alls_append] at hp
        have o1 := intS_sound hT hA h1 hg hp.1.1
        have o2 := intS_sound hT hA h2 hg hp.1.2
        have hq := imG_sound hp.2 hg
        simp only [alls_cons] at hq
        have q1 : 0 ≤ n := hq.1
        have q2 : n ≤ m := hq.2.1
        have q3 : m ≤ 2147483647 := hq.2.2.1
        refine ⟨_, by simp only [lop, hop, hT.elem he, o1, o2, hT.zero ht]; rw [if_pos (hT.small ht)]; rfl, ?_⟩
        simp [q1, q2, q3]
      · cases h
    · cases h
  | buildSlice t n parts =>
    simp only [lopS, hop] at h
    split at h
    · rename_i e he
      split at h
      · rename_i ti qs vs ht hv
        split at h
        · rename_i hle
          split at h
          · rename_i es hes
            simp only [Option.some.injEq, Prod.mk.injEq] at h
            obtain ⟨rfl, rfl⟩ := h
            obtain ⟨p, o1, r1⟩ := valsS_sound hT hA hg hv hp
            have hc : n * C.P.cellsOf e ≤ 2 ^ 20 ∧ 0 < C.P.cellsOf e := by
              have := (elem_ok hT he).2
              rw [hT.cells ht] at this ⊢
              exact ⟨Nat.le_of_ble_eq_true hle, by omega⟩
            exact ⟨p, by simp only [lop, hop, hT.elem he, hT.zero ht, o1]; rw [if_pos hc, hes]; rfl, r1⟩
          · cases h
        · cases h
      · cases h
    · cases h
  | build t parts =>
    simp only [lopS, hop] at h
    split at h
    · rename_i fts c zs ht
      split at h
      · rename_i qs vs hv
        split at h
        · rename_i fs hfs
          simp only [Option.some.injEq, Prod.mk.injEq] at h
          obtain ⟨rfl, rfl⟩ := h
          have hst : structOf C.P t = some zs := congrArg Got.struct (hT.got ht)
          have hty : (fun i => ((fieldT C.P t i).map (·.2)).getD 0) = ftyS fts := by
            funext i
            rw [fieldT_of (hT.fields (t := t) (fs := fts) (by simp [fieldsT, ht]))]
            unfold ftyS
            cases nthF fts i <;> rfl
          obtain ⟨p, o1, r1⟩ := valsS_sound hT hA hg hv hp
          refine ⟨p, ?_, r1⟩
          simp only [lop, hop, hst, hty, o1, hfs]
          rfl
        · cases h
      · cases h
    · cases h
  | makeFunc fn first caps =>
    cases fn with
    | func f =>
      simp only [lopS, hop] at h
      split at h
      · rename_i qs vs hf hv
        simp only [Option.some.injEq, Prod.mk.injEq] at h
        obtain ⟨rfl, rfl⟩ := h
        obtain ⟨p, o1, r1⟩ := valsS_sound hT hA hg hv hp
        exact ⟨p, by simp only [lop, hop, hf, o1]; rfl, r1⟩
      · cases h
    | _ => simp [lopS, hop] at h
  | call c =>
    obtain ⟨cal, args, ats⟩ := c
    cases cal with
    | builtin b =>
      cases b with
      | len =>
        simp only [lopS, hop] at h
        split at h
        · rename_i x t h1 h2
          split at h
          · rename_i gx a' h3
            split at h
            · rename_i o' e' d' es qs h4
              split at h
              · rename_i e he
                simp only [Option.some.injEq, Prod.mk.injEq] at h
                obtain ⟨rfl, rfl⟩ := h
                rw [alls_append] at hp
                have o1 := opdS_sound hT hA h3 (geG_sound hp.1 hg)
                obtain ⟨l1, l2, l3⟩ := lookS_sound hA h4 (imG_sound hp.2 hg)
                refine ⟨_, by simp only [lop, hop, h1, h2, o1, l3, Bool.false_eq_true, if_false, l1, hT.elem he, Option.isSome_some, if_true]; rfl, ?_⟩
                simp [l2]
              · cases h
            · rename_i s qs h4
              split at h
              · rename_i hst
                simp only [Option.some.injEq, Prod.mk.injEq] at h
                obtain ⟨rfl, rfl⟩ := h
                rw [alls_append] at hp
                have o1 := opdS_sound hT hA h3 (geG_sound hp.1 hg)
                obtain ⟨l1, l2, l3⟩ := lookS_sound hA h4 (imG_sound hp.2 hg)
                refine ⟨_, by simp only [lop, hop, h1, h2, o1, l3, Bool.false_eq_true, if_false, l1, hT.str hst, if_true]; rfl, ?_⟩
                simp [l2]
              · cases h
            · cases h
          · cases h
        · cases h
      | min =>
        simp only [lopS, hop] at h
        split at h
        · rename_i x y h0
          split at h
          · rename_i gx k a1 gy k' b1 h1 h2
            split at h
            · rename_i hk
              have := ikE_eq hk
              subst this
              simp only [Option.some.injEq, Prod.mk.injEq] at h
              obtain ⟨rfl, rfl⟩ := h
              rw [alls_append] at hp
              have o1 := opdS_sound hT hA h1 (geG_sound hp.1 hg)
              have o2 := opdS_sound hT hA h2 (geG_sound hp.2 hg)
              refine ⟨_, by simp only [lop, hop, h0, o1, o2, vz, if_true]; rfl, ?_⟩
              simp
            · cases h
          · cases h
        · cases h
      | max =>
        simp only [lopS, hop] at h
        split at h
        · rename_i x y h0
          split at h
          · rename_i gx k a1 gy k' b1 h1 h2
            split at h
            · rename_i hk
              have := ikE_eq hk
              subst this
              simp only [Option.some.injEq, Prod.mk.injEq] at h
              obtain ⟨rfl, rfl⟩ := h
              rw [alls_append] at hp
              have o1 := opdS_sound hT hA h1 (geG_sound hp.1 hg)
              have o2 := opdS_sound hT hA h2 (geG_sound hp.2 hg)
              refine ⟨_, by simp only [lop, hop, h0, o1, o2, vz, if_true]; rfl, ?_⟩
              simp
            · cases h
          · cases h
        · cases h
      | _ => simp [lopS, hop] at h
    | invoke r m => simp [lopS, hop] at h
    | value f =>
      simp only [lopS, hop] at h
      split at h
      · rename_i gf k caps h1
        split at h
        · rename_i qs vs br h2
          split at h
          · rename_i ct hct
            split at h
            · rename_i rs r hr
              have hphi : C.Φ k (vs ++ caps) = some (Alls rs, r, []) := by rw [hΦ]; simp only [phi, hct, hr]
              split at h
              · split at h
                · cases h
                · rename_i hfn
                  simp only [Option.some.injEq, Prod.mk.injEq] at h
                  obtain ⟨rfl, rfl⟩ := h
                  rw [alls_append, alls_append] at hp
                  have o1 := opdS_sound hT hA h1 (geG_sound hp.1.1 hg)
                  obtain ⟨p, o2, r2⟩ := argsS_sound hT hA hg h2 hp.1.2
                  have hq := imG_sound hp.2 hg
                  rw [alls_append] at hq
                  have hnf := nofzS_sound r hq.2 hfn
                  refine ⟨_, by simp only [lop, hop, o1, o2, vz, hphi, hnf]; rfl, ?_⟩
                  simp [r2, hq.1]
              · simp only [Option.some.injEq, Prod.mk.injEq] at h
                obtain ⟨rfl, rfl⟩ := h
                rw [alls_append, alls_append] at hp
                have o1 := opdS_sound hT hA h1 (geG_sound hp.1.1 hg)
                obtain ⟨p, o2, r2⟩ := argsS_sound hT hA hg h2 hp.1.2
                have hq := imG_sound hp.2 hg
                refine ⟨_, by simp only [lop, hop, o1, o2, vz, hphi]; rfl, ?_⟩
                simp [r2, hq]
            · cases h
          · cases h
        · cases h
      · cases h
  | _ => simp [lopS, hop] at h
end
end Go.Ax
