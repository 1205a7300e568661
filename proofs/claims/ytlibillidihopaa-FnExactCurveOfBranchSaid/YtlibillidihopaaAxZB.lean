/-
  AX, part ZB: a step of the second level, as a whole.
-/
import Derived.Test.YtlibillidihopaaAxZA
namespace Go.Ax

section
variable {C : Ctx} {T : Tab} {S : Sta} {σ : Env} {B : Book}

theorem mem_ins {d : Nat} {e : Option Bool × A} : ∀ {S : Sta} {x : Nat × Option Bool × A}, x ∈ ins d e S ↔ x = (d, e) ∨ x ∈ S
  | [], x => by simp [ins]
  | (k, e') :: l, x => by
    simp only [ins]
    split
    · simp only [List.mem_cons, mem_ins (S := l)]
      constructor
      · rintro (h | h | h)
        · exact .inr (.inl h)
        · exact .inl h
        · exact .inr (.inr h)
      · rintro (h | h | h)
        · exact .inr (.inl h)
        · exact .inl h
        · exact .inr (.inr h)
    · simp

theorem mem_del {d : Nat} : ∀ {S : Sta} {x : Nat × Option Bool × A}, x ∈ del d S ↔ x ∈ S ∧ x.1 ≠ d ∧ x.2.2.at0 d = false
  | [], x => by simp [del]
  | (k, g, a) :: l, x => by
    simp only [del]
    split
    · rename_i hk
      have := Nat.eq_of_beq_eq_true hk
      subst this
      rw [mem_del (S := l)]
      constructor
      · exact fun h => ⟨List.mem_cons_of_mem _ h.1, h.2⟩
      · rintro ⟨h1, h2⟩
        rcases List.mem_cons.1 h1 with rfl | h1
        · exact absurd rfl h2.1
        · exact ⟨h1, h2⟩
    · rename_i hk
      have hne : k ≠ d := fun e => by subst e; rw [Nat.beq_refl] at hk; cases hk
      split
      · rename_i ha
        rw [mem_del (S := l)]
        constructor
        · exact fun h => ⟨List.mem_cons_of_mem _ h.1, h.2⟩
        · rintro ⟨h1, h2⟩
          rcases List.mem_cons.1 h1 with rfl | h1
          · have h3 : a.at0 d = false := h2.2
            rw [ha] at h3; cases h3
          · exact ⟨h1, h2⟩
      · rename_i ha
        rw [List.mem_cons, mem_del (S := l), List.mem_cons]
        constructor
        · rintro (rfl | h)
          · exact ⟨.inl rfl, hne, ha⟩
          · exact ⟨.inr h.1, h.2⟩
        · rintro ⟨h1, h2⟩
          rcases h1 with h1 | h1
          · exact .inl h1
          · exact .inr ⟨h1, h2⟩

theorem mem_del' {d : Nat} : ∀ {S : Sta} {x : Nat × Option Bool × A}, x ∈ del' d S ↔ x ∈ S ∧ x.2.2.at0 d = false
  | [], x => by simp [del']
  | (k, g, a) :: l, x => by
    simp only [del']
    split
    · rename_i ha
      rw [mem_del' (S := l)]
      constructor
      · exact fun h => ⟨List.mem_cons_of_mem _ h.1, h.2⟩
      · rintro ⟨h1, h2⟩
        rcases List.mem_cons.1 h1 with rfl | h1
        · have h3 : a.at0 d = false := h2
          rw [ha] at h3; cases h3
        · exact ⟨h1, h2⟩
    · rename_i ha
      rw [List.mem_cons, mem_del' (S := l), List.mem_cons]
      constructor
      · rintro (rfl | h)
        · exact ⟨.inl rfl, ha⟩
        · exact ⟨.inr h.1, h.2⟩
      · rintro ⟨h1, h2⟩
        rcases h1 with h1 | h1
        · exact .inl h1
        · exact .inr ⟨h1, h2⟩

theorem mem_mod {d : Nat} {v : V} : ∀ {S : Sta} {x : Nat × Option Bool × A}, x ∈ modS S d v ↔ (x ∈ S ∧ x.1 ≠ d) ∨ (x.1 = d ∧ x.2.2 = .val v ∧ ∃ a, (d, x.2.1, a) ∈ S)
  | [], x => by simp [modS]
  | (k, g, a) :: l, x => by
    simp only [modS]
    split
    · rename_i hk
      have := Nat.eq_of_beq_eq_true hk
      subst this
      rw [List.mem_cons, mem_mod (S := l)]
      constructor
      · rintro (rfl | h | h)
        · exact .inr ⟨rfl, rfl, a, by simp⟩
        · exact .inl ⟨List.mem_cons_of_mem _ h.1, h.2⟩
        · obtain ⟨h1, h2, a', h3⟩ := h
          exact .inr ⟨h1, h2, a', List.mem_cons_of_mem _ h3⟩
      · rintro (h | h)
        · rcases List.mem_cons.1 h.1 with h1 | h1
          · exact absurd (by rw [h1]) h.2
          · exact .inr (.inl ⟨h1, h.2⟩)
        · obtain ⟨h1, h2, a', h3⟩ := h
          rcases List.mem_cons.1 h3 with h4 | h4
          · left
            obtain ⟨x1, x2, x3⟩ := x
            simp only [Prod.mk.injEq] at h4 h1 h2 ⊢
            exact ⟨h1, h4.2.1, h2⟩
          · exact .inr (.inr ⟨h1, h2, a', h4⟩)
    · rename_i hk
      have hne : k ≠ d := fun e => by subst e; rw [Nat.beq_refl] at hk; cases hk
      rw [List.mem_cons, mem_mod (S := l)]
      constructor
      · rintro (rfl | h | h)
        · exact .inl ⟨by simp, hne⟩
        · exact .inl ⟨List.mem_cons_of_mem _ h.1, h.2⟩
        · obtain ⟨h1, h2, a', h3⟩ := h
          exact .inr ⟨h1, h2, a', List.mem_cons_of_mem _ h3⟩
      · rintro (h | h)
        · rcases List.mem_cons.1 h.1 with h1 | h1
          · exact .inl h1
          · exact .inr (.inl ⟨h1, h.2⟩)
        · obtain ⟨h1, h2, a', h3⟩ := h
          rcases List.mem_cons.1 h3 with h4 | h4
          · simp only [Prod.mk.injEq] at h4
            exact absurd h4.1.symm hne
          · exact .inr (.inr ⟨h1, h2, a', h4⟩)

theorem mem_keep {ks : List Nat} : ∀ {S : Sta} {x : Nat × Option Bool × A}, x ∈ keepS ks S ↔ x ∈ S ∧ memN ks x.1 = true ∧ x.2.2.in0 ks = true
  | [], x => by simp [keepS]
  | (k, g, a) :: l, x => by
    simp only [keepS]
    split
    · rename_i hk
      split
      · rename_i ha
        rw [List.mem_cons, mem_keep (S := l), List.mem_cons]
        constructor
        · rintro (rfl | h)
          · exact ⟨.inl rfl, hk, ha⟩
          · exact ⟨.inr h.1, h.2⟩
        · rintro ⟨h1, h2⟩
          rcases h1 with h1 | h1
          · exact .inl h1
          · exact .inr ⟨h1, h2⟩
      · rename_i ha
        rw [mem_keep (S := l)]
        constructor
        · exact fun h => ⟨List.mem_cons_of_mem _ h.1, h.2⟩
        · rintro ⟨h1, h2⟩
          rcases List.mem_cons.1 h1 with rfl | h1
          · have h3 : a.in0 ks = true := h2.2
            rw [ha] at h3; cases h3
          · exact ⟨h1, h2⟩
    · rename_i hk
      rw [mem_keep (S := l)]
      constructor
      · exact fun h => ⟨List.mem_cons_of_mem _ h.1, h.2⟩
      · rintro ⟨h1, h2⟩
        rcases List.mem_cons.1 h1 with rfl | h1
        · have h3 : memN ks k = true := h2.1
          rw [hk] at h3; cases h3
        · exact ⟨h1, h2⟩

theorem vz_congr {σ σ' : Env} {a : A} (h : ∀ s, a.at0 s = true → (σ' s).ver = (σ s).ver) : vz σ' a = vz σ a := by
  cases a with
  | rf s v p => simp only [vz]; rw [h s (by simp [A.at0])]
  | ad s v p => simp only [vz]; rw [h s (by simp [A.at0])]
  | ag s v p fs => simp only [vz]; rw [h s (by simp [A.at0])]
  | _ => rfl

theorem at0_eq {a : A} {s d : Nat} (h : a.at0 s = true) (h' : a.at0 d = false) : s ≠ d := by
  rintro rfl
  rw [h] at h'; cases h'

/-- what refers owns nothing -/
theorem Agr.ref_off (hA : Agr S σ) {t d : Nat} {g : Option Bool} {a : A} (h : (t, g, a) ∈ S) (ha : a.at0 d = true) : (σ t).owner = false := by
  obtain ⟨e1, _, e3⟩ := hA.on t g a h
  unfold E.owner
  rw [e1]
  cases hg : gb g with
  | false => rfl
  | true =>
    rw [e3 hg]
    cases a <;> first | rfl | (simp [A.at0] at ha)

theorem Agr.put (hA : Agr S σ) {d : Nat} {g : Option Bool} {a : A} (hd : a.at0 d = false) {a' : A} (ha : gb g = true → a' = vz σ a) : Agr (putS S d g a) (σ.put d (gb g) a') := by
  have hv : ∀ (b : A), b.at0 d = false → vz (σ.put d (gb g) a') b = vz σ b := fun b hb => vz_congr (fun s hs => by simp [Env.put, at0_eq hs hb])
  refine ⟨fun t g' b h => ?_, fun t h => ?_⟩
  · rcases mem_ins.1 h with h | h
    · simp only [Prod.mk.injEq] at h
      obtain ⟨rfl, rfl, rfl⟩ := h
      rw [hv _ hd]
      simp only [Env.put, if_true]
      exact ⟨trivial, trivial, ha⟩
    · obtain ⟨h1, h2, h3⟩ := mem_del.1 h
      have h2' : t ≠ d := h2
      rw [hv _ h3]
      simp only [Env.put, if_neg h2']
      exact hA.on t g' b h1
  · have hne : t ≠ d := fun e => h (g, a) (mem_ins.2 (.inl (by rw [e])))
    simp only [Env.put, if_neg hne]
    by_cases hx : ∃ e, (t, e) ∈ S
    · obtain ⟨⟨g', b⟩, hx⟩ := hx
      by_cases hb : b.at0 d = true
      · exact hA.ref_off hx hb
      · exact absurd (mem_ins.2 (.inr (mem_del.2 ⟨hx, hne, by simpa using hb⟩))) (h (g', b))
    · exact hA.off t (fun e he => hx ⟨e, he⟩)

theorem Agr.drp (hA : Agr S σ) {d : Nat} : Agr (del d S) (σ.drp d) := by
  refine ⟨fun t g' b h => ?_, fun t h => ?_⟩
  · obtain ⟨h1, h2, h3⟩ := mem_del.1 h
    have h2' : t ≠ d := h2
    rw [vz_congr (σ := σ) (fun s hs => by simp [Env.drp, at0_eq hs h3])]
    simp only [Env.drp, if_neg h2']
    exact hA.on t g' b h1
  · by_cases hne : t = d
    · subst hne; simp [Env.drp, E.owner]
    · simp only [Env.drp, if_neg hne]
      by_cases hx : ∃ e, (t, e) ∈ S
      · obtain ⟨⟨g', b⟩, hx⟩ := hx
        by_cases hb : b.at0 d = true
        · exact hA.ref_off hx hb
        · exact absurd (mem_del.2 ⟨hx, hne, by simpa using hb⟩) (h (g', b))
      · exact hA.off t (fun e he => hx ⟨e, he⟩)

theorem Agr.mod (hA : Agr S σ) {d : Nat} {r x : V} (ho : ownS S d = some r) : Agr (modS S d x) (σ.mod d x) := by
  have hv : ∀ b : A, vz (σ.mod d x) b = vz σ b := fun b => vz_congr (fun s _ => by simp only [Env.mod]; split <;> simp_all)
  refine ⟨fun t g' b h => ?_, fun t h => ?_⟩
  · rw [hv]
    rcases mem_mod.1 h with ⟨h1, h2⟩ | ⟨h1, h2, a', h3⟩
    · have h2' : t ≠ d := h2
      simp only [Env.mod, if_neg h2']
      exact hA.on t g' b h1
    · have h1' : t = d := h1
      have h2' : b = .val x := h2
      subst h1'; subst h2'
      obtain ⟨e1, e2, _⟩ := hA.on _ _ _ h3
      simp only [Env.mod, if_true]
      exact ⟨e1, e2, fun _ => rfl⟩
  · have hne : t ≠ d := by
      rintro rfl
      unfold ownS at ho
      split at ho
      · rename_i hl
        exact h (none, .val x) (mem_mod.2 (.inr ⟨rfl, rfl, _, look_mem hl⟩))
      · cases ho
    simp only [Env.mod, if_neg hne]
    exact hA.off t (fun e he => h e (mem_mod.2 (.inl ⟨he, hne⟩)))

theorem Agr.bmp (hA : Agr S σ) {d : Nat} {r x : V} (ho : ownS S d = some r) : Agr (modS (del' d S) d x) (σ.bmp d x) := by
  obtain ⟨gd, hl⟩ : ∃ r', look S d = some (none, .val r') := by
    unfold ownS at ho
    split at ho
    · rename_i hl; exact ⟨_, hl⟩
    · cases ho
  refine ⟨fun t g' b h => ?_, fun t h => ?_⟩
  · rcases mem_mod.1 h with ⟨h1, h2⟩ | ⟨h1, h2, a', h3⟩
    · have h2' : t ≠ d := h2
      obtain ⟨h3, h4⟩ := mem_del'.1 h1
      rw [vz_congr (σ := σ) (fun s hs => by simp [Env.bmp, at0_eq hs h4])]
      simp only [Env.bmp, if_neg h2']
      exact hA.on t g' b h3
    · have h1' : t = d := h1
      have h2' : b = .val x := h2
      subst h1'; subst h2'
      obtain ⟨e1, e2, _⟩ := hA.on _ _ _ (mem_del'.1 h3).1
      simp only [Env.bmp, if_true]
      exact ⟨e1, e2, fun _ => rfl⟩
  · have hne : t ≠ d := by
      rintro rfl
      exact h (none, .val x) (mem_mod.2 (.inr ⟨rfl, rfl, _, mem_del'.2 ⟨look_mem hl, rfl⟩⟩))
    simp only [Env.bmp, if_neg hne]
    by_cases hx : ∃ e, (t, e) ∈ S
    · obtain ⟨⟨g', b⟩, hx⟩ := hx
      by_cases hb : b.at0 d = true
      · exact hA.ref_off hx hb
      · exact absurd (mem_mod.2 (.inl ⟨mem_del'.2 ⟨hx, by simpa using hb⟩, hne⟩)) (h (g', b))
    · exact hA.off t (fun e he => hx ⟨e, he⟩)

theorem takeFS_sound {s ver : Nat} {p : List Nat} : ∀ (fs : List V) (i : Nat) (S : Sta) (σ : Env) (ps : List Prop) (ys : List V) (S1 : Sta), Agr S σ → (σ s).ver = ver → takeFS (std T) T s p fs i S = some (ps, ys, S1) → Alls ps →
    ∃ q σ1, takePs s ver fs p i σ = some (q, ys, σ1) ∧ q ∧ Agr S1 σ1
  | [], i, S, σ, ps, ys, S1, hA, _, h, _ => by
    simp only [takeFS, Option.some.injEq, Prod.mk.injEq] at h
    obtain ⟨_, rfl, rfl⟩ := h
    exact ⟨True, σ, rfl, trivial, hA⟩
  | f :: fs, i, S, σ, ps, ys, S1, hA, hv, h, hp => by
    simp only [takeFS] at h
    split at h
    · rename_i hlf
      split at h
      · rename_i hfo
        split at h
        · rename_i r hr
          split at h
          · rename_i y qs hy
            split at h
            · rename_i hH
              split at h
              · rename_i r' hu
                split at h
                · rename_i rs zs S' hz
                  simp only [Option.some.injEq, Prod.mk.injEq] at h
                  obtain ⟨rfl, rfl, rfl⟩ := h
                  rw [alls_append] at hp
                  obtain ⟨a1, a2⟩ := atR_sound hy hp.1
                  rcases a2 with a2 | ⟨a2, a3, a4, a5⟩
                  · simp at a2
                  have hu' := updS_sound _ _ _ _ _ _ a5 hp.1 hu
                  subst hu'
                  have ho := ownS_sound hA hr
                  rw [hv] at ho
                  have a6 : (r.at (p ++ [i])).isH = true := by rw [a1]; exact hH
                  obtain ⟨q, σ1, t1, t2, t3⟩ := takeFS_sound (ver := ver) fs (i + 1) _ (σ.mod s (r.upd (p ++ [i]) (.hole 1))) rs zs S' (hA.mod hr) (by simp [Env.mod, hv]) hz hp.2
                  have hP : takeP s ver f (p ++ [i]) σ = some (r.okm (p ++ [i]) ∧ (r.at (p ++ [i])).isH = true, y, σ.mod s (r.upd (p ++ [i]) (.hole 1))) := by
                    cases f <;> first | (simp [V.leaf] at hlf; done) | (simp [V.owned] at hfo; done) | (simp only [V.owned] at hfo; subst hfo; simp only [takeP, ho, a1]) | simp only [takeP, ho, a1]
                  exact ⟨(r.okm (p ++ [i]) ∧ (r.at (p ++ [i])).isH = true) ∧ q, σ1, by simp only [takePs, hP, t1], ⟨⟨a2, a6⟩, t2⟩, t3⟩
                · cases h
              · cases h
            · cases h
          · cases h
        · cases h
      · rename_i hfo
        split at h
        · rename_i rs zs S' hz
          simp only [Option.some.injEq, Prod.mk.injEq] at h
          obtain ⟨rfl, rfl, rfl⟩ := h
          obtain ⟨q, σ1, t1, t2, t3⟩ := takeFS_sound (ver := ver) fs (i + 1) S σ rs zs S' hA hv hz hp
          have hP : takeP s ver f (p ++ [i]) σ = some (True, f, σ) := by
            cases f <;> first | (simp [V.leaf] at hlf; done) | (simp [V.owned] at hfo; done) | (simp only [V.owned] at hfo; subst hfo; simp [takeP, V.owned]) | simp [takeP, V.owned]
          exact ⟨True ∧ q, σ1, by simp only [takePs, hP, t1], ⟨trivial, t2⟩, t3⟩
        · cases h
    · cases h

theorem takeS_sound (hA : Agr S σ) {a : A} {ps : List Prop} {y : V} {S1 : Sta} (h : takeS (std T) T S a = some (ps, y, S1)) (hp : Alls ps) : ∃ q σ1, takeA σ (vz σ a) = some (q, y, σ1) ∧ q ∧ Agr S1 σ1 := by
  cases a with
  | val x =>
    simp only [takeS, Option.some.injEq, Prod.mk.injEq] at h
    obtain ⟨_, rfl, rfl⟩ := h
    exact ⟨True, σ, rfl, trivial, hA⟩
  | rf s ver p =>
    simp only [takeS] at h
    split at h
    · rename_i r hr
      have ho := ownS_sound hA hr
      split at h
      · simp only [Option.some.injEq, Prod.mk.injEq] at h
        obtain ⟨_, rfl, rfl⟩ := h
        exact ⟨True, σ.drp s, by simp only [vz, takeA, ho], trivial, hA.drp⟩
      · rename_i i q
        split at h
        · rename_i fs
          split at h
          · split at h
            · rename_i z hz
              rw [nthV_get] at hz
              have hl : i < fs.length := (List.getElem?_eq_some_iff.1 hz).1
              simp only [Option.some.injEq, Prod.mk.injEq] at h
              obtain ⟨_, rfl, rfl⟩ := h
              exact ⟨i < fs.length, σ.mod s (.tup (fs.set i (.hole z.size))), by simp only [vz, takeA, ho, getD_of_some hz], hl, hA.mod hr⟩
            · cases h
          · cases h
        · rename_i hn
          split at h
          · rename_i z qs hz
            split at h
            · rename_i hH
              split at h
              · rename_i r' hu
                simp only [Option.some.injEq, Prod.mk.injEq] at h
                obtain ⟨rfl, rfl, rfl⟩ := h
                obtain ⟨e1, e2⟩ := atR_sound hz hp
                rcases e2 with e2 | ⟨e2, e3, e4, e5⟩
                · cases e2
                · have hu' := updS_sound _ _ _ _ _ _ e5 hp hu
                  subst hu'
                  have e6 : (r.at (i :: q)).isH = true := by rw [e1]; exact hH
                  refine ⟨r.okm (i :: q) ∧ (r.at (i :: q)).isH = true, σ.mod s (r.upd (i :: q) (.hole 1)), ?_, ⟨e2, e6⟩, hA.mod hr⟩
                  simp only [vz, takeA, ho, e1]
              · cases h
            · cases h
          · cases h
    · cases h
  | ad => simp [takeS] at h
  | fz => simp [takeS] at h
  | ag s ver p fs =>
    simp only [takeS] at h
    split at h
    · rename_i qs ys S' hz
      simp only [Option.some.injEq, Prod.mk.injEq] at h
      obtain ⟨rfl, rfl, rfl⟩ := h
      obtain ⟨q, σ1, t1, t2, t3⟩ := takeFS_sound (ver := (σ s).ver) fs 0 S σ qs ys S' hA rfl hz hp
      exact ⟨q, σ1, by simp only [vz, takeA, takeP, t1], t2, t3⟩
    · cases h
end
end Go.Ax
