/-
  AX, part ZD: a step, a region, the code of the second level.
-/
import Derived.Test.YtlibillidihopaaAxZC
namespace Go.Ax

section
variable {C : Ctx} {T : Tab} {S : Sta} {σ : Env} {B : Book}

theorem ownE_sound (hA : Agr S σ) {d : Nat} (h : ownE (look S d) = false) : (σ d).owner = false := by
  cases hl : look S d with
  | none => exact hA.off d (look_none hl)
  | some e =>
    obtain ⟨g, a⟩ := e
    obtain ⟨e1, _, e3⟩ := hA.on _ _ _ (look_mem hl)
    unfold E.owner
    rw [e1]
    cases hg : gb g with
    | false => rfl
    | true =>
      rw [e3 hg]
      rw [hl] at h
      cases a <;> first | rfl | exact h

theorem stpS_sound (hT : TabOk C.P T) (hA : Agr S σ) (hΦ : C.Φ = phi B) {ops : Array Oper} {o : Oper} (hst : opSt T C.lo C.st o = true) {ps : List Prop} {S' : Sta} (h : stpS (std T) T B C.nt ops.toList S o = some (ps, S')) (hp : Alls ps) :
    ∃ p σ', step C ops (kO T o) σ o = some (p, σ') ∧ p ∧ Agr S' σ' := by
  unfold stpS at h
  have viaW : (∀ d, o.dst = some d → C.dst d) → (o.dst.isSome = true → kO T o = true) → wS (std T) T S o = some (ps, S') → ∃ p σ', step C ops (kO T o) σ o = some (p, σ') ∧ p ∧ Agr S' σ' := by
    intro hn hk hw
    obtain ⟨p, σ', e1, e2, e3, e4, e5, e6⟩ := wS_sound hT hA hn hst hw hp
    refine ⟨p, σ', ?_, e2, e3⟩
    have hl : lstep C ops σ o = none := by
      unfold lstep
      cases hd : o.dst with
      | none =>
        have : gd ops σ o = some true := by unfold gd; rw [e5]
        rw [this]
      | some d =>
        have : gd ops σ o = some true := by unfold gd; rw [e5]
        rw [this]
        dsimp only
        rw [e4 d hd]
    have e7 : kO T o = true := by
      cases hd : o.dst with
      | none => exact e6 hd
      | some d => exact hk (by rw [hd]; rfl)
    unfold step
    rw [e7, if_pos rfl, hl]
    exact e1
  split at h
  · rename_i g hgd
    have hg1 := gdS_sound hA hgd
    split at h
    · rename_i d hd
      split at h
      · rename_i hn
        have hdn : C.dst d := ⟨by
          simp only [opSt, hd, Bool.and_eq_true] at hst
          exact Nat.le_of_ble_eq_true hst.1, Nat.le_of_ble_eq_true hn⟩
        split at h
        · rename_i qs a hlop
          split at h
          · cases h
          · rename_i hat
            simp only [Bool.or_eq_false_iff] at hat
            obtain ⟨ha1, ha2⟩ := hat
            simp only [Option.some.injEq, Prod.mk.injEq] at h
            obtain ⟨rfl, rfl⟩ := h
            have main : ∃ p a', lstep C ops σ o = some (p, σ.put d (gb g) a') ∧ p ∧ (gb g = true → a' = vz σ a) := by
              cases hgb : gb g with
              | true =>
                obtain ⟨p, e1, e2⟩ := lopS_sound hT hA hΦ hgb hlop hp
                refine ⟨p, vz σ a, ?_, e2, fun _ => rfl⟩
                unfold lstep
                rw [hg1, hgb, hd]
                dsimp only
                rw [e1]
                dsimp only
                rw [if_pos hdn]
              | false =>
                refine ⟨True, .val (.hole 0), ?_, trivial, fun h => by cases h⟩
                unfold lstep
                rw [hg1, hgb, hd]
                dsimp only
                rw [if_pos hdn]
            obtain ⟨p, a', e1, e2, e3⟩ := main
            refine ⟨p, _, ?_, e2, hA.put ha1 e3⟩
            unfold step
            cases hk : kO T o with
            | true => rw [if_pos rfl, e1]
            | false =>
              rw [hk] at ha2
              have : ownE (look S d) = false := by simpa using ha2
              rw [if_neg (by simp), hd]
              dsimp only
              rw [ownE_sound hA this, if_neg (by simp)]
              exact e1
        · split at h
          · rename_i hk
            exact viaW (fun d' hd' => by rw [hd] at hd'; simp only [Option.some.injEq] at hd'; subst hd'; exact hdn) (fun _ => hk) h
          · cases h
      · cases h
    · rename_i hd
      exact viaW (fun d' hd' => by rw [hd] at hd'; cases hd') (fun h => by rw [hd] at h; cases h) h
  · cases h

theorem conj_iff {ps : List Prop} {r : Prop} : conj ps r ↔ Alls ps ∧ r := by
  induction ps with
  | nil => simp [conj, alls_nil]
  | cons p l ih => simp only [conj, alls_cons, ih, and_assoc]

theorem evS_sound (hT : TabOk C.P T) (hΦ : C.Φ = phi B) {ops : Array Oper} {K : Sta → Prop} {K' : Env → Prop} (hK : ∀ S σ, K S → Agr S σ → K' σ) : ∀ (l : List Oper) (S : Sta) (σ : Env), opsSt T C.lo C.st l = true → evS (std T) T B C.nt ops.toList l S K → Agr S σ → ev C ops l (l.map (kO T)) σ K'
  | [], S, σ, _, h, hA => hK S σ h hA
  | o :: l, S, σ, hst, h, hA => by
    simp only [opsSt, Bool.and_eq_true] at hst
    simp only [evS] at h
    split at h
    · rename_i ps S' hs
      rw [conj_iff] at h
      obtain ⟨p, σ', e1, e2, e3⟩ := stpS_sound hT hA hΦ hst.1 hs h.1
      simp only [List.map_cons, ev, e1]
      exact ⟨e2, evS_sound hT hΦ hK l S' σ' hst.2 h.2 e3⟩
    · exact h.elim

/-! ### calls that write into one argument -/

def psi (Bi : IBook) : FuncId → Option (Nat × (List V → Option (Prop × V × V))) := fun k => match iget Bi k with
  | some (j, c) => some (j, fun args => match c args with
    | some (ps, r, y) => some (Alls ps, r, y)
    | none => none)
  | none => none

theorem ioS_sound (hA : Agr S σ) {a : A} {ps : List Prop} {x : V} {S1 : Sta} {back : V → Option Sta} (h : ioS (std T) T S a = some (ps, x, S1, back)) (hp : Alls ps) :
    ∃ q σ1 back1, ioOut σ (vz σ a) = some (q, x, σ1, back1) ∧ q ∧ Agr S1 σ1 ∧ ∀ y S2, back y = some S2 → Agr S2 (back1 y) := by
  cases a with
  | rf s ver p =>
    simp only [ioS] at h
    split at h
    · rename_i r hr
      have ho := ownS_sound hA hr
      split at h
      · split at h
        · rename_i hH
          simp only [Option.some.injEq, Prod.mk.injEq] at h
          obtain ⟨_, rfl, rfl, rfl⟩ := h
          refine ⟨True, σ.drp s, fun y => σ.mod s y, by simp only [vz, ioOut, ho]; rw [if_pos hH], trivial, hA.drp, fun y S2 h2 => ?_⟩
          simp only [Option.some.injEq] at h2
          subst h2
          exact hA.mod hr
        · cases h
      · rename_i i q
        split at h
        · rename_i x' qs hx
          split at h
          · rename_i hH
            split at h
            · rename_i r1 hu
              simp only [Option.some.injEq, Prod.mk.injEq] at h
              obtain ⟨rfl, rfl, rfl, rfl⟩ := h
              obtain ⟨e1, e2⟩ := atR_sound hx hp
              rcases e2 with e2 | ⟨e2, e3, e4, e5⟩
              · cases e2
              have hu' := updS_sound _ _ _ _ _ _ e5 hp hu
              subst hu'
              have hsz : (r.at (i :: q)).size = 1 := by
                rw [e1]
                revert hH
                cases x' <;> simp [V.isH, V.size]
              refine ⟨r.okm (i :: q) ∧ (r.at (i :: q)).isH = true, σ.mod s (r.upd (i :: q) (.hole 1)), fun y => σ.mod s (r.upd (i :: q) y), by
                rw [e1] at hsz
                simp only [vz, ioOut, ho, e1, hsz], ⟨e2, by rw [e1]; exact hH⟩, hA.mod hr, fun y S2 h2 => ?_⟩
              dsimp only at h2
              split at h2
              · rename_i r2 hu2
                simp only [Option.some.injEq] at h2
                subst h2
                have hu2' := updS_sound _ _ _ _ _ _ e5 hp hu2
                subst hu2'
                exact hA.mod hr
              · cases h2
            · cases h
          · cases h
        · cases h
    · cases h
  | ag s ver p fs =>
    simp only [ioS] at h
    split at h
    · rename_i r hr
      have ho := ownS_sound hA hr
      split at h
      · cases h
      · rename_i i q
        split at h
        · rename_i gs qs hx
          split at h
          · rename_i hok
            split at h
            · rename_i r1 hu
              simp only [Option.some.injEq, Prod.mk.injEq] at h
              obtain ⟨rfl, rfl, rfl, rfl⟩ := h
              obtain ⟨e1, e2⟩ := atR_sound hx hp
              rcases e2 with e2 | ⟨e2, e3, e4, e5⟩
              · cases e2
              have hu' := updS_sound _ _ _ _ _ _ e5 hp hu
              subst hu'
              refine ⟨r.okm (i :: q), σ.mod s (r.upd (i :: q) (.hole (V.sizes gs))), _, by simp only [vz, ioOut, ho, e1]; rw [if_pos hok]; rfl, e2, hA.mod hr, fun y S2 h2 => ?_⟩
              dsimp only at h2
              split at h2
              · rename_i xs
                split at h2
                · rename_i r2 hu2
                  simp only [Option.some.injEq] at h2
                  subst h2
                  have hu2' := updS_sound _ _ _ _ _ _ e5 hp hu2
                  subst hu2'
                  exact hA.mod hr
                · cases h2
              · cases h2
            · cases h
          · cases h
        · cases h
    · cases h
  | _ => simp [ioS] at h

theorem iS_sound {Bi : IBook} (hT : TabOk C.P T) (hA : Agr S σ) (hΦ : C.Φ = phi B) (hΨ : C.Ψ = psi Bi) {ops : Array Oper} {o : Oper} {ps : List Prop} {S' : Sta} (hn : ∀ d, o.dst = some d → C.dst d) (h : iS (std T) T B Bi S o = some (ps, S')) (hp : Alls ps) :
    ∃ p σ', StepL C ops σ o (p, σ') ∧ p ∧ Agr S' σ' := by
  unfold iS at h
  split at h
  · cases h
  rename_i hg
  split at h
  · rename_i k args ats hop
    split at h
    · cases h
    rename_i hBk
    split at h
    · rename_i j c hIk
      split at h
      · rename_i x hx
        split at h
        · rename_i gx a h1
          split at h
          · rename_i qs y S1 back h2
            split at h
            · rename_i rs vs br h3
              split at h
              · rename_i ts r y' h4
                split at h
                · rename_i S2 h5
                  split at h
                  · cases h
                  rename_i hfn
                  simp only [Option.some.injEq, Prod.mk.injEq] at h
                  obtain ⟨rfl, rfl⟩ := h
                  rw [alls_append, alls_append, alls_append, alls_append] at hp
                  obtain ⟨⟨⟨⟨p1, p2⟩, p3⟩, p4⟩, p5⟩ := hp
                  have o1 := opdS_sound hT hA h1 (geG_sound p1 rfl)
                  obtain ⟨q, σ1, back1, t1, t2, t3, t4⟩ := ioS_sound hA h2 p2
                  obtain ⟨pl, l1, l2⟩ := argsS_sound hT t3 (g := none) rfl h3 p3
                  have hpsi : C.Ψ k = some (j, fun args => match c args with
                      | some (ps, r, y) => some (Alls ps, r, y)
                      | none => none) := by rw [hΨ]; simp only [psi, hIk]
                  have hnf : (br && !(r.noFz && y'.noFz)) = false := by
                    cases hb : br with
                    | false => rfl
                    | true =>
                      rw [hb] at p5 hfn
                      simp only [Bool.true_and, Bool.or_eq_false_iff] at hfn
                      rw [alls_append] at p5
                      rw [nofzS_sound r p5.1 hfn.1, nofzS_sound y' p5.2 hfn.2]
                      rfl
                  have ho1 : opd C.P σ 0 x = some (true, vz σ a) := o1
                  cases hd : o.dst with
                  | none =>
                    refine ⟨true = true ∧ q ∧ pl ∧ Alls ts, back1 y', ?_, ⟨rfl, t2, l2, p4⟩, t4 y' S2 h5⟩
                    refine .inr (.inr (.inl ?_))
                    simp only [istep, hg, hop, hpsi, hx, ho1, t1, l1, h4, hnf, hd]
                    rw [if_neg (by simp)]
                  | some d =>
                    refine ⟨true = true ∧ q ∧ pl ∧ Alls ts, (back1 y').put d true (.val r), ?_, ⟨rfl, t2, l2, p4⟩, (t4 y' S2 h5).put (g := none) rfl (fun _ => rfl)⟩
                    refine .inr (.inr (.inl ?_))
                    simp only [istep, hg, hop, hpsi, hx, ho1, t1, l1, h4, hnf, hd]
                    rw [if_neg (by simp), if_pos (hn d hd)]
                · cases h
              · cases h
            · cases h
          · cases h
        · cases h
      · cases h
    · cases h
  · cases h

theorem bS_sound (hT : TabOk C.P T) (hA : Agr S σ) {ops : Array Oper} {o : Oper} {ps : List Prop} {S' : Sta} (hn : ∀ d, o.dst = some d → C.dst d) (h : bS (std T) T S o = some (ps, S')) (hp : Alls ps) :
    ∃ p σ', StepL C ops σ o (p, σ') ∧ p ∧ Agr S' σ' := by
  unfold bS at h
  split at h
  · cases h
  rename_i hg
  split at h
  · rename_i t x d hop hd
    split at h
    · rename_i gx s ver p h1
      split at h
      · split at h
        · rename_i fs hr
          split at h
          · rename_i hc
            simp only [Bool.and_eq_true, Bool.not_eq_true'] at hc
            simp only [Option.some.injEq, Prod.mk.injEq] at h
            obtain ⟨rfl, rfl⟩ := h
            have o1 := opdS_sound hT hA h1 (geG_sound hp rfl)
            have hos := ownS_sound hA hr
            have hsd : s ≠ d := fun e => by subst e; rw [Nat.beq_refl] at hc; cases hc.1
            have hA1 : Agr (putS (del s S) d none (.val (.box t (.agg fs)))) ((σ.drp s).put d true (.val (.box t (.agg fs)))) := hA.drp.put (g := none) rfl (fun _ => rfl)
            have hA2 : Agr (putS (putS (del s S) d none (.val (.box t (.agg fs)))) s none (.ag d 0 [0] fs)) (((σ.drp s).put d true (.val (.box t (.agg fs)))).put s true (.ag d (((σ.drp s) d).ver + 1) [0] fs)) :=
              hA1.put (g := none) (by cases hh : Nat.beq d s with
                | false => exact hh
                | true => exact absurd (Nat.eq_of_beq_eq_true hh).symm hsd) (fun _ => by simp [vz, Env.put])
            simp only [vz] at o1
            have hb : bstep C σ o = some (true = true, ((σ.drp s).put d true (.val (.box t (.agg fs)))).put s true (.ag d (((σ.drp s) d).ver + 1) [0] fs)) := by
              simp only [bstep, hg, hop, hd, o1, hos]
              rw [if_pos ⟨hn d hd, hsd, hc.2⟩]
            exact ⟨true = true, _, .inr (.inr (.inr (.inl hb))), rfl, hA2⟩
          · cases h
        · cases h
      · cases h
    · cases h
  · cases h

theorem takesVS_sound (hT : TabOk C.P T) {ty : Nat → TypeId} : ∀ (parts : List (Nat × Operand)) (S S1 : Sta) (σ : Env) (ps : List Prop) (vs : List (Nat × V)), Agr S σ → takesVS (std T) T ty S parts = some (ps, vs, S1) → Alls ps →
    ∃ p σ1, takesV C ty σ parts = some (p, vs, σ1) ∧ p ∧ Agr S1 σ1
  | [], S, S1, σ, ps, vs, hA, h, _ => by
    simp only [takesVS, Option.some.injEq, Prod.mk.injEq] at h
    obtain ⟨_, rfl, rfl⟩ := h
    exact ⟨True, σ, rfl, trivial, hA⟩
  | (i, x) :: xs, S, S1, σ, ps, vs, hA, h, hp => by
    simp only [takesVS] at h
    split at h
    · rename_i gx a h1
      split at h
      · rename_i qs y S2 h2
        split at h
        · cases h
        rename_i hnh
        split at h
        · rename_i rs vs' S3 h3
          simp only [Option.some.injEq, Prod.mk.injEq] at h
          obtain ⟨rfl, rfl, rfl⟩ := h
          rw [alls_append, alls_append] at hp
          obtain ⟨⟨p1, p2⟩, p3⟩ := hp
          have o1 := opdS_sound hT hA h1 (geG_sound p1 rfl)
          obtain ⟨q, σ1, t1, t2, t3⟩ := takeS_sound hA h2 p2
          obtain ⟨p, σ2, u1, u2, u3⟩ := takesVS_sound hT xs S2 _ σ1 rs vs' t3 h3 p3
          refine ⟨true = true ∧ q ∧ p, σ2, ?_, ⟨rfl, t2, u2⟩, u3⟩
          have o2 : opd C.P σ (ty i) x = some (true, vz σ a) := o1
          simp only [takesV, o2, t1, u1]
          rw [if_neg (by simp [hnh])]
        · cases h
      · cases h
    · cases h

theorem mS_sound (hT : TabOk C.P T) (hA : Agr S σ) {ops : Array Oper} {o : Oper} {ps : List Prop} {S' : Sta} (hn : ∀ d, o.dst = some d → C.dst d) (h : mS (std T) T S o = some (ps, S')) (hp : Alls ps) :
    ∃ p σ', StepL C ops σ o (p, σ') ∧ p ∧ Agr S' σ' := by
  unfold mS at h
  split at h
  · cases h
  rename_i hg
  split at h
  · rename_i t parts d hop hd
    split at h
    · rename_i fts c zs ht
      split at h
      · rename_i qs vs S1 hv
        split at h
        · rename_i fs hfs
          simp only [Option.some.injEq, Prod.mk.injEq] at h
          obtain ⟨rfl, rfl⟩ := h
          have hst : structOf C.P t = some zs := congrArg Got.struct (hT.got ht)
          have hty : (fun i => ((fieldT C.P t i).map (·.2)).getD 0) = ftyS fts := by
            funext i
            rw [fieldT_of (hT.fields (t := t) (fs := fts) (by simp [fieldsT, ht]))]
            unfold ftyS
            cases nthF fts i <;> rfl
          obtain ⟨p, σ1, u1, u2, u3⟩ := takesVS_sound (C := C) hT _ _ _ σ _ _ hA hv hp
          refine ⟨p, _, .inr (.inr (.inr (.inr ?_))), u2, u3.put (g := none) rfl (fun _ => rfl)⟩
          simp only [mstep, hg, hop, hd, hst, hty, u1, hfs]
          rw [if_pos (hn d hd)]
          rfl
        · cases h
      · cases h
    · cases h
  · rename_i t n parts d hop hd
    split at h
    · rename_i e he
      split at h
      · rename_i ti qs vs S1 ht hv
        split at h
        · rename_i hle
          simp only [Bool.and_eq_true] at hle
          split at h
          · rename_i es hes
            simp only [Option.some.injEq, Prod.mk.injEq] at h
            obtain ⟨rfl, rfl⟩ := h
            obtain ⟨p, σ1, u1, u2, u3⟩ := takesVS_sound (C := C) hT _ _ _ σ _ _ hA hv hp
            have hc : n * C.P.cellsOf e ≤ 2 ^ 20 ∧ 0 < C.P.cellsOf e ∧ 0 < n := by
              have := (elem_ok hT he).2
              rw [hT.cells ht] at this ⊢
              exact ⟨Nat.le_of_ble_eq_true hle.1, by omega, Nat.le_of_ble_eq_true hle.2⟩
            refine ⟨p, _, .inr (.inr (.inr (.inr ?_))), u2, u3.put (g := none) rfl (fun _ => rfl)⟩
            simp only [mstep, hg, hop, hd, hT.elem he, hT.zero ht, u1]
            rw [if_pos hc, hes]
            dsimp only
            rw [if_pos (hn d hd)]
            rfl
          · cases h
        · cases h
      · cases h
    · cases h
  · cases h

theorem stpL_sound {Bi : IBook} (hT : TabOk C.P T) (hA : Agr S σ) (hΦ : C.Φ = phi B) (hΨ : C.Ψ = psi Bi) {ops : Array Oper} {o : Oper} (hst : opSt T C.lo C.st o = true) {ps : List Prop} {S' : Sta} (h : stpL (std T) T B Bi C.nt ops.toList S o = some (ps, S')) (hp : Alls ps) :
    ∃ p σ', StepL C ops σ o (p, σ') ∧ p ∧ Agr S' σ' := by
  unfold stpL at h
  have viaW : (∀ d, o.dst = some d → C.dst d) → (match wS (std T) T S o with
      | some r => some r
      | none => match iS (std T) T B Bi S o with
        | some r => some r
        | none => match bS (std T) T S o with
          | some r => some r
          | none => mS (std T) T S o) = some (ps, S') → ∃ p σ', StepL C ops σ o (p, σ') ∧ p ∧ Agr S' σ' := by
    intro hn hw
    split at hw
    · rename_i r hr
      simp only [Option.some.injEq] at hw
      subst hw
      obtain ⟨p, σ', e1, e2, e3, _⟩ := wS_sound hT hA hn hst hr hp
      exact ⟨p, σ', .inr (.inl e1), e2, e3⟩
    · split at hw
      · rename_i r hr
        simp only [Option.some.injEq] at hw
        subst hw
        exact iS_sound hT hA hΦ hΨ hn hr hp
      · split at hw
        · rename_i r hr
          simp only [Option.some.injEq] at hw
          subst hw
          exact bS_sound hT hA hn hr hp
        · exact mS_sound hT hA hn hw hp
  split at h
  · rename_i g hgd
    have hg1 := gdS_sound hA hgd
    split at h
    · rename_i d hd
      split at h
      · rename_i hn
        have hdn : C.dst d := ⟨by
          simp only [opSt, hd, Bool.and_eq_true] at hst
          exact Nat.le_of_ble_eq_true hst.1, Nat.le_of_ble_eq_true hn⟩
        split at h
        · rename_i qs a hlop
          split at h
          · cases h
          · rename_i ha1
            simp only [Option.some.injEq, Prod.mk.injEq] at h
            obtain ⟨rfl, rfl⟩ := h
            have main : ∃ p a', lstep C ops σ o = some (p, σ.put d (gb g) a') ∧ p ∧ (gb g = true → a' = vz σ a) := by
              cases hgb : gb g with
              | true =>
                obtain ⟨p, e1, e2⟩ := lopS_sound hT hA hΦ hgb hlop hp
                refine ⟨p, vz σ a, ?_, e2, fun _ => rfl⟩
                unfold lstep
                rw [hg1, hgb, hd]
                dsimp only
                rw [e1]
                dsimp only
                rw [if_pos hdn]
              | false =>
                refine ⟨True, .val (.hole 0), ?_, trivial, fun h => by cases h⟩
                unfold lstep
                rw [hg1, hgb, hd]
                dsimp only
                rw [if_pos hdn]
            obtain ⟨p, a', e1, e2, e3⟩ := main
            exact ⟨p, _, .inl e1, e2, hA.put ha1 e3⟩
        · exact viaW (fun d' hd' => by rw [hd] at hd'; simp only [Option.some.injEq] at hd'; subst hd'; exact hdn) h
      · cases h
    · rename_i hd
      exact viaW (fun d' hd' => by rw [hd] at hd'; cases hd') h
  · cases h

theorem nilS_sound (hT : TabOk C.P T) (hA : Agr S σ) {o : Oper} {d : Nat} {ps : List Prop} {es : List V} (hlo : C.lo ≤ d) (h : nilS (std T) T S C.nt o = some (d, ps, es)) (hp : Alls ps) : ∃ q, nilCmp C σ o = some (d, q, es) ∧ q := by
  unfold nilS at h
  split at h
  · cases h
  rename_i hg
  split at h
  · rename_i xt x yt d' hop hd
    split at h
    · rename_i hn
      split at h
      · rename_i e gx a he h1
        split at h
        · rename_i o' e' dd es' qs h2
          simp only [Option.some.injEq, Prod.mk.injEq] at h
          obtain ⟨rfl, rfl, rfl⟩ := h
          rw [alls_append] at hp
          have o1 := opdS_sound hT hA h1 (geG_sound hp.1 rfl)
          obtain ⟨l1, l2, l3⟩ := lookS_sound hA h2 hp.2
          have o2 : opd C.P σ xt x = some (true, vz σ a) := o1
          refine ⟨true = true ∧ (vz σ a).okA σ, ?_, rfl, l2⟩
          simp only [nilCmp, hg, hop, hd, hT.elem he, o2, l1, l3]
          rw [if_neg (by simp), if_pos ⟨hlo, Nat.le_of_ble_eq_true hn⟩]
        · cases h
      · cases h
    · cases h
  · cases h

theorem evL_sound {Bi : IBook} (hT : TabOk C.P T) (hΦ : C.Φ = phi B) (hΨ : C.Ψ = psi Bi) {ops : Array Oper} {K : Sta → Prop} {K' : Env → Prop} (hK : ∀ S σ, K S → Agr S σ → K' σ) : ∀ (l : List Oper) (S : Sta) (σ : Env), opsSt T C.lo C.st l = true →
    evL (std T) T B Bi C.nt ops.toList l S K → Agr S σ → evO C ops l σ K'
  | [], S, σ, _, h, hA => hK S σ h hA
  | o :: l, S, σ, hst, h, hA => by
    simp only [opsSt, Bool.and_eq_true] at hst
    simp only [evL] at h
    split at h
    · rename_i d ps es hs
      rw [conj_iff] at h
      obtain ⟨hp, h1, h2⟩ := h
      have hd : o.dst = some d := by
        unfold nilS at hs
        split at hs
        · cases hs
        split at hs
        · rename_i hd
          split at hs
          · split at hs
            · split at hs
              · simp only [Option.some.injEq, Prod.mk.injEq] at hs
                obtain ⟨rfl, _⟩ := hs
                exact hd
              · cases hs
            · cases hs
          · cases hs
        · cases hs
      have hlo : C.lo ≤ d := by
        have := hst.1
        simp only [opSt, hd, Bool.and_eq_true] at this
        exact Nat.le_of_ble_eq_true this.1
      obtain ⟨q, e1, e2⟩ := nilS_sound hT hA hlo hs hp
      refine .inr ⟨d, q, es, e1, e2, fun b hb => ?_⟩
      cases b with
      | true =>
        have : es = [] := by
          cases es with
          | nil => rfl
          | cons x l => exact absurd (hb (by simp)) (by simp)
        subst this
        exact evL_sound hT hΦ hΨ hK l _ _ hst.2 (h1 rfl) (hA.put (g := none) rfl (fun _ => rfl))
      | false => exact evL_sound hT hΦ hΨ hK l _ _ hst.2 h2 (hA.put (g := none) rfl (fun _ => rfl))
    · split at h
      · rename_i ps S' hs
        rw [conj_iff] at h
        obtain ⟨p, σ', e1, e2, e3⟩ := stpL_sound hT hA hΦ hΨ hst.1 hs h.1
        exact .inl ⟨p, σ', e1, e2, evL_sound hT hΦ hΨ hK l S' σ' hst.2 h.2 e3⟩
      · exact h.elim

/-! ### to forget -/

def drpL : List Nat → Env → Env
  | [], σ => σ
  | t :: l, σ => drpL l (σ.drp t)

theorem drpL_g {a : Act} {w : World} : ∀ (l : List Nat) (σ : Env), G C σ a w → G C (drpL l σ) a w
  | [], _, h => h
  | t :: l, σ, ⟨F, O, hI⟩ => drpL_g l _ ⟨F, _, (hI.drop t).lessZ (fun _ h => h.elim)⟩

theorem drpL_ne : ∀ (l : List Nat) (σ : Env) (t : Nat), t ∉ l → drpL l σ t = σ t
  | [], _, _, _ => rfl
  | s :: l, σ, t, h => by
    simp only [List.mem_cons, not_or] at h
    rw [drpL, drpL_ne l _ t h.2]
    simp [Env.drp, h.1]
theorem drpL_eq : ∀ (l : List Nat) (σ : Env) (t : Nat), t ∈ l → (drpL l σ t).owner = false
  | s :: l, σ, t, h => by
    by_cases ht : t ∈ l
    · exact drpL_eq l _ t ht
    · rw [drpL, drpL_ne l _ t ht]
      rcases List.mem_cons.1 h with rfl | h
      · simp [Env.drp, E.owner]
      · exact absurd h ht

theorem memN_iff {l : List Nat} {t : Nat} : memN l t = true ↔ t ∈ l := by
  induction l with
  | nil => simp [memN]
  | cons x l ih =>
    simp only [memN]
    split
    · rename_i h
      simp [Nat.eq_of_beq_eq_true h]
    · rename_i h
      have : t ≠ x := by rintro rfl; rw [Nat.beq_refl] at h; cases h
      rw [ih, List.mem_cons]
      simp [this]

theorem in0_at {a : A} {ks : List Nat} (h : a.in0 ks = true) {s : Nat} (hs : a.at0 s = true) : s ∈ ks := by
  cases a with
  | rf t v p => have := Nat.eq_of_beq_eq_true hs; subst this; exact memN_iff.1 h
  | ad t v p => have := Nat.eq_of_beq_eq_true hs; subst this; exact memN_iff.1 h
  | ag t v p fs => have := Nat.eq_of_beq_eq_true hs; subst this; exact memN_iff.1 h
  | _ => simp [A.at0] at hs

theorem Agr.keep (hA : Agr S σ) (ks : List Nat) : Agr (keepS ks S) (drpL ((S.map (·.1)).filter (fun t => !memN ks t)) σ) := by
  have hin : ∀ t, t ∈ ks → t ∉ (S.map (·.1)).filter (fun t => !memN ks t) := by
    intro t ht h
    have := (List.mem_filter.1 h).2
    rw [memN_iff.2 ht] at this
    cases this
  refine ⟨fun t g a h => ?_, fun t h => ?_⟩
  · obtain ⟨h1, h2, h3⟩ := mem_keep.1 h
    have h2' : t ∈ ks := memN_iff.1 h2
    rw [vz_congr (σ := σ) (fun s hs => by rw [drpL_ne _ _ _ (hin s (in0_at h3 hs))])]
    rw [drpL_ne _ _ _ (hin t h2')]
    exact hA.on t g a h1
  · by_cases hm : t ∈ (S.map (·.1)).filter (fun t => !memN ks t)
    · exact drpL_eq _ _ _ hm
    · rw [drpL_ne _ _ _ hm]
      by_cases hx : ∃ e, (t, e) ∈ S
      · obtain ⟨⟨g, b⟩, hx⟩ := hx
        have hk : memN ks t = true := by
          cases hh : memN ks t with
          | true => rfl
          | false => exact absurd (List.mem_filter.2 ⟨List.mem_map.2 ⟨_, hx, rfl⟩, by simp [hh]⟩) hm
        cases hb : b.in0 ks with
        | true => exact absurd (mem_keep.2 ⟨hx, hk, hb⟩) (h (g, b))
        | false =>
          have : ∃ d, b.at0 d = true := by
            cases b with
            | rf s v p => exact ⟨s, Nat.beq_refl s⟩
            | ad s v p => exact ⟨s, Nat.beq_refl s⟩
            | ag s v p fs => exact ⟨s, Nat.beq_refl s⟩
            | _ => simp [A.in0] at hb
          obtain ⟨d, hd⟩ := this
          exact hA.ref_off hx hd
      · exact hA.off t (fun e he => hx ⟨e, he⟩)

/-! ### code -/

def chkCode (T : Tab) (lo : Nat) (st : Bool) : Code → Bool
  | .region _ ops draw => (!draw || chk ops (ops.toList.map (kO T))) && opsSt T lo st ops.toList
  | .seq x y => chkCode T lo st x && chkCode T lo st y
  | .cond _ x y => chkCode T lo st x && chkCode T lo st y
  | .block _ c => chkCode T lo st c
  | .loop c => chkCode T lo st c
  | _ => true

/-- what the second level says of the frame and the world -/
def GS (C : Ctx) (S : Sta) (a : Act) (w : World) : Prop := ∃ σ, Agr S σ ∧ G C σ a w
def postC (C : Ctx) (Q : PostS) : Exit → Act → World → Prop := fun e a w => ∃ S, Q e S ∧ GS C S a w
def SW (C : Ctx) (c : Code) (Q : PostS) (S : Sta) : Prop := ∀ a w, GS C S a w → c.wp C.P (postC C Q) a w

theorem GS.keep {a : Act} {w : World} (h : GS C S a w) (ks : List Nat) : GS C (keepS ks S) a w := by
  obtain ⟨σ, hA, hG⟩ := h
  exact ⟨_, hA.keep ks, drpL_g _ _ hG⟩

theorem wpS_sound {Bi : IBook} (hC : CtxOk C) (hIO : IOk C) (hT : TabOk C.P T) (hΦ : C.Φ = phi B) (hΨ : C.Ψ = psi Bi) (hm : C.P.follows .mixedOrders = true) {lp : LoopA} (hlp : ∀ c Q S, chkCode T C.lo C.st c = true → lp c Q S → SW C (.loop c) Q S) {ks : List Nat} :
    ∀ (c : Code) (Q : PostS) (S : Sta), chkCode T C.lo C.st c = true → wpS (std T) T lp B Bi C.nt ks c Q S → SW C c Q S := by
  intro c
  induction c with
  | skip => intro Q S _ h a w hG; exact wp_skip ⟨S, h, hG⟩
  | seq x y ihx ihy =>
    intro Q S hc h a w hG
    simp only [chkCode, Bool.and_eq_true] at hc
    simp only [wpS] at h
    refine wp_seq (Code.wp_mono (fun e a' w' hq => ?_) (ihx _ _ hc.1 h a w hG))
    obtain ⟨S', hq1, hq2⟩ := hq
    cases e with
    | normal => exact ihy Q S' hc.2 hq1 a' w' hq2
    | _ => exact ⟨S', hq1, hq2⟩
  | region id ops draw =>
    intro Q S hc h a w hG
    simp only [chkCode, Bool.and_eq_true] at hc
    simp only [wpS] at h
    obtain ⟨σ, hA, hG⟩ := hG.keep ks
    have hK : ∀ σ a w, (∃ S', Q .normal S' ∧ Agr S' σ) → G C σ a w → postC C Q .normal a w := fun σ a w ⟨S', h1, h2⟩ h3 => ⟨S', h1, σ, h2, h3⟩
    cases draw with
    | false =>
      have hev := evL_sound (K' := fun σ' => ∃ S', Q .normal S' ∧ Agr S' σ') hT hΦ hΨ (fun S σ h1 h2 => ⟨S, h1, h2⟩) ops.toList _ σ hc.2 h hA
      exact region_text hC hIO hG hev hK
    | true =>
      have hev := evS_sound (K' := fun σ' => ∃ S', Q .normal S' ∧ Agr S' σ') hT hΦ (fun S σ h1 h2 => ⟨S, h1, h2⟩) ops.toList _ σ hc.2 h hA
      exact region_any hC hm (by simpa using hc.1) hG hev hK
  | cond c x y ihx ihy =>
    intro Q S hc h a w hG
    simp only [chkCode, Bool.and_eq_true] at hc
    simp only [wpS] at h
    split at h
    · rename_i b hb
      have h' : (b = true → wpS (std T) T lp B Bi C.nt ks x Q (keepS ks S)) ∧ (b = false → wpS (std T) T lp B Bi C.nt ks y Q (keepS ks S)) := h
      have hG' := hG.keep ks
      obtain ⟨σ, hA, F, O, hI⟩ := hG
      have o1 := opdS_sound hT hA hb rfl
      have := holds_bool (opd_sound hI o1 rfl).1
      refine wp_cond_split this (fun hb => ihx Q _ hc.1 (h'.1 hb) a w hG') (fun hb => ihy Q _ hc.2 (h'.2 hb) a w hG')
    · exact h.elim
  | block id c ih =>
    intro Q S hc h a w hG
    simp only [wpS] at h
    refine wp_block (Code.wp_mono (fun e a' w' hq => ?_) (ih _ _ hc h a w hG))
    obtain ⟨S', hq1, hq2⟩ := hq
    cases e with
    | exit id' =>
      simp only [blockS] at hq1
      simp only [Exit.inBlock]
      split at hq1
      · rename_i hid
        rw [if_pos (Nat.eq_of_beq_eq_true hid)]
        exact ⟨S', hq1, hq2⟩
      · rename_i hid
        rw [if_neg (fun e => by subst e; rw [Nat.beq_refl] at hid; cases hid)]
        exact ⟨S', hq1, hq2⟩
    | _ => exact ⟨S', hq1, hq2⟩
  | loop c ih =>
    intro Q S hc h a w hG
    exact hlp c Q _ hc h a w (hG.keep ks)
  | exit id => intro Q S _ h a w hG; exact wp_exit ⟨S, h, hG⟩
  | ret => intro Q S _ h a w hG; exact wp_ret ⟨S, h, hG⟩
  | _ => intro Q S _ h; exact h.elim
end
end Go.Ax
