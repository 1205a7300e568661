/-
  AX, part ZC: writing steps, guarded steps and regions of the second level.
-/
import Derived.Test.YtlibillidihopaaAxZB
namespace Go.Ax

section
variable {C : Ctx} {T : Tab} {S : Sta} {σ : Env} {B : Book}

theorem atS_app : ∀ (p : List Nat) (r c : V) (e : TypeId) (qs : List Prop), atS (std T) T r p = some (.box e c, qs) → atS (std T) T r (p ++ [0]) = some (c, qs)
  | [], r, c, e, qs, h => by
    simp only [atS, Option.some.injEq, Prod.mk.injEq] at h
    obtain ⟨rfl, rfl⟩ := h
    simp [atS]
  | i :: p, .slc o e' d es, c, e, qs, h => by
    cases o with
    | false => simp [atS] at h
    | true =>
      simp only [atS] at h
      simp only [List.cons_append, atS]
      split at h
      · rename_i y' hv
        split at h
        · rename_i z q hz
          simp only [Option.some.injEq, Prod.mk.injEq] at h
          obtain ⟨rfl, rfl⟩ := h
          rw [atS_app p _ _ _ _ hz]
        · cases h
      · cases h
  | i :: p, .agg fs, c, e, qs, h => by
    simp only [atS] at h
    simp only [List.cons_append, atS]
    split at h
    · exact atS_app p _ _ _ _ h
    · cases h
  | i :: p, .box e' c', c, e, qs, h => by
    cases i with
    | zero =>
      simp only [atS] at h
      simp only [List.cons_append, atS]
      exact atS_app p _ _ _ _ h
    | succ i => simp [atS] at h
  | _ :: _, .int _ _, _, _, _, h => by simp [atS] at h
  | _ :: _, .bool _, _, _, _, h => by simp [atS] at h
  | _ :: _, .str _, _, _, _, h => by simp [atS] at h
  | _ :: _, .tup _, _, _, _, h => by simp [atS] at h
  | _ :: _, .fn _ _, _, _, _, h => by simp [atS] at h
  | _ :: _, .hole _, _, _, _, h => by simp [atS] at h

theorem atR_app {p : List Nat} {r c : V} {e : TypeId} {qs : List Prop} (h : atR (std T) T r p = some (.box e c, qs)) : atS (std T) T r (p ++ [0]) = some (c, qs) := by
  unfold atR at h
  split at h
  · simp only [Option.some.injEq, Prod.mk.injEq] at h
    obtain ⟨rfl, rfl⟩ := h
    simp [atS]
  · split at h
    · cases h
    · cases h
    · exact atS_app _ _ _ _ _ h

theorem gdS_sound {ops : Array Oper} (hA : Agr S σ) {o : Oper} {g : Option Bool} (h : gdS (std T) ops.toList S o = some g) : gd ops σ o = some (gb g) := by
  unfold gdS at h
  unfold gd
  cases hg : o.guard with
  | none =>
    simp only [hg, Option.some.injEq] at h
    subst h
    rfl
  | some jw =>
    obtain ⟨j, want⟩ := jw
    simp only [hg] at h
    split at h
    · rename_i o' ho
      rw [nthO_get, Array.getElem?_toList] at ho
      split at h
      · rename_i t ht
        split at h
        · rename_i g0 b hl
          obtain ⟨e1, e2, e3⟩ := hA.on _ _ _ (look_mem hl)
          simp only [ho, Option.bind_some, ht, e2, if_true]
          cases hgb : gb g0 with
          | true =>
            rw [hgb] at e1
            have e3' : (σ t).a = .val (.bool b) := e3 hgb
            rw [e1, if_pos rfl, e3']
            split at h
            · simp only [Option.some.injEq] at h
              subst h
              cases g0 with
              | none => simp [andG, gb]
              | some a => simp only [gb] at hgb; subst hgb; simp [andG, gb, std]
            · simp only [Option.some.injEq] at h
              subst h
              cases g0 with
              | none => simp [andG, gb, std]
              | some a => simp only [gb] at hgb; subst hgb; simp [andG, gb, std]
          | false =>
            rw [hgb] at e1
            rw [e1, if_neg (by simp)]
            cases g0 with
            | none => cases hgb
            | some a =>
              simp only [gb] at hgb; subst hgb
              split at h <;>
              · simp only [Option.some.injEq] at h
                subst h
                simp [andG, gb, std]
        · cases h
      · cases h
    · cases h

theorem lop_assign_none {o : Oper} {x : Operand} {s ver : Nat} {p : List Nat} (hop : o.op = .assign x) (h : opd C.P σ o.type x = some (true, .rf s ver p)) (hr : p = [] ∨ ∃ fs, σ.own s ver = some (.tup fs)) : lop C σ true o = none := by
  simp only [lop, hop, h]
  rcases hr with rfl | ⟨fs, hr⟩
  · rfl
  · cases p with
    | nil => rfl
    | cons i p => simp only [hr]

/-- the state's writes: the next state of the first level -/
def WOk (T : Tab) (C : Ctx) (σ : Env) (o : Oper) (S' : Sta) : Prop := ∃ p σ', wstep C σ o = some (p, σ') ∧ p ∧ Agr S' σ' ∧ (∀ d, o.dst = some d → lop C σ true o = none) ∧ o.guard = none ∧ (o.dst = none → kO T o = true)

theorem WOk.mk {o : Oper} {S' : Sta} {p : Prop} {σ' : Env} (h1 : wstep C σ o = some (p, σ')) (h2 : p) (h3 : Agr S' σ') (h4 : ∀ d, o.dst = some d → lop C σ true o = none) (h5 : o.guard = none) (h6 : (o.dst = none → kO T o = true)) : WOk T C σ o S' :=
  ⟨p, σ', h1, h2, h3, h4, h5, h6⟩

theorem wS_sound (hT : TabOk C.P T) (hA : Agr S σ) {o : Oper} {ps : List Prop} {S' : Sta} (hn : ∀ d, o.dst = some d → C.dst d) (hst : opSt T C.lo C.st o = true) (h : wS (std T) T S o = some (ps, S')) (hp : Alls ps) : WOk T C σ o S' := by
  unfold wS at h
  split at h
  · cases h
  rename_i hgd
  split at h
  · -- an assignment that moves
    rename_i x d hop hd
    split at h
    · rename_i gx s ver p h1
      split at h
      · rename_i qs y S1 h2
        split at h
        · cases h
        rename_i hh
        have hpp : Alls (geG (std T) none gx) ∧ Alls qs := by
          split at h
          · split at h
            · cases h
            · simp only [Option.some.injEq, Prod.mk.injEq] at h
              obtain ⟨rfl, _⟩ := h
              exact alls_append.1 hp
          · split at h
            · simp only [Option.some.injEq, Prod.mk.injEq] at h
              obtain ⟨rfl, _⟩ := h
              exact alls_append.1 hp
            · cases h
        have o1 := opdS_sound hT hA h1 (geG_sound hpp.1 rfl)
        obtain ⟨q, σ1, t1, t2, t3⟩ := takeS_sound hA h2 hpp.2
        have hdn := hn d hd
        have hc : (decide (C.dst d) && !y.isHole) = true := by simp [hdn, hh]
        simp only [vz] at o1 t1
        split at h
        · rename_i hb
          split at h
          · cases h
          rename_i hsd
          have hne : s ≠ d := fun e => by subst e; rw [Nat.beq_refl] at hsd; cases hsd
          simp only [Option.some.injEq, Prod.mk.injEq] at h
          obtain ⟨_, rfl⟩ := h
          have hA1 : Agr (putS S1 d none (.val y)) (σ1.put d true (.val y)) := t3.put (g := none) rfl (fun _ => rfl)
          have hA2 : Agr (putS (putS S1 d none (.val y)) s none (.rf d 0 [])) ((σ1.put d true (.val y)).put s true (.rf d ((σ1 d).ver + 1) [])) :=
            hA1.put (g := none) (by cases hh : Nat.beq d s with
              | false => exact hh
              | true => exact absurd (Nat.eq_of_beq_eq_true hh).symm hne) (fun _ => by simp [vz, Env.put])
          have hw : wstep C σ o = some (true = true ∧ q, (σ1.put d true (.val y)).put s true (.rf d ((σ1 d).ver + 1) [])) := by
            simp only [wstep, hgd, hop, hd, o1, t1]
            rw [if_pos hc, if_neg hne]
          exact .mk hw ⟨rfl, t2⟩ hA2 (fun _ _ => lop_assign_none hop o1 (.inl rfl)) hgd (fun h => by rw [hd] at h; cases h)
        · rename_i hpn
          split at h
          · rename_i fs hr
            simp only [Option.some.injEq, Prod.mk.injEq] at h
            obtain ⟨_, rfl⟩ := h
            have hA1 : Agr (putS S1 d none (.val y)) (σ1.put d true (.val y)) := t3.put (g := none) rfl (fun _ => rfl)
            have hw : wstep C σ o = some (true = true ∧ q, σ1.put d true (.val y)) := by
              simp only [wstep, hgd, hop, hd, o1, t1]
              rw [if_pos hc]
              split
              · rename_i heq
                simp only [A.rf.injEq] at heq
                exact absurd heq.2.2 hpn
              · rfl
            exact .mk hw ⟨rfl, t2⟩ hA1 (fun _ _ => lop_assign_none hop o1 (.inr ⟨fs, ownS_sound hA hr⟩)) hgd (fun h => by rw [hd] at h; cases h)
          · cases h
      · cases h
    · rename_i gx v h1
      split at h
      · rename_i hv
        simp only [Bool.and_eq_true] at hv
        simp only [Option.some.injEq, Prod.mk.injEq] at h
        obtain ⟨rfl, rfl⟩ := h
        have o1 := opdS_sound hT hA h1 (geG_sound hp rfl)
        have hdn := hn d hd
        have hc : (decide (C.dst d) && !v.isHole) = true := by simp only [hdn, decide_true, Bool.true_and]; exact hv.2
        simp only [vz] at o1
        have hA1 : Agr (putS S d none (.val v)) (σ.put d true (.val v)) := hA.put (g := none) rfl (fun _ => rfl)
        have hw : wstep C σ o = some (true = true ∧ True, σ.put d true (.val v)) := by
          simp only [wstep, hgd, hop, hd, o1, takeA]
          rw [if_pos hc]
        exact .mk hw ⟨rfl, trivial⟩ hA1 (fun _ _ => by simp only [lop, hop, o1]; rw [if_pos hv.1]) hgd (fun h => by rw [hd] at h; cases h)
      · cases h
    · cases h
  · -- a store
    rename_i t x v hop hd
    split at h
    · rename_i gv av h1
      split at h
      · rename_i qs y S1 h2
        split at h
        · rename_i hfit
          simp only [Bool.and_eq_true] at hfit
          split at h
          · rename_i gx s ver p h3
            split at h
            · rename_i r hr
              split at h
              · rename_i i p' z rs r' h4 h5
                split at h
                · rename_i hsz
                  simp only [Bool.and_eq_true, Bool.or_eq_true] at hsz
                  have hst' : C.st = true → (z.isScalar && y.isScalar) = true := fun hh => by
                    rcases hsz.2 with h' | h'
                    · simpa using h'
                    · simp only [opSt, hh, hop, Bool.not_true, Bool.false_or, Bool.and_eq_true] at hst
                      rw [hst.2] at h'
                      cases h'
                  simp only [Option.some.injEq, Prod.mk.injEq] at h
                  obtain ⟨rfl, rfl⟩ := h
                  rw [alls_append, alls_append, alls_append] at hp
                  obtain ⟨⟨⟨p1, p2⟩, p3⟩, p4⟩ := hp
                  have o1 := opdS_sound hT hA h1 (geG_sound p1 rfl)
                  obtain ⟨q, σ1, t1, t2, t3⟩ := takeS_sound hA h2 p2
                  have o2 := opdS_sound hT t3 h3 (geG_sound p3 rfl)
                  obtain ⟨e1, e2⟩ := atR_sound h4 p4
                  rcases e2 with e2 | ⟨e2, _, _, e5⟩
                  · cases e2
                  have hu := updS_sound _ _ _ _ _ _ e5 p4 h5
                  subst hu
                  have hb : 0 < y.size := by have := Nat.le_of_ble_eq_true hfit.2; omega
                  have hc : (fits C.P t y && (z.size == y.size) && y.solid && decide (0 < y.size)) = true := by
                    simp [fitT_sound hT hfit.1.1, Nat.eq_of_beq_eq_true hsz.1, hfit.1.2, hb]
                  have hos := ownS_sound t3 hr
                  have hw : wstep C σ o = some (true = true ∧ q ∧ true = true ∧ r.okm (i :: p') ∧ (C.st = true → (z.isScalar && y.isScalar) = true), if z.isScalar && y.isScalar then σ1.mod s (r.upd (i :: p') y) else σ1.bmp s (r.upd (i :: p') y)) := by
                    simp only [vz] at o2
                    simp only [wstep, hgd, hop, hd, o1, t1, o2, hos, e1]
                    rw [if_pos hc]
                  refine .mk hw ⟨rfl, t2, rfl, e2, hst'⟩ ?_ (fun d' hd' => by rw [hd] at hd'; cases hd') hgd (fun _ => by simp [kO, kT, kLen, kScal, hop])
                  cases hsc : z.isScalar && y.isScalar with
                  | true => simpa using t3.mod hr
                  | false => simpa using t3.bmp hr
                · cases h
              · cases h
            · cases h
          · rename_i gx s ver p h3
            split at h
            · rename_i r hr
              split at h
              · rename_i e z rs r' h4 h5
                split at h
                · rename_i hsz
                  simp only [Bool.and_eq_true, Bool.or_eq_true] at hsz
                  have hst' : C.st = true → (z.isScalar && y.isScalar) = true := fun hh => by
                    rcases hsz.2 with h' | h'
                    · simpa using h'
                    · simp only [opSt, hh, hop, Bool.not_true, Bool.false_or, Bool.and_eq_true] at hst
                      rw [hst.2] at h'
                      cases h'
                  simp only [Option.some.injEq, Prod.mk.injEq] at h
                  obtain ⟨rfl, rfl⟩ := h
                  rw [alls_append, alls_append, alls_append] at hp
                  obtain ⟨⟨⟨p1, p2⟩, p3⟩, p4⟩ := hp
                  have o1 := opdS_sound hT hA h1 (geG_sound p1 rfl)
                  obtain ⟨q, σ1, t1, t2, t3⟩ := takeS_sound hA h2 p2
                  have o2 := opdS_sound hT t3 h3 (geG_sound p3 rfl)
                  obtain ⟨e1, e2⟩ := atR_sound h4 p4
                  have e3 : r.okr p := okr_of e2 (by rw [e1]; rfl)
                  have e4 : r.okm (p ++ [0]) := okm_box e1 e2
                  have hu := updS_sound _ _ _ _ _ _ (atR_app h4) p4 h5
                  subst hu
                  have hb : 0 < y.size := by have := Nat.le_of_ble_eq_true hfit.2; omega
                  have hc : (fits C.P t y && (z.size == y.size) && y.solid && decide (0 < y.size)) = true := by
                    simp [fitT_sound hT hfit.1.1, Nat.eq_of_beq_eq_true hsz.1, hfit.1.2, hb]
                  have hos := ownS_sound t3 hr
                  have hw : wstep C σ o = some (true = true ∧ q ∧ true = true ∧ r.okr p ∧ r.okm (p ++ [0]) ∧ (C.st = true → (z.isScalar && y.isScalar) = true), if z.isScalar && y.isScalar then σ1.mod s (r.upd (p ++ [0]) y) else σ1.bmp s (r.upd (p ++ [0]) y)) := by
                    simp only [vz] at o2
                    simp only [wstep, hgd, hop, hd, o1, t1, o2, hos, e1]
                    rw [if_pos hc]
                  refine .mk hw ⟨rfl, t2, rfl, e3, e4, hst'⟩ ?_ (fun d' hd' => by rw [hd] at hd'; cases hd') hgd (fun _ => by simp [kO, kT, kLen, kScal, hop])
                  cases hsc : z.isScalar && y.isScalar with
                  | true => simpa using t3.mod hr
                  | false => simpa using t3.bmp hr
                · cases h
              · cases h
            · cases h
          · cases h
        · cases h
      · cases h
    · cases h
  · -- append
    rename_i args ats d hop hd
    have hln : ∀ d, o.dst = some d → lop C σ true o = none := fun _ _ => by simp only [lop, hop]
    have hdn := hn d hd
    split at h
    · rename_i x y t t' hargs hats
      split at h
      · rename_i htt
        have := Nat.eq_of_beq_eq_true htt
        subst this
        split at h
        · rename_i e he
          split at h
          · rename_i gx ax h1
            split at h
            · rename_i qs e' dd es S1 h2
              split at h
              · rename_i gy ay h3
                split at h
                · rename_i oy ey d2 es2 rs h4
                  split at h
                  · rename_i hcc
                    simp only [Bool.and_eq_true] at hcc
                    obtain ⟨⟨hc1, hc2⟩, hc3⟩ := hcc
                    have := Nat.eq_of_beq_eq_true hc1
                    subst this
                    have := Nat.eq_of_beq_eq_true hc2
                    subst this
                    obtain ⟨te, hte⟩ : ∃ te, tget T e = some te := by
                      cases hh : tget T e with
                      | none => simp [tcells, hh] at hc3
                      | some te => exact ⟨te, rfl⟩
                    have hcz : 0 < C.P.cellsOf e := by have := tcells_ne hT hc3; omega
                    have hsc : scalP C.P e = scalT T e := by
                      have hg := hT.got hte
                      have i1 : intT C.P e = (wantT te).int := congrArg Got.int hg
                      have i2 : isStr C.P e = (wantT te).str := congrArg Got.str hg
                      have i3 : boolT C.P e = (wantT te).bool := congrArg Got.bool hg
                      unfold scalP scalT
                      rw [i1, i2, i3, hte]
                      obtain ⟨k, c, z⟩ := te
                      cases k <;> rfl
                    split at h
                    · rename_i hoy
                      simp only [Option.some.injEq, Prod.mk.injEq] at h
                      obtain ⟨rfl, rfl⟩ := h
                      simp only [alls_append, alls_cons] at hp
                      obtain ⟨⟨⟨⟨p1, p2⟩, p3⟩, p4⟩, p5, p6, p7, _⟩ := hp
                      have o1 := opdS_sound hT hA h1 (geG_sound p1 rfl)
                      obtain ⟨q, σ1, t1, t2, t3⟩ := takeS_sound hA h2 p2
                      have o2 := opdS_sound hT t3 h3 (geG_sound p3 rfl)
                      obtain ⟨l1, l2, l3⟩ := lookS_sound t3 h4 p4
                      have p5' : V.owneds es2 = false := p5
                      have p6' : (es.length : Int) + (es2.length : Int) ≤ 2147483647 := p6
                      have p7' : ∀ x ∈ es2, x.solid = true := p7
                      have hc : (decide (C.dst d) && e == e && e == e && !(vz σ1 ay).isAg && decide (C.P.bytesOf e ≤ 65536) && decide (0 < C.P.cellsOf e)) = true := by
                        simp [hdn, l3, hT.small hte, hcz]
                      have hw : wstep C σ o = some (true = true ∧ q ∧ true = true ∧ (vz σ1 ay).okA σ1 ∧ es.length + es2.length ≤ 2147483647 ∧ (∀ x ∈ es2, x.solid = true) ∧ V.owneds es2 = false ∧ C.st = false, σ1.put d true (.val (.slc true e dd (es ++ es2)))) := by
                        simp only [wstep, hgd, hop, hd, hargs, hats, if_true, hT.elem he, o1, t1, o2, hT.zero hte, l1]
                        rw [if_pos hc]
                        rw [hsc, hoy]
                        simp
                      have hap : C.st = false := by
                        cases hh : C.st with
                        | false => rfl
                        | true => simp [opSt, hh, hop] at hst
                      exact .mk hw ⟨rfl, t2, rfl, l2, by omega, p7', p5', hap⟩ (t3.put (g := none) rfl (fun _ => rfl)) hln hgd (fun h => by rw [hd] at h; cases h)
                    · rename_i hoy
                      split at h
                      · rename_i rs' e3 d3 es3 S2 h5
                        simp only [Option.some.injEq, Prod.mk.injEq] at h
                        obtain ⟨rfl, rfl⟩ := h
                        simp only [alls_append, alls_cons] at hp
                        obtain ⟨⟨⟨⟨⟨p1, p2⟩, p3⟩, p4⟩, p5⟩, p6, p7, _⟩ := hp
                        have o1 := opdS_sound hT hA h1 (geG_sound p1 rfl)
                        obtain ⟨q, σ1, t1, t2, t3⟩ := takeS_sound hA h2 p2
                        have o2 := opdS_sound hT t3 h3 (geG_sound p3 rfl)
                        obtain ⟨l1, l2, l3⟩ := lookS_sound t3 h4 p4
                        obtain ⟨q2, σ2, u1, u2, u3⟩ := takeS_sound t3 h5 p5
                        have p6' : (es.length : Int) + (es3.length : Int) ≤ 2147483647 := p6
                        have p7' : ∀ x ∈ es3, x.solid = true := p7
                        have hc : (decide (C.dst d) && e == e && e == e && !(vz σ1 ay).isAg && decide (C.P.bytesOf e ≤ 65536) && decide (0 < C.P.cellsOf e)) = true := by
                          simp [hdn, l3, hT.small hte, hcz]
                        have hw : wstep C σ o = some (true = true ∧ q ∧ true = true ∧ q2 ∧ es.length + es3.length ≤ 2147483647 ∧ (∀ x ∈ es3, x.solid = true) ∧ C.st = false, σ2.put d true (.val (.slc true e dd (es ++ es3)))) := by
                          simp only [wstep, hgd, hop, hd, hargs, hats, if_true, hT.elem he, o1, t1, o2, hT.zero hte, l1]
                          rw [if_pos hc]
                          rw [hsc, hoy, if_pos rfl, u1]
                        have hap : C.st = false := by
                          cases hh : C.st with
                          | false => rfl
                          | true => simp [opSt, hh, hop] at hst
                        exact .mk hw ⟨rfl, t2, rfl, u2, by omega, p7', hap⟩ (u3.put (g := none) rfl (fun _ => rfl)) hln hgd (fun h => by rw [hd] at h; cases h)
                      · cases h
                  · cases h
                · cases h
              · cases h
            · cases h
          · cases h
        · cases h
      · cases h
    · cases h
  · cases h
end
end Go.Ax
