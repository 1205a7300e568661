/-
  AX, part P: steps that write: assignment that moves, store, append.
-/
import Derived.Test.YtlibillidihopaaAxO
namespace Go.Ax
open Go.RowKit

def V.isScalar : V → Bool
  | .int _ _ => true
  | .bool _ => true
  | .str _ => true
  | _ => false

-- a struct copy's own parts are taken
mutual
def takeP (s ver : Nat) : V → List Nat → Env → Option (Prop × V × Env)
  | .agg fs, p, σ => match takePs s ver fs p 0 σ with
    | some (q, vs, σ') => some (q, .agg vs, σ')
    | none => none
  | .slc true _ _ _, p, σ => match σ.own s ver with
    | some r => some (r.okm p ∧ (r.at p).isH = true, r.at p, σ.mod s (r.upd p (.hole 1)))
    | none => none
  | .box _ _, p, σ => match σ.own s ver with
    | some r => some (r.okm p ∧ (r.at p).isH = true, r.at p, σ.mod s (r.upd p (.hole 1)))
    | none => none
  | x, _, σ => if x.owned then none else some (True, x, σ)
def takePs (s ver : Nat) : List V → List Nat → Nat → Env → Option (Prop × List V × Env)
  | [], _, _, σ => some (True, [], σ)
  | y :: ys, p, i, σ => match takeP s ver y (p ++ [i]) σ with
    | some (q, v, σ') => match takePs s ver ys p (i + 1) σ' with
      | some (q', vs, σ'') => some (q ∧ q', v :: vs, σ'')
      | none => none
    | none => none
end

/-- what an operand holds, taken out of where it is -/
def takeA (σ : Env) : A → Option (Prop × V × Env)
  | .val x => some (True, x, σ)
  | .rf s ver p => match σ.own s ver with
    | some r => match p with
      | [] => some (True, r, σ.drp s)
      | i :: p' => match r with
        | .tup fs => match p' with
          | [] => some (i < fs.length, fs.getD i (.hole 0), σ.mod s (.tup (fs.set i (.hole (fs.getD i (.hole 0)).size))))
          | _ => none
        | _ => some (r.okm (i :: p') ∧ (r.at (i :: p')).isH = true, r.at (i :: p'), σ.mod s (r.upd (i :: p') (.hole 1)))
    | none => none
  | .ag s ver p fs => takeP s ver (.agg fs) p σ
  | _ => none

section
variable {C : Ctx} {F : Nat → Prop} {O : Nat → Nat → Prop} {Z : Nat → Prop} {σ σ' : Env} {a : Act} {w w' : World}

/-- a piece in the air: it reads as x, its blocks are reserved -/
structure Taken (C : Ctx) (F : Nat → Prop) (Z : Nat → Prop) (σ σ' : Env) (a : Act) (w : World) (x : V) (cs : List Value) (On : Nat → Prop) : Prop where
  rep : Rep C.cz w F x cs On
  new : ∀ b, On b → ¬ Z b
  inv : ∃ O', Inv C F O' (fun b => Z b ∨ On b) σ' a w
  hold : ∀ A v, Holds C.cz w F σ a.tmps A v → Holds C.cz w F σ' a.tmps A v

theorem Inv.take_holds (h : Inv C F O Z σ a w) {s : Nat} {p : List Nat} {x : V} {n : Nat} (hg : (σ s).g = true) (hx : (σ s).a = .val x) (hok : x.okp p) (hp : p ≠ []) (hna : ∀ fs, x ≠ .agg fs) (hn : n = (x.at p).size) :
    ∀ A v, Holds C.cz w F σ a.tmps A v → Holds C.cz w F (σ.mod s (x.upd p (.hole n))) a.tmps A v := by
  intro A v hh
  refine hh.pres (fun s' ver _ => ?_) (fun _ h => h) (fun _ _ => rfl)
  intro x' hx'
  by_cases hs : s' = s
  · subst hs
    rw [Env.own_mod_eq] at hx'
    split at hx'
    · rename_i hv
      split at hx'
      case isFalse => cases hx'
      simp only [Option.some.injEq] at hx'
      subst hx'
      have hxo : x.owned = true := by
        cases p with
        | nil => exact absurd rfl hp
        | cons i p => cases x <;> first | rfl | exact hok.1.elim | exact hok.1.1 | exact absurd rfl (hna _)
      refine ⟨x, Env.own_iff'.2 ⟨hg, hv.2, hx, hxo⟩, fun q u hq hu => ?_, fun q r hq hr => ?_⟩
      · exact hdrV_upd C.cz w (y := .hole n) (fun _ h => h) rfl hn hok hp hq hu
      · rw [locV_upd C.cz w (y := .hole n) (fun _ h => h) rfl hn hok hp hq] at hr
        exact ⟨okp_upd (y := .hole n) (fun _ h => h) rfl hn hok hq, hr⟩
    · cases hx'
  · rw [Env.own_mod_ne hs] at hx'
    exact ⟨x', hx', fun _ _ h1 h2 => ⟨h1, h2⟩, fun _ _ h1 h2 => ⟨h1, h2⟩⟩

/-- a header's part is taken -/
theorem take_hdr (hI : Inv C F O Z σ a w) {s ver : Nat} {p : List Nat} {v : Value} {r : V} (hop : Holds C.cz w F σ a.tmps (.rf s ver p) v) (ho : σ.own s ver = some r) (hm : r.okm p) (hH : (r.at p).isH = true) :
    ∃ On, (r.at p).reg [v] v ∧ Taken C F Z σ (σ.mod s (r.upd p (.hole 1))) a w (r.at p) [v] On := by
  obtain ⟨hp, hna, hok⟩ := V.okm_okp hm
  obtain ⟨hg, _, ha⟩ := Env.own_elim ho
  obtain ⟨b, o, cy, Oy, g1, g2, g3, g4, g5, g6, g7⟩ := hI.take hg ha hok hp hna
  obtain ⟨u, rfl, _⟩ := isHdr_of_isH g3 hH
  have hc := g2 0 u rfl
  simp only [Nat.add_zero] at hc
  have hvu : v = u := hop r u ho (V.okv_of_okp hok) (by rw [hdrV_okm hm, if_pos hH, g1]; exact hc)
  subst hvu
  have hsz : (r.at p).size = 1 := by rw [← g3.length]; rfl
  rw [hsz] at g7
  refine ⟨Oy, ?_, g3, fun z hz hz' => hI.oz s z (g6 z hz) hz', ⟨_, g7⟩, hI.take_holds hg ha hok hp hna hsz.symm⟩
  revert hH
  cases r.at p <;> simp [V.isH, V.reg]

theorem Taken.trans {Z1 : Nat → Prop} {σ'' : Env} {x y : V} {cs ds : List Value} {On Om : Nat → Prop} (h1 : Taken C F Z σ σ' a w x cs On) (h2 : Taken C F Z1 σ' σ'' a w y ds Om) (hz : ∀ b, Z1 b ↔ Z b ∨ On b) :
    (∀ b, On b → ¬ Om b) ∧ (∀ A v, Holds C.cz w F σ a.tmps A v → Holds C.cz w F σ'' a.tmps A v) :=
  ⟨fun b hb hb' => h2.new b hb' ((hz b).2 (.inr hb)), fun A v h => h2.hold A v (h1.hold A v h)⟩

theorem takeP_plain {s ver : Nat} {x : V} {p : List Nat} {σ σ' : Env} {O : Nat → Nat → Prop} {Z : Nat → Prop} {c : List Value} {q : Prop} {y : V} (hx : x.owned = false) (hna : ∀ fs, x ≠ .agg fs) (hI : Inv C F O Z σ a w)
    (hcp : Cp (fun q h => ∀ r h', σ.own s ver = some r → r.okv q → hdrV C.cz w q r (a.tmps.getD s undef) = some h' → h' = h) (fun y c => Rep C.cz w F y c (fun _ => False)) x p c)
    (ht : True = q ∧ x = y ∧ σ = σ') : ∃ On, Taken C F Z σ σ' a w y c On ∧ y.size = x.size := by
  obtain ⟨_, rfl, rfl⟩ := ht
  have hr : Rep C.cz w F x c (fun _ => False) := by
    cases hcp with
    | val _ _ _ _ h _ => exact h
    | hd _ _ h hh => exfalso; revert hx hh; cases x <;> simp [V.isH, V.owned]
    | agg fs => exact absurd rfl (hna fs)
  exact ⟨fun _ => False, ⟨hr, fun _ h => h.elim, ⟨O, hI.lessZ (fun b hb => hb.resolve_right id)⟩, fun _ _ h => h⟩, rfl⟩

-- a struct's copy is taken
mutual
theorem takeP_sound {s ver : Nat} : ∀ (x : V) (p : List Nat) (σ σ' : Env) (O : Nat → Nat → Prop) (Z : Nat → Prop) (c : List Value) (q : Prop) (y : V), Inv C F O Z σ a w →
    Cp (fun q h => ∀ r h', σ.own s ver = some r → r.okv q → hdrV C.cz w q r (a.tmps.getD s undef) = some h' → h' = h) (fun y c => Rep C.cz w F y c (fun _ => False)) x p c →
    takeP s ver x p σ = some (q, y, σ') → q → ∃ On, Taken C F Z σ σ' a w y c On ∧ y.size = x.size
  | .agg fs, p, σ, σ', O, Z, c, q, y, hI, hcp, ht, hq => by
    simp only [takeP] at ht
    split at ht
    · rename_i q' vs σ1 h1
      simp only [Option.some.injEq, Prod.mk.injEq] at ht
      obtain ⟨rfl, rfl, rfl⟩ := ht
      have hcps : c.length = V.sizes fs ∧ ∀ (i : Nat) (z : V), fs[i]? = some z → Cp (fun q h => ∀ r h', σ.own s ver = some r → r.okv q → hdrV C.cz w q r (a.tmps.getD s undef) = some h' → h' = h) (fun y c => Rep C.cz w F y c (fun _ => False)) z (p ++ [0 + i]) ((c.drop (V.offs fs i)).take z.size) := by
        cases hcp with
        | val _ _ _ hx hr hl =>
          refine ⟨hl, fun i z hz => ?_⟩
          cases hr with
          | agg fs cs Os O' hn hOs hdis hr =>
            simp only [V.owned, V.owneds_eq, List.any_eq_false] at hx
            refine .val _ _ _ (by simpa using hx z (List.mem_of_getElem? hz)) ((hr i z hz).mono (fun _ h => h) (fun b hb => hOs i b hb)) ?_
            exact (hr i z hz).length
        | hd _ _ _ hx => simp [V.isH] at hx
        | agg _ _ _ hn h => exact ⟨hn, fun i z hz => by rw [Nat.zero_add]; exact h i z hz⟩
      obtain ⟨On, e1, e2⟩ := takePs_sound fs p 0 σ σ1 O Z c q' vs hI hcps.1 hcps.2 h1 hq
      exact ⟨On, e1, e2⟩
    · cases ht
  | .slc true e d es, p, σ, σ', O, Z, c, q, y, hI, hcp, ht, hq => by
    simp only [takeP] at ht
    split at ht
    · rename_i r hr
      simp only [Option.some.injEq, Prod.mk.injEq] at ht
      obtain ⟨rfl, rfl, rfl⟩ := ht
      cases hcp with
      | val _ _ _ hx => simp [V.owned] at hx
      | hd _ _ h hx hp =>
        obtain ⟨On, _, e2⟩ := take_hdr hI (v := h) (fun r' h' hr' hv hh => (hp r' h' hr' hv hh).symm) hr hq.1 hq.2
        exact ⟨On, e2, by rw [← e2.rep.length]; rfl⟩
    · cases ht
  | .box e z, p, σ, σ', O, Z, c, q, y, hI, hcp, ht, hq => by
    simp only [takeP] at ht
    split at ht
    · rename_i r hr
      simp only [Option.some.injEq, Prod.mk.injEq] at ht
      obtain ⟨rfl, rfl, rfl⟩ := ht
      cases hcp with
      | val _ _ _ hx => simp [V.owned] at hx
      | hd _ _ h hx hp =>
        obtain ⟨On, _, e2⟩ := take_hdr hI (v := h) (fun r' h' hr' hv hh => (hp r' h' hr' hv hh).symm) hr hq.1 hq.2
        exact ⟨On, e2, by rw [← e2.rep.length]; rfl⟩
    · cases ht
  | .slc false e d es, p, σ, σ', O, Z, c, q, y, hI, hcp, ht, hq => takeP_plain rfl (by simp) hI hcp (by simpa [takeP, V.owned] using ht)
  | .int k n, p, σ, σ', O, Z, c, q, y, hI, hcp, ht, hq => takeP_plain rfl (by simp) hI hcp (by simpa [takeP, V.owned] using ht)
  | .bool b, p, σ, σ', O, Z, c, q, y, hI, hcp, ht, hq => takeP_plain rfl (by simp) hI hcp (by simpa [takeP, V.owned] using ht)
  | .str b, p, σ, σ', O, Z, c, q, y, hI, hcp, ht, hq => takeP_plain rfl (by simp) hI hcp (by simpa [takeP, V.owned] using ht)
  | .fn f b, p, σ, σ', O, Z, c, q, y, hI, hcp, ht, hq => takeP_plain rfl (by simp) hI hcp (by simpa [takeP, V.owned] using ht)
  | .hole n, p, σ, σ', O, Z, c, q, y, hI, hcp, ht, hq => takeP_plain rfl (by simp) hI hcp (by simpa [takeP, V.owned] using ht)
  | .tup fs, p, σ, σ', O, Z, c, q, y, hI, hcp, ht, hq => by
    simp only [takeP] at ht
    split at ht
    · cases ht
    · rename_i hx
      exact takeP_plain (by simpa using hx) (by simp) hI hcp (by simpa using ht)
theorem takePs_sound {s ver : Nat} : ∀ (fs : List V) (p : List Nat) (i : Nat) (σ σ' : Env) (O : Nat → Nat → Prop) (Z : Nat → Prop) (c : List Value) (q : Prop) (vs : List V), Inv C F O Z σ a w → c.length = V.sizes fs →
    (∀ (k : Nat) (z : V), fs[k]? = some z → Cp (fun q h => ∀ r h', σ.own s ver = some r → r.okv q → hdrV C.cz w q r (a.tmps.getD s undef) = some h' → h' = h) (fun y c => Rep C.cz w F y c (fun _ => False)) z (p ++ [i + k]) ((c.drop (V.offs fs k)).take z.size)) →
    takePs s ver fs p i σ = some (q, vs, σ') → q → ∃ On, Taken C F Z σ σ' a w (.agg vs) c On ∧ (V.agg vs).size = V.sizes fs
  | [], p, i, σ, σ', O, Z, c, q, vs, hI, hl, hcp, ht, hq => by
    simp only [takePs, Option.some.injEq, Prod.mk.injEq] at ht
    obtain ⟨_, rfl, rfl⟩ := ht
    exact ⟨fun _ => False, ⟨.agg [] c (fun _ _ => False) _ hl (fun _ _ h => h) (fun _ _ _ _ h => h.elim) (fun i x hx => by simp at hx), fun _ h => h.elim, ⟨O, hI.lessZ (fun b hb => hb.resolve_right id)⟩, fun _ _ h => h⟩, rfl⟩
  | x :: xs, p, i, σ, σ', O, Z, c, q, vs, hI, hl, hcp, ht, hq => by
    simp only [takePs] at ht
    split at ht
    · rename_i q1 y σ1 h1
      split at ht
      · rename_i q2 ys σ2 h2
        simp only [Option.some.injEq, Prod.mk.injEq] at ht
        obtain ⟨rfl, rfl, rfl⟩ := ht
        have hc0 := hcp 0 x rfl
        simp only [V.offs, List.take_zero, V.sizes, List.drop_zero, Nat.add_zero] at hc0
        obtain ⟨On, e1, e2⟩ := takeP_sound x (p ++ [i]) σ σ1 O Z (c.take x.size) q1 y hI hc0 h1 hq.1
        obtain ⟨O1, hI1⟩ := e1.inv
        have hl' : (c.drop x.size).length = V.sizes xs := by simp only [List.length_drop, hl, V.sizes]; omega
        obtain ⟨Om, f1, f2⟩ := takePs_sound xs p (i + 1) σ1 σ2 O1 (fun b => Z b ∨ On b) (c.drop x.size) q2 ys hI1 hl' (fun k z hz => by
          have := hcp (k + 1) z (by simpa using hz)
          have e : V.offs (x :: xs) (k + 1) = x.size + V.offs xs k := by simp [V.offs, V.sizes]
          rw [e, ← List.drop_drop, show i + (k + 1) = i + 1 + k from by omega] at this
          refine this.mono (fun q' h hh => ?_) (fun _ _ h => h)
          have := e1.hold (.rf s ver q') h (fun r' h' hr' hv hh' => (hh r' h' hr' hv hh').symm)
          exact fun r' h' hr' hv hh' => (this r' h' hr' hv hh').symm) h2 hq.2
        obtain ⟨t1, t2⟩ := e1.trans f1 (fun b => Iff.rfl)
        refine ⟨fun b => On b ∨ Om b, ⟨?_, fun b hb => hb.elim (e1.new b) (fun hb hz => f1.new b hb (.inl hz)), ?_, t2⟩, ?_⟩
        · have hrs := f1.rep
          cases hrs with
          | agg _ _ Os _ hn hOs hdis hr =>
            have hys : y.size = x.size := e2
            have hyl : (c.take x.size).length = x.size := by rw [e1.rep.length, hys]
            refine .agg _ c (fun k b => if k = 0 then On b else Os (k - 1) b) _ (by simp only [V.sizes, hys]; have : V.sizes ys = V.sizes xs := f2; rw [this]; simpa [V.sizes] using hl) (fun k b hb => ?_) (fun j k b hjk hb => ?_) (fun k z hz => ?_)
            · split at hb
              · exact .inl hb
              · exact .inr (hOs _ b hb)
            · split at hb
              · rename_i hj
                rw [if_neg (by omega)]
                exact fun hb' => t1 b hb (hOs _ b hb')
              · rename_i hj
                split
                · exact fun hb' => t1 b hb' (hOs _ b hb)
                · exact hdis _ _ b (by omega) hb
            · cases k with
              | zero =>
                simp at hz
                subst hz
                simp only [V.offs, List.take_zero, V.sizes, List.drop_zero, if_true, hys]
                exact e1.rep
              | succ k =>
                simp at hz
                have e : V.offs (y :: ys) (k + 1) = x.size + V.offs ys k := by simp [V.offs, V.sizes, hys]
                rw [e, ← List.drop_drop]
                simpa using hr k z hz
        · obtain ⟨O2, hI2⟩ := f1.inv
          exact ⟨O2, hI2.lessZ (fun b hb => hb.elim (fun hb => .inl (.inl hb)) (fun hb => hb.elim (fun hb => .inl (.inr hb)) .inr))⟩
        · show V.sizes (y :: ys) = _
          simp only [V.sizes, e2]
          have : V.sizes ys = V.sizes xs := f2
          rw [this]
      · cases ht
    · cases ht
end
end
end Go.Ax
