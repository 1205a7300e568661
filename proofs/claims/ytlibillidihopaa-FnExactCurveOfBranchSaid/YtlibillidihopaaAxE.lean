/-
  AX, part E: to take a part of a slot's value, and to put one.
-/
import Derived.Test.YtlibillidihopaaAxD
namespace Go.Ax

section
variable {cz : TypeId → Nat} {w w' : World} {F : Nat → Prop}

theorem V.isH_setKid (x : V) (i : Nat) (y : V) : (x.setKid i y).isH = x.isH := by cases x <;> rfl

theorem V.kid_setKid {x : V} {i j : Nat} {y : V} (hj : x.hasKid j) (hi : (x.setKid j y).hasKid i) :
    x.hasKid i ∧ (((x.setKid j y).kid i = y ∧ x.kid i = x.kid j ∧ (i = j ∨ ∃ e c, x = .box e c)) ∨ (i ≠ j ∧ (x.setKid j y).kid i = x.kid i)) := by
  cases x with
  | slc o e d es =>
    simp only [V.hasKid, V.setKid, List.length_set] at *
    refine ⟨hi, ?_⟩
    by_cases h : i = j
    · subst h; left; simp [V.kid, hj.2]
    · right; refine ⟨h, ?_⟩; simp [V.kid, List.getElem?_set_ne (Ne.symm h)]
  | agg fs =>
    simp only [V.hasKid, V.setKid, List.length_set] at *
    refine ⟨hi, ?_⟩
    by_cases h : i = j
    · subst h; left; simp [V.kid, hj]
    · right; refine ⟨h, ?_⟩; simp [V.kid, List.getElem?_set_ne (Ne.symm h)]
  | box e c => exact ⟨trivial, .inl ⟨rfl, rfl, .inr ⟨e, c, rfl⟩⟩⟩
  | _ => exact hj.elim

theorem upd_struct (cz : TypeId → Nat) (w : World) {y : V} (hy : ∀ i, ¬ y.hasKid i) (hh : y.isH = false) : ∀ (q : List Nat) (x : V) (p : List Nat) (b o : Nat), y.size = (x.at q).size → x.okp q → (x.upd q y).okp p →
    x.okp p ∧ locM cz w p (x.upd q y) b o = locM cz w p x b o ∧ (((x.upd q y).at p).isH = true → (x.at p).isH = true)
  | [], x, p, b, o, _, _, hp => by
    cases p with
    | nil => exact ⟨trivial, rfl, fun h => by simp [V.upd, V.at, hh] at h⟩
    | cons i p => exact absurd hp.1 (hy i)
  | j :: q, x, p, b, o, hs, hq, hp => by
    cases p with
    | nil => exact ⟨trivial, rfl, fun h => by simp only [V.upd, V.at] at h ⊢; rwa [V.isH_setKid] at h⟩
    | cons i p =>
      simp only [V.upd] at hp ⊢
      obtain ⟨hi1, hi2⟩ := hp
      obtain ⟨hxi, hk⟩ := V.kid_setKid hq.1 hi1
      rcases hk with ⟨hk1, hk2, hij⟩ | ⟨hij, hk1⟩
      · rw [hk1] at hi2
        have ih := fun b o => upd_struct cz w hy hh q (x.kid j) p b o hs hq.2 hi2
        refine ⟨⟨hxi, by rw [hk2]; exact (ih 0 0).1⟩, ?_, ?_⟩
        · cases x with
          | slc o' e d es =>
            rcases hij with rfl | ⟨_, _, h⟩
            · simp only [V.setKid, locM]
              have e1 : (es.set i ((V.slc o' e d es).kid i |>.upd q y)).getD i d = ((V.slc o' e d es).kid i).upd q y := hk1
              rw [e1]
              split
              · exact (ih _ _).2.1
              · rfl
            · cases h
          | agg fs =>
            rcases hij with rfl | ⟨_, _, h⟩
            · simp only [V.setKid, locM]
              have e1 : (fs.set i ((V.agg fs).kid i |>.upd q y)).getD i (.hole 0) = ((V.agg fs).kid i).upd q y := hk1
              have hlt : i < fs.length := hq.1
              have e2 : V.offs (fs.set i ((V.agg fs).kid i |>.upd q y)) i = V.offs fs i := V.offs_set i (some_of_lt (.hole 0) hlt) (V.size_upd q _ y hq.2 hs)
              rw [e1, e2]
              exact (ih _ _).2.1
            · cases h
          | box e c =>
            simp only [V.setKid, locM]
            split
            · exact (ih _ _).2.1
            · rfl
          | _ => exact hq.1.elim
        · simp only [V.at]
          rw [hk1, hk2]
          exact (ih 0 0).2.2
      · rw [hk1] at hi2
        refine ⟨⟨hxi, hi2⟩, ?_, ?_⟩
        · cases x with
          | slc o' e d es =>
            simp only [V.setKid, locM]
            have e1 : (es.set j ((V.slc o' e d es).kid j |>.upd q y)).getD i d = es.getD i d := hk1
            rw [e1]
          | agg fs =>
            simp only [V.setKid, locM]
            have e1 : (fs.set j ((V.agg fs).kid j |>.upd q y)).getD i (.hole 0) = fs.getD i (.hole 0) := hk1
            have hlt : j < fs.length := hq.1
            have e2 : V.offs (fs.set j ((V.agg fs).kid j |>.upd q y)) i = V.offs fs i := V.offs_set i (some_of_lt (.hole 0) hlt) (V.size_upd q _ y hq.2 hs)
            rw [e1, e2]
          | box e c => 
            simp only [V.setKid, locM]
            have e1 : (c.upd q y) = c := hk1
            rw [show ((V.box e c).kid j).upd q y = c from e1]
          | _ => exact hq.1.elim
        · simp only [V.at]
          rw [hk1]
          exact id

theorem locV_upd (cz : TypeId → Nat) (w : World) {y : V} (hy : ∀ i, ¬ y.hasKid i) (hh : y.isH = false) {q : List Nat} {x : V} {p : List Nat} {v : Value} (hs : y.size = (x.at q).size) (hq : x.okp q) (hq0 : q ≠ [])
    (hp : (x.upd q y).okp p) : locV cz w p (x.upd q y) v = locV cz w p x v := by
  cases q with
  | nil => exact absurd rfl hq0
  | cons j q =>
    cases p with
    | nil => simp [locV]
    | cons i p =>
      simp only [V.upd] at hp ⊢
      obtain ⟨hi1, hi2⟩ := hp
      obtain ⟨hxi, hk⟩ := V.kid_setKid hq.1 hi1
      rcases hk with ⟨hk1, hk2, hij⟩ | ⟨hij, hk1⟩
      · rw [hk1] at hi2
        have ih := fun b o => upd_struct cz w hy hh q (x.kid j) p b o hs hq.2 hi2
        cases x with
        | slc o' e d es =>
          rcases hij with rfl | ⟨_, _, h⟩
          · have e1 : (es.set i ((V.slc o' e d es).kid i |>.upd q y)).getD i d = ((V.slc o' e d es).kid i).upd q y := hk1
            cases v with
            | slice ad l c =>
              cases ad with
              | none => simp [locV, V.setKid]
              | some ad => simp only [V.setKid, locV]; rw [e1]; exact (ih _ _).2.1
            | _ => simp [locV, V.setKid]
          · cases h
        | agg fs => simp [locV, V.setKid]
        | box e c =>
          cases v with
          | pointer ad =>
            cases ad with
            | none => simp [locV, V.setKid]
            | some ad => simp only [V.setKid, locV]; exact (ih _ _).2.1
          | _ => simp [locV, V.setKid]
        | _ => exact hq.1.elim
      · cases x with
        | slc o' e d es =>
          have e1 : (es.set j ((V.slc o' e d es).kid j |>.upd q y)).getD i d = es.getD i d := hk1
          cases v with
          | slice ad l c =>
            cases ad with
            | none => simp [locV, V.setKid]
            | some ad => simp only [V.setKid, locV]; rw [e1]
          | _ => simp [locV, V.setKid]
        | agg fs => simp [locV, V.setKid]
        | box e c =>
          have e1 : ((V.box e c).kid j).upd q y = c := hk1
          simp only [V.setKid]
          rw [e1]
        | _ => exact hq.1.elim

theorem okp_upd {y : V} (hy : ∀ i, ¬ y.hasKid i) (hh : y.isH = false) {q : List Nat} {x : V} {p : List Nat} (hs : y.size = (x.at q).size) (hq : x.okp q) (hp : (x.upd q y).okp p) : x.okp p :=
  (upd_struct (fun _ => 0) default hy hh q x p 0 0 hs hq hp).1

theorem not_tup_of_okp {x : V} {q : List Nat} (hq : x.okp q) (hq0 : q ≠ []) : ∀ fs, x ≠ .tup fs := by
  rintro fs rfl
  cases q with
  | nil => exact hq0 rfl
  | cons i q => exact hq.1

theorem V.upd_not_tup {x y : V} {q : List Nat} (hq : x.okp q) (hq0 : q ≠ []) : ∀ fs, x.upd q y ≠ .tup fs := by
  intro fs h
  cases q with
  | nil => exact hq0 rfl
  | cons i q => cases x <;> simp [V.upd, V.setKid] at h; exact hq.1

theorem hdrV_upd (cz : TypeId → Nat) (w : World) {y : V} (hy : ∀ i, ¬ y.hasKid i) (hh : y.isH = false) {q : List Nat} {x : V} {p : List Nat} {v h : Value} (hs : y.size = (x.at q).size) (hq : x.okp q) (hq0 : q ≠ [])
    (hp : (x.upd q y).okv p) (he : hdrV cz w p (x.upd q y) v = some h) : x.okv p ∧ hdrV cz w p x v = some h := by
  have hnt := not_tup_of_okp hq hq0
  have hp' := V.okv_of_ne hp (V.upd_not_tup hq hq0)
  refine ⟨V.okv_of_okp (okp_upd hy hh hs hq hp'), ?_⟩
  cases p with
  | nil => exact he
  | cons i p =>
    have e1 : ∀ (x : V), (∀ fs, x ≠ .tup fs) → hdrV cz w (i :: p) x v = if (x.at (i :: p)).isH then (locV cz w (i :: p) x v).bind fun a => w.cell? ⟨a.1, a.2, none⟩ else none := by
      intro x hx
      cases p with
      | nil => cases x <;> first | rfl | exact absurd rfl (hx _)
      | cons j p => rfl
    rw [e1 _ (V.upd_not_tup hq hq0)] at he
    rw [e1 _ hnt]
    split at he
    · rename_i hH
      have := (upd_struct cz w hy hh q x (i :: p) 0 0 hs hq hp').2.2 hH
      rw [if_pos this, ← locV_upd cz w hy hh hs hq hq0 hp']
      exact he
    · cases he
end

namespace Inv
variable {C : Ctx} {F : Nat → Prop} {O : Nat → Nat → Prop} {Z : Nat → Prop} {σ : Env} {a : Act} {w w' : World}

/-- A part of slot s is taken out: its blocks go to Z. -/
theorem take (h : Inv C F O Z σ a w) {s : Nat} {p : List Nat} {x : V} (hg : (σ s).g = true) (hx : (σ s).a = .val x) (hok : x.okp p) (hp : p ≠ []) (hna : ∀ fs, x ≠ .agg fs) :
    ∃ b o cy Oy, locV C.cz w p x (a.tmps.getD s undef) = some (b, o) ∧ Cells w b o cy ∧ Rep C.cz w F (x.at p) cy Oy ∧ O s b ∧ ¬ Oy b ∧ (∀ z, Oy z → O s z) ∧
      Inv C F (fun t => if t = s then fun z => O s z ∧ ¬ Oy z else O t) (fun z => Z z ∨ Oy z) (σ.mod s (x.upd p (.hole (x.at p).size))) a w := by
  obtain ⟨h1, h2, _⟩ := h.slot s hg
  obtain ⟨cs, hreg, hrep⟩ := h2 x hx
  obtain ⟨b, o, cy, Oy, g1, g2, g3, g4, g5, g6, g7⟩ := hrep.takeV hreg hok hp hna
  obtain ⟨g8, g9⟩ := g7 _ rfl
  refine ⟨b, o, cy, Oy, g1, g2, g3, g5, g6, g4, ?_⟩
  have hpr : ∀ s' ver, Pres C.cz w w σ (σ.mod s (x.upd p (.hole (x.at p).size))) a.tmps a.tmps s' ver := by
    intro s' ver x' hx'
    by_cases hs : s' = s
    · subst hs
      rw [Env.own_mod_eq] at hx'
      split at hx'
      · rename_i hv
        split at hx'
        case isFalse => cases hx'
        simp only [Option.some.injEq] at hx'
        subst hx'
        have hxo : x.owned = true := by
          cases p with
          | nil => exact absurd rfl hp
          | cons i p => cases x <;> first | rfl | exact hok.1.elim | exact hok.1.1 | exact absurd rfl (hna _)
        refine ⟨x, Env.own_iff'.2 ⟨hg, hv.2, hx, hxo⟩, fun q u hq hu => ?_, fun q r hq hr => ?_⟩
        · exact hdrV_upd C.cz w (y := .hole (x.at p).size) (fun _ h => h) rfl rfl hok hp hq hu
        · rw [locV_upd C.cz w (y := .hole (x.at p).size) (fun _ h => h) rfl rfl hok hp hq] at hr
          exact ⟨okp_upd (y := .hole (x.at p).size) (fun _ h => h) rfl rfl hok hq, hr⟩
      · cases hx'
    · rw [Env.own_mod_ne hs] at hx'
      exact ⟨x', hx', fun _ _ h1 h2 => ⟨h1, h2⟩, fun _ _ h1 h2 => ⟨h1, h2⟩⟩
  refine ⟨fun t hgt => ?_, fun t t' b hst hb => ?_, fun t b hb => ?_, fun t b hb hz => ?_, fun b hz => ?_, fun t b hb => ?_, fun b hz => ?_, h.flt, fun t b hb => ?_, fun b hz => ?_,
    h.f0, h.ffr, h.old, h.size, h.os, h.tape, h.output, h.defers, fun t s' ver hr => ?_, fun t hgt hut => ?_, h.ts, h.kp, h.hx⟩
  · by_cases hts : t = s
    · subst hts
      refine ⟨h1, fun y hy => ?_, fun hn => ?_⟩
      · simp only [Env.mod, if_true, A.val.injEq] at hy
        subst hy
        simp only [if_true]
        exact ⟨cs, g9, g8⟩
      · simp [Env.mod] at hn
    · simp only [Env.mod, hts, if_false] at hgt ⊢
      obtain ⟨e1, e2, e3⟩ := h.slot t hgt
      exact ⟨e1, e2, fun hn => (e3 hn).pres (fun s' ver _ => hpr s' ver) (fun _ h => h) (fun _ _ => rfl)⟩
  · split at hb
    · rename_i hts; subst hts
      rw [if_neg (Ne.symm hst)]
      exact h.oo _ _ b hst hb.1
    · split
      · rename_i _ hts'; subst hts'
        exact fun hz => h.oo _ _ b hst hb hz.1
      · exact h.oo _ _ b hst hb
  · split at hb
    · exact h.of _ b hb.1
    · exact h.of _ b hb
  · split at hb
    · exact hz.elim (h.oz _ b hb.1) (fun hz => hb.2 hz)
    · rename_i hts
      exact hz.elim (h.oz _ b hb) (fun hz => h.oo _ _ b hts hb (g4 b hz))
  · exact hz.elim (h.zf b) (fun hz => h.of s b (g4 b hz))
  · split at hb
    · exact h.olt _ b hb.1
    · exact h.olt _ b hb
  · exact hz.elim (h.zlt b) (fun hz => h.olt s b (g4 b hz))
  · split at hb
    · exact h.ofr _ b hb.1
    · exact h.ofr _ b hb
  · exact hz.elim (h.zfr b) (fun hz => h.ofr s b (g4 b hz))
  · have hv : ∀ s', ((σ.mod s (x.upd p (.hole (x.at p).size))) s').ver = (σ s').ver := by
      intro s'
      simp only [Env.mod]
      split
      · rename_i e; rw [e]
      · rfl
    rw [hv]
    by_cases hts : t = s
    · subst hts; simp [Env.mod, A.refs] at hr
    · simp only [Env.mod, hts, if_false] at hr
      exact h.wf t s' ver hr
  · by_cases hts : t = s
    · subst hts
      simp only [Env.mod, if_true] at hgt
      rw [hg] at hgt; cases hgt
    · simp only [Env.mod, hts, if_false] at hgt hut
      exact h.und t hgt hut

def _root_.Go.Ax.Env.bmp (σ : Env) (d : Nat) (x : V) : Env := fun t => if t = d then ⟨(σ d).g, (σ d).u, (σ d).ver + 1, .val x⟩ else σ t

/-- The whole of a slot is taken. -/
theorem takeAll (h : Inv C F O Z σ a w) {s : Nat} {x : V} (hg : (σ s).g = true) (hx : (σ s).a = .val x) :
    ∃ cs, x.reg cs (a.tmps.getD s undef) ∧ Rep C.cz w F x cs (O s) ∧ s < a.tmps.size ∧
      Inv C F (fun t => if t = s then fun _ => False else O t) (fun z => Z z ∨ O s z) (σ.drp s) a w := by
  obtain ⟨h1, h2, _⟩ := h.slot s hg
  obtain ⟨cs, hreg, hrep⟩ := h2 x hx
  refine ⟨cs, hreg, hrep, h1, ?_⟩
  have := h.drop s
  refine ⟨this.slot, this.oo, this.of, fun s' b hb hz => this.oz s' b hb (hz.imp id (fun h => ⟨hg, ⟨x, hx⟩, h⟩)), fun b hz => this.zf b (hz.imp id (fun h => ⟨hg, ⟨x, hx⟩, h⟩)), this.olt,
    fun b hz => this.zlt b (hz.imp id (fun h => ⟨hg, ⟨x, hx⟩, h⟩)), this.flt, this.ofr, fun b hz => this.zfr b (hz.imp id (fun h => ⟨hg, ⟨x, hx⟩, h⟩)), this.f0, this.ffr, this.old, this.size, this.os, this.tape, this.output, this.defers, this.wf, this.und, this.ts, this.kp, this.hx⟩

/-- less is reserved -/
theorem lessZ (h : Inv C F O Z σ a w) {Z' : Nat → Prop} (hz : ∀ b, Z' b → Z b) : Inv C F O Z' σ a w :=
  ⟨h.slot, h.oo, h.of, fun s b hb hb' => h.oz s b hb (hz b hb'), fun b hb => h.zf b (hz b hb), h.olt, fun b hb => h.zlt b (hz b hb), h.flt, h.ofr, fun b hb => h.zfr b (hz b hb), h.f0, h.ffr, h.old, h.size, h.os, h.tape,
    h.output, h.defers, h.wf, h.und, h.ts, h.kp, h.hx⟩

/-- what is reserved, and new, is frozen -/
theorem freezeZ (h : Inv C F O Z σ a w) {Zf : Nat → Prop} (hz : ∀ b, Zf b → Z b) (hn : ∀ b, Zf b → C.w0.heap.size ≤ b) : Inv C (fun b => F b ∨ Zf b) O (fun b => Z b ∧ ¬ Zf b) σ a w := by
  refine ⟨fun t hg => ?_, h.oo, fun s b hb hf => hf.elim (h.of s b hb) (fun hf => h.oz s b hb (hz b hf)), fun s b hb hb' => h.oz s b hb hb'.1, fun b hb hf => hf.elim (h.zf b hb.1) hb.2, h.olt,
    fun b hb => h.zlt b hb.1, fun b hb => hb.elim (h.flt b) (fun hb => h.zlt b (hz b hb)), h.ofr, fun b hb => h.zfr b hb.1, fun b hb => .inl (h.f0 b hb), fun b hb => hb.elim (h.ffr b) (fun hb => .inr (hn b hb)), h.old, h.size,
    h.os, h.tape, h.output, h.defers, h.wf, h.und, h.ts, h.kp, h.hx⟩
  obtain ⟨h1, h2, h3⟩ := h.slot t hg
  refine ⟨h1, fun x hx => ?_, fun hn => (h3 hn).pres (fun s ver _ => Pres.refl s ver σ a.tmps) (fun _ h => .inl h) (fun _ _ => rfl)⟩
  obtain ⟨cs, g1, g2⟩ := h2 x hx
  exact ⟨cs, g1, g2.mono (fun _ h => .inl h) (fun _ h => h)⟩

/-- A part is stored where a hole is; the slot's version goes up. -/
theorem putAt (h : Inv C F O Z σ a w) {s : Nat} {p : List Nat} {x y : V} {b o : Nat} {cy : List Value} {On : Nat → Prop} (hg : (σ s).g = true) (hx : (σ s).a = .val x) (hok : x.okp p) (hp : p ≠ []) (hna : ∀ fs, x ≠ .agg fs)
    (hat : x.at p = .hole y.size) (hloc : locV C.cz w p x (a.tmps.getD s undef) = some (b, o)) (hU : Upd w w' b o y.size) (hsz : w'.heap.size = w.heap.size) (hy : Rep C.cz w' F y cy On) (hcy : Cells w' b o cy)
    (hOn : ∀ z, On z → Z z) (hH : C.st = true → ∀ off u, isHdr u = true → w.cell? ⟨b, off, none⟩ = some u → w'.cell? ⟨b, off, none⟩ = some u) (ho : w'.os = w.os) (ht : w'.tape = w.tape) (hpo : w'.output = w.output)
    {σ' : Env} (hσ : σ' = σ.bmp s (x.upd p y) ∨ (σ' = σ.mod s (x.upd p y) ∧ ∀ ver, Pres C.cz w w' σ (σ.mod s (x.upd p y)) a.tmps a.tmps s ver)) :
    Inv C F (fun t => if t = s then fun z => O s z ∨ On z else O t) (fun z => Z z ∧ ¬ On z) σ' a w' := by
  obtain ⟨h1, h2, _⟩ := h.slot s hg
  obtain ⟨cs, hreg, hrep⟩ := h2 x hx
  have hb : O s b := by
    obtain ⟨b', o', _, _, g1, _, _, _, g5, _⟩ := hrep.takeV hreg hok hp hna
    rw [hloc] at g1
    simp only [Option.some.injEq, Prod.mk.injEq] at g1
    rw [g1.1]
    exact g5
  have hbF : ¬ F b := h.of s b hb
  have hbZ : ¬ Z b := h.oz s b hb
  -- the new value
  have hnew : Rep C.cz w' F (x.upd p y) cs (fun z => O s z ∨ On z) ∧ (x.upd p y).reg cs (a.tmps.getD s undef) := by
    cases p with
    | nil => exact absurd rfl hp
    | cons i p =>
      cases hrep with
      | int => exact hok.1.elim
      | bool => exact hok.1.elim
      | str => exact hok.1.elim
      | hole => exact hok.1.elim
      | fz0 => have := hok.1; simp [V.hasKid] at this
      | fz => have := hok.1; simp [V.hasKid] at this
      | own0 => have := hok.1; simp [V.hasKid] at this
      | tup => exact hok.1.elim
      | fn => exact hok.1.elim
      | agg fs => exact absurd rfl (hna fs)
      | own e d es b1 len cap cur cs' Os O' hb1 hsz1 hl hcap hm hO hOs hdis hcs hr =>
        -- its header as if it lay in a block of its own
        let hd : Value := .slice (some ⟨b1, 0, none⟩) len cap
        let W : World := w.alloc (.cells #[hd] 0)
        let W' : World := w'.alloc (.cells #[hd] 0)
        have hW : ∀ k, k < w.heap.size → W.heap[k]? = w.heap[k]? := fun k hk => Deep.blk_alloc_lt w _ k hk
        have hW' : ∀ k, k < w'.heap.size → W'.heap[k]? = w'.heap[k]? := fun k hk => Deep.blk_alloc_lt w' _ k hk
        have hcW : Cells W w.heap.size 0 [hd] := by
          intro j v hj
          cases j with
          | zero => simp at hj; subst hj; show (w.alloc _).cell? _ = _; simp
          | succ j => simp at hj
        have hblt : b < w.heap.size := h.olt s b hb
        have hrepW : Rep C.cz W F (.slc true e d es) [hd] (O s) := (Rep.own e d es b1 len cap cur cs' Os _ hb1 hsz1 hl hcap hm hO hOs hdis hcs hr).world (fun k hk => hW k (hk.elim (h.flt k) (h.olt s k)))
        have hvv : a.tmps.getD s undef = hd := hreg
        have hlocW : locM C.cz W (i :: p) (.slc true e d es) w.heap.size 0 = some (b, o) := by
          have e0 := hcW 0 _ rfl
          simp only [Nat.add_zero] at e0
          simp only [locM]
          rw [e0]
          dsimp only [hd]
          rw [hvv] at hloc
          simp only [locV, hd] at hloc
          rw [← hloc]
          have hi := some_of_lt d hok.1.2
          exact locM_mem p (es.getD i d) b1 (i * C.cz e) (cs' i) (Os i) (hr i _ hi) (hcs i hok.1.2).2 hok.2 (fun k off u hk _ hu => by
            have hk' : k < w.heap.size := h.olt s k (hk.elim (fun hk => (hOs i k hk).1) (fun hk => by subst hk; exact hO))
            rw [World.cell?_of_block (a := ⟨k, off, none⟩) (hW k hk')]
            exact hu)
        have hUW : Upd W W' b o y.size := by
          refine ⟨fun k hk => ?_, fun cur e fr hc => ?_, fun j hj => ?_⟩
          · by_cases hkl : k < w.heap.size
            · rw [hW k hkl, hW' k (by omega)]; exact hU.other k hk
            · by_cases hke : k = w.heap.size
              · subst hke; rw [Deep.blk_alloc_new]; have := Deep.blk_alloc_new w' (.cells #[hd] 0); rw [hsz] at this; exact this
              · have z1 : W.heap.size = w.heap.size + 1 := Deep.nblk_alloc w _
                have z2 : W'.heap.size = w'.heap.size + 1 := Deep.nblk_alloc w' _
                rw [Array.getElem?_eq_none (by omega), Array.getElem?_eq_none (by omega)]
          · rw [hW b hblt] at hc
            obtain ⟨c1, e1, e2⟩ := hU.same cur e fr hc
            exact ⟨c1, by rw [hW' b (by omega)]; exact e1, e2⟩
          · rw [World.cell?_of_block (a := ⟨b, j, none⟩) (hW' b (by omega)), World.cell?_of_block (a := ⟨b, j, none⟩) (hW b hblt)]
            exact hU.cell j hj
        have hflt' : ∀ k, F k ∨ On k → k < w'.heap.size := fun k hk => by rw [hsz]; exact hk.elim (h.flt k) (fun hk => h.zlt k (hOn k hk))
        obtain ⟨cs'', g1, g2, g3, g4⟩ := Rep.putM (hy.world (fun k hk => hW' k (hflt' k hk))) (hcy.of_block (hW' b (by omega))) hbF hUW (i :: p) _ w.heap.size 0 [hd] (O s) hrepW hcW hok hat hlocW
          (fun z hz hz' => h.oz s z hz' (hOn z hz)) (fun hz => by have := h.olt s _ hz; omega) (fun z hz e => by have := h.zlt z (hOn z hz); omega)
        rw [g4 (by omega)] at g3
        refine ⟨g3.world (fun k hk => ?_), ?_⟩
        · symm
          apply hW'
          rw [hsz]
          rcases hk with hk | hk | hk
          · exact h.flt k hk
          · exact h.olt s k hk
          · exact h.zlt k (hOn k hk)
        · exact hvv
      | box e c b1 cur cs' Oc O' hb1 hcs hO hOs hr =>
        let hd : Value := .pointer (some ⟨b1, 0, none⟩)
        let W : World := w.alloc (.cells #[hd] 0)
        let W' : World := w'.alloc (.cells #[hd] 0)
        have hW : ∀ k, k < w.heap.size → W.heap[k]? = w.heap[k]? := fun k hk => Deep.blk_alloc_lt w _ k hk
        have hW' : ∀ k, k < w'.heap.size → W'.heap[k]? = w'.heap[k]? := fun k hk => Deep.blk_alloc_lt w' _ k hk
        have hcW : Cells W w.heap.size 0 [hd] := by
          intro j v hj
          cases j with
          | zero => simp at hj; subst hj; show (w.alloc _).cell? _ = _; simp
          | succ j => simp at hj
        have hblt : b < w.heap.size := h.olt s b hb
        have hrepW : Rep C.cz W F (.box e c) [hd] (O s) := (Rep.box e c b1 cur cs' Oc _ hb1 hcs hO hOs hr).world (fun k hk => hW k (hk.elim (h.flt k) (h.olt s k)))
        have hvv : a.tmps.getD s undef = hd := hreg
        have hcells : Cells w b1 0 cs' := by
          intro j v hj
          subst hcs
          simp at hj
          simp [World.cell?, hb1, hj]
        have hlocW : locM C.cz W (i :: p) (.box e c) w.heap.size 0 = some (b, o) := by
          have e0 := hcW 0 _ rfl
          simp only [Nat.add_zero] at e0
          simp only [locM]
          rw [e0]
          dsimp only [hd]
          rw [hvv] at hloc
          simp only [locV, hd] at hloc
          rw [← hloc]
          exact locM_mem p c b1 0 cs' Oc hr hcells hok.2 (fun k off u hk _ hu => by
            have hk' : k < w.heap.size := h.olt s k (hk.elim (fun hk => (hOs k hk).1) (fun hk => by subst hk; exact hO))
            rw [World.cell?_of_block (a := ⟨k, off, none⟩) (hW k hk')]
            exact hu)
        have hUW : Upd W W' b o y.size := by
          refine ⟨fun k hk => ?_, fun cur e fr hc => ?_, fun j hj => ?_⟩
          · by_cases hkl : k < w.heap.size
            · rw [hW k hkl, hW' k (by omega)]; exact hU.other k hk
            · by_cases hke : k = w.heap.size
              · subst hke; rw [Deep.blk_alloc_new]; have := Deep.blk_alloc_new w' (.cells #[hd] 0); rw [hsz] at this; exact this
              · have z1 : W.heap.size = w.heap.size + 1 := Deep.nblk_alloc w _
                have z2 : W'.heap.size = w'.heap.size + 1 := Deep.nblk_alloc w' _
                rw [Array.getElem?_eq_none (by omega), Array.getElem?_eq_none (by omega)]
          · rw [hW b hblt] at hc
            obtain ⟨c1, e1, e2⟩ := hU.same cur e fr hc
            exact ⟨c1, by rw [hW' b (by omega)]; exact e1, e2⟩
          · rw [World.cell?_of_block (a := ⟨b, j, none⟩) (hW' b (by omega)), World.cell?_of_block (a := ⟨b, j, none⟩) (hW b hblt)]
            exact hU.cell j hj
        have hflt' : ∀ k, F k ∨ On k → k < w'.heap.size := fun k hk => by rw [hsz]; exact hk.elim (h.flt k) (fun hk => h.zlt k (hOn k hk))
        obtain ⟨cs'', g1, g2, g3, g4⟩ := Rep.putM (hy.world (fun k hk => hW' k (hflt' k hk))) (hcy.of_block (hW' b (by omega))) hbF hUW (i :: p) _ w.heap.size 0 [hd] (O s) hrepW hcW hok hat hlocW
          (fun z hz hz' => h.oz s z hz' (hOn z hz)) (fun hz => by have := h.olt s _ hz; omega) (fun z hz e => by have := h.zlt z (hOn z hz); omega)
        rw [g4 (by omega)] at g3
        refine ⟨g3.world (fun k hk => ?_), ?_⟩
        · symm
          apply hW'
          rw [hsz]
          rcases hk with hk | hk | hk
          · exact h.flt k hk
          · exact h.olt s k hk
          · exact h.zlt k (hOn k hk)
        · exact hvv
  have hmO : ∀ t k, t ≠ s → O t k → w'.heap[k]? = w.heap[k]? := fun t k hts hk => hU.other k (fun e => by subst e; exact h.oo t s _ hts hk hb)
  have hmF : ∀ k, F k → w'.heap[k]? = w.heap[k]? := fun k hk => hU.other k (fun e => by subst e; exact hbF hk)
  have hown : ∀ t ver, t ≠ s → σ'.own t ver = σ.own t ver := by
    intro t ver hts
    rcases hσ with rfl | ⟨rfl, _⟩
    · simp [Env.own, Env.bmp, hts]
    · exact Env.own_mod_ne hts
  have hself : σ' s = ⟨(σ s).g, (σ s).u, (σ' s).ver, .val (x.upd p y)⟩ ∧ (σ s).ver ≤ (σ' s).ver := by
    rcases hσ with rfl | ⟨rfl, _⟩
    · simp [Env.bmp]
    · simp [Env.mod]
  have hoth : ∀ t, t ≠ s → σ' t = σ t := by
    intro t hts
    rcases hσ with rfl | ⟨rfl, _⟩
    · simp [Env.bmp, hts]
    · simp [Env.mod, hts]
  have hpr : ∀ t ver, ver ≤ (σ t).ver → Pres C.cz w w' σ σ' a.tmps a.tmps t ver := by
    intro t ver hver
    by_cases hts : t = s
    · subst hts
      rcases hσ with rfl | ⟨rfl, hpr⟩
      · intro x' hx'
        rw [Env.own_iff'] at hx'
        simp only [Env.bmp, if_true] at hx'
        omega
      · exact hpr ver
    · intro x' hx'
      rw [hown t ver hts] at hx'
      obtain ⟨x0, e1, e2, e3⟩ := h.pres_mem (w' := w') t ver (fun k off u hk _ hu => by rw [World.cell?_of_block (a := ⟨k, off, none⟩) (hmO t k hts hk)]; exact hu) x' hx'
      exact ⟨x0, e1, e2, e3⟩
  refine ⟨fun t hgt => ?_, fun t t' k hst hk => ?_, fun t k hk => ?_, fun t k hk hz => ?_, fun k hz => h.zf k hz.1, fun t k hk => ?_, fun k hz => by rw [hsz]; exact h.zlt k hz.1, fun k hk => by rw [hsz]; exact h.flt k hk,
    fun t k hk => ?_, fun k hz => h.zfr k hz.1, h.f0, h.ffr, fun k hk hkx => ?_, by rw [hsz]; exact h.size, ho.trans h.os, ht.trans h.tape, hpo.trans h.output, h.defers, fun t s' ver hr => ?_, fun t hgt hut => ?_, h.ts, h.kp, fun hst k off u hk hu h0 => by
      have h1 := h.hx hst k off u hk hu h0
      by_cases hkb : k = b
      · subst hkb; exact hH hst off u hu h1
      · rw [World.cell?_of_block (a := ⟨k, off, none⟩) (hU.other k hkb)]; exact h1⟩
  · by_cases hts : t = s
    · subst hts
      refine ⟨h1, fun z hz => ?_, fun hn => ?_⟩
      · rw [hself.1] at hz
        simp only [A.val.injEq] at hz
        subst hz
        simp only [if_true]
        exact ⟨cs, hnew.2, hnew.1⟩
      · rw [hself.1] at hn
        exact absurd rfl (hn _)
    · rw [hoth t hts] at hgt ⊢
      simp only [hts, if_false]
      obtain ⟨e1, e2, e3⟩ := h.slot t hgt
      refine ⟨e1, fun z hz => ?_, fun hn => (e3 hn).pres (fun s' ver hr => hpr s' ver (h.wf t s' ver hr)) (fun _ h => h) hmF⟩
      obtain ⟨c, e4, e5⟩ := e2 z hz
      exact ⟨c, e4, e5.world (fun k hk => hk.elim (hmF k) (hmO t k hts))⟩
  · split at hk
    · rename_i hts; subst hts
      rw [if_neg (Ne.symm hst)]
      rcases hk with hk | hk
      · exact h.oo _ _ k hst hk
      · exact fun hz => h.oz _ k hz (hOn k hk)
    · split
      · rename_i _ hts'; subst hts'
        exact fun hz => hz.elim (h.oo _ _ k hst hk) (fun hz => h.oz _ k hk (hOn k hz))
      · exact h.oo _ _ k hst hk
  · split at hk
    · exact hk.elim (h.of _ k) (fun hk => h.zf k (hOn k hk))
    · exact h.of _ k hk
  · split at hk
    · rcases hk with hk | hk
      · exact h.oz _ k hk hz.1
      · exact hz.2 hk
    · exact h.oz _ k hk hz.1
  · rw [hsz]
    split at hk
    · exact hk.elim (h.olt _ k) (fun hk => h.zlt k (hOn k hk))
    · exact h.olt _ k hk
  · split at hk
    · exact hk.elim (h.ofr _ k) (fun hk => h.zfr k (hOn k hk))
    · exact h.ofr _ k hk
  · rw [← h.old k hk hkx]
    refine hU.other k (fun e => ?_)
    subst e
    rcases h.ofr s _ hb with hh | hh
    · omega
    · exact hkx hh
  · by_cases hts : t = s
    · subst hts; rw [hself.1] at hr; simp [A.refs] at hr
    · rw [hoth t hts] at hr
      have := h.wf t s' ver hr
      by_cases hss : s' = s
      · subst hss; exact Nat.le_trans this hself.2
      · rw [hoth s' hss]; exact this
  · by_cases hts : t = s
    · subst hts
      rw [hself.1] at hgt
      simp only at hgt
      rw [hg] at hgt; cases hgt
    · rw [hoth t hts] at hgt hut
      exact h.und t hgt hut
end Inv
end Go.Ax
