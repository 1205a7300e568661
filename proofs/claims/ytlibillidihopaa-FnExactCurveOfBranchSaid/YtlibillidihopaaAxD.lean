/-
  AX, part D: what may be done to an environment and a world under 'Inv'.
-/
import Derived.Test.YtlibillidihopaaAxC
namespace Go.Ax

section
variable {cz : TypeId → Nat} {w w' : World} {F F' : Nat → Prop}

theorem isHdr_of_isH {x : V} {cs : List Value} {O : Nat → Prop} (h : Rep cz w F x cs O) (hx : x.isH = true) : ∃ v, cs = [v] ∧ isHdr v = true := by
  cases h <;> simp_all [V.isH, isHdr]

theorem V.okv_of_ne {x : V} {p : List Nat} (h : x.okv p) (hx : ∀ fs, x ≠ .tup fs) : x.okp p := by
  cases x <;> first | exact h | exact absurd rfl (hx _)

theorem V.okv_of_okp {x : V} {p : List Nat} (h : x.okp p) : x.okv p := by
  cases x with
  | tup fs => cases p with
    | nil => trivial
    | cons i p => exact h.1.elim
  | _ => exact h

theorem hdrV_mem {p : List Nat} {x : V} {cs : List Value} {O : Nat → Prop} {v h' : Value} (h : Rep cz w F x cs O) (hv : x.reg cs v) (hok : x.okv p)
    (H : ∀ k off h, O k → isHdr h = true → w.cell? ⟨k, off, none⟩ = some h → w'.cell? ⟨k, off, none⟩ = some h) (hh : hdrV cz w' p x v = some h') : hdrV cz w p x v = some h' := by
  cases p with
  | nil => exact hh
  | cons i p =>
    by_cases ht : ∃ fs, x = .tup fs
    · obtain ⟨fs, rfl⟩ := ht
      cases p with
      | nil => cases v <;> first | exact hh | (simp [hdrV, locV] at hh)
      | cons j p => simp [hdrV, locV] at hh
    · have hok' := V.okv_of_ne hok (fun fs e => ht ⟨fs, e⟩)
      have e1 : ∀ w, hdrV cz w (i :: p) x v = if (x.at (i :: p)).isH then (locV cz w (i :: p) x v).bind fun a => w.cell? ⟨a.1, a.2, none⟩ else none := by
        intro w
        cases p with
        | nil => cases x <;> first | rfl | exact absurd ⟨_, rfl⟩ ht
        | cons j p => rfl
      rw [e1] at hh ⊢
      split at hh
      · rename_i hH
        rw [if_pos hH]
        by_cases hna : ∃ fs, x = .agg fs
        · obtain ⟨fs, rfl⟩ := hna
          simp [locV] at hh
        · obtain ⟨b, o, cy, Oy, g1, g2, g3, g4, g5, g6, _⟩ := h.takeV hv hok' (by simp) (fun fs e => hna ⟨fs, e⟩)
          rw [locV_mem h hv hok' H] at hh
          rw [g1] at hh ⊢
          obtain ⟨u, rfl, hu⟩ := isHdr_of_isH g3 hH
          have hc := g2 0 u rfl
          simp only [Nat.add_zero] at hc
          have hc' := H _ _ _ g5 hu hc
          simp only [Option.bind_some] at hh ⊢
          rw [hc'] at hh
          rw [hc]
          exact hh
      · cases hh

/-- what is said of slot s at version 'ver' says no more than it said -/
def Pres (cz : TypeId → Nat) (w w' : World) (σ σ' : Env) (tmps tmps' : Array Value) (s ver : Nat) : Prop :=
  ∀ x', σ'.own s ver = some x' → ∃ x, σ.own s ver = some x ∧
    (∀ p h, x'.okv p → hdrV cz w' p x' (tmps'.getD s undef) = some h → x.okv p ∧ hdrV cz w p x (tmps.getD s undef) = some h) ∧
    (∀ p r, x'.okp p → locV cz w' p x' (tmps'.getD s undef) = some r → x.okp p ∧ locV cz w p x (tmps.getD s undef) = some r)

theorem Holds.pres {σ σ' : Env} {tmps tmps' : Array Value} {A : A} {v : Value} (h : Holds cz w F σ tmps A v) (hp : ∀ s ver, A.refs = some (s, ver) → Pres cz w w' σ σ' tmps tmps' s ver)
    (hF : ∀ b, F b → F' b) (hm : ∀ b, F b → w'.heap[b]? = w.heap[b]?) : Holds cz w' F' σ' tmps' A v := by
  have rep : ∀ {x : V} {cs : List Value}, Rep cz w F x cs (fun _ => False) → Rep cz w' F' x cs (fun _ => False) :=
    fun hr => (hr.world (fun b hb => hb.elim (hm b) False.elim)).mono hF (fun _ h => h)
  cases A with
  | val x => obtain ⟨cs, h1, h2⟩ := h; exact ⟨cs, h1, rep h2⟩
  | rf s ver p =>
    intro x' h' hx' hok hh
    obtain ⟨x, hx, h1, _⟩ := hp s ver rfl x' hx'
    obtain ⟨g1, g2⟩ := h1 p h' hok hh
    exact h x h' hx g1 g2
  | ad s ver p =>
    intro x' b o hx' hok hh
    obtain ⟨x, hx, _, h1⟩ := hp s ver rfl x' hx'
    obtain ⟨g1, g2⟩ := h1 p (b, o) hok hh
    exact h x b o hx g1 g2
  | fz x => obtain ⟨b, o, cs, h1, h2, h3, h4⟩ := h; exact ⟨b, o, cs, h1, hF _ h2, h3.of_block (hm _ h2), rep h4⟩
  | ag s ver p x =>
    obtain ⟨cs, h1, h2⟩ := h
    refine ⟨cs, h1, h2.mono (fun q u hq r' h' hr' hok hh => ?_) (fun y c hr => rep hr)⟩
    obtain ⟨r, hr, g, _⟩ := hp s ver rfl r' hr'
    obtain ⟨g1, g2⟩ := g q h' hok hh
    exact hq r h' hr g1 g2

theorem Pres.refl (s ver : Nat) (σ : Env) (tmps : Array Value) : Pres cz w w σ σ tmps tmps s ver := fun x hx => ⟨x, hx, fun _ _ h1 h2 => ⟨h1, h2⟩, fun _ _ h1 h2 => ⟨h1, h2⟩⟩

theorem Env.own_put_ne {σ : Env} {d s ver : Nat} {g : Bool} {x : A} (h : s ≠ d) : (σ.put d g x).own s ver = σ.own s ver := by
  simp [Env.own, Env.put, h]
theorem Env.own_put_eq {σ : Env} {d ver : Nat} {g : Bool} {x : A} (h : ver ≤ (σ d).ver) : (σ.put d g x).own d ver = none := by
  unfold Env.own Env.put
  simp only [if_true]
  rw [if_neg]
  intro hh
  omega
theorem Env.own_drp_ne {σ : Env} {d s ver : Nat} (h : s ≠ d) : (σ.drp d).own s ver = σ.own s ver := by
  simp [Env.own, Env.drp, h]
theorem Env.own_drp_eq {σ : Env} {d ver : Nat} : (σ.drp d).own d ver = none := by
  simp [Env.own, Env.drp]
theorem Env.own_mod_ne {σ : Env} {d s ver : Nat} {x : V} (h : s ≠ d) : (σ.mod d x).own s ver = σ.own s ver := by
  simp [Env.own, Env.mod, h]
theorem Env.own_mod_eq {σ : Env} {d ver : Nat} {x : V} : (σ.mod d x).own d ver = if (σ d).g = true ∧ (σ d).ver = ver then (if x.owned then some x else none) else none := by
  simp [Env.own, Env.mod]

theorem getD_set_ne' {a : Array Value} {d t : Nat} {v : Value} (h : t ≠ d) : (a.setIfInBounds d v).getD t undef = a.getD t undef := by
  simp [Array.getElem?_setIfInBounds_ne (Ne.symm h)]
theorem getD_set_eq' {a : Array Value} {d : Nat} {v : Value} (h : d < a.size) : (a.setIfInBounds d v).getD d undef = v := by
  simp [h]
end

namespace Inv
variable {C : Ctx} {F : Nat → Prop} {O : Nat → Nat → Prop} {Z : Nat → Prop} {σ : Env} {a : Act} {w w' : World}

/-- the pres of a slot whose memory is as it was -/
theorem pres_mem (h : Inv C F O Z σ a w) (s ver : Nat) (H : ∀ k off u, O s k → isHdr u = true → w.cell? ⟨k, off, none⟩ = some u → w'.cell? ⟨k, off, none⟩ = some u) :
    Pres C.cz w w' σ σ a.tmps a.tmps s ver := by
  intro x hx
  obtain ⟨hg, _, ha⟩ := Env.own_elim hx
  obtain ⟨_, hv, _⟩ := h.slot s hg
  obtain ⟨cs, hreg, hrep⟩ := hv x ha
  exact ⟨x, hx, fun p u hok hh => ⟨hok, hdrV_mem hrep hreg hok H hh⟩, fun p r hok hh => ⟨hok, by rw [locV_mem hrep hreg hok H] at hh; exact hh⟩⟩

/-- Memory grows, and turns in Z alone. -/
theorem worldZ (h : Inv C F O Z σ a w) {Z' : Nat → Prop} (hs : w.heap.size ≤ w'.heap.size) (hm : ∀ k, k < w.heap.size → ¬ Z k → w'.heap[k]? = w.heap[k]?)
    (hZ : ∀ b, Z' b → Z b ∨ (w.heap.size ≤ b ∧ b < w'.heap.size)) (hH : C.st = true → ∀ b off u, C.X b → Z b → isHdr u = true → w.cell? ⟨b, off, none⟩ = some u → w'.cell? ⟨b, off, none⟩ = some u) (ho : w'.os = w.os) (ht : w'.tape = w.tape) (hp : w'.output = w.output) : Inv C F O Z' σ a w' := by
  have hmO : ∀ s b, O s b → w'.heap[b]? = w.heap[b]? := fun s b hb => hm b (h.olt s b hb) (h.oz s b hb)
  have hmF : ∀ b, F b → w'.heap[b]? = w.heap[b]? := fun b hb => hm b (h.flt b hb) (fun hz => h.zf b hz hb)
  have hpr : ∀ s ver, Pres C.cz w w' σ σ a.tmps a.tmps s ver := fun s ver => h.pres_mem s ver (fun k off u hk _ hu => by
    rw [World.cell?_of_block (a := ⟨k, off, none⟩) (hmO s k hk)]; exact hu)
  refine ⟨fun t hg => ?_, h.oo, h.of, fun s b hb hz => ?_, fun b hz hf => ?_, fun s b hb => Nat.lt_of_lt_of_le (h.olt s b hb) hs, fun b hz => ?_, fun b hb => Nat.lt_of_lt_of_le (h.flt b hb) hs,
    h.ofr, fun b hz => ?_, h.f0, h.ffr, fun k hk hx => ?_, Nat.le_trans h.size hs, ho.trans h.os, ht.trans h.tape, hp.trans h.output, h.defers, h.wf, h.und, h.ts, h.kp, fun hst b off u hb hu h0 => ?_⟩
  · obtain ⟨h1, h2, h3⟩ := h.slot t hg
    refine ⟨h1, fun x hx => ?_, fun hn => (h3 hn).pres (fun s ver _ => hpr s ver) (fun _ h => h) hmF⟩
    obtain ⟨cs, g1, g2⟩ := h2 x hx
    exact ⟨cs, g1, g2.world (fun b hb => hb.elim (hmF b) (hmO t b))⟩
  · rcases hZ b hz with hz | ⟨hz, _⟩
    · exact h.oz s b hb hz
    · have := h.olt s b hb; omega
  · rcases hZ b hz with hz | ⟨hz, _⟩
    · exact h.zf b hz hf
    · have := h.flt b hf; omega
  · rcases hZ b hz with hz | ⟨_, hz⟩
    · exact Nat.lt_of_lt_of_le (h.zlt b hz) hs
    · exact hz
  · rcases hZ b hz with hz | ⟨hz, _⟩
    · exact h.zfr b hz
    · exact .inl (Nat.le_trans h.size hz)
  · rw [← h.old k hk hx]
    refine hm k (Nat.lt_of_lt_of_le hk h.size) (fun hz => ?_)
    rcases h.zfr k hz with hb | hb
    · omega
    · exact hx hb
  · have h1 := h.hx hst b off u hb hu h0
    by_cases hz : Z b
    · exact hH hst b off u hb hz hu h1
    · have hlt : b < w.heap.size := by
        unfold World.cell? at h1
        split at h1
        · rename_i heq; exact (Array.getElem?_eq_some_iff.1 heq).1
        · cases h1
      rw [World.cell?_of_block (a := ⟨b, off, none⟩) (hm b hlt hz)]
      exact h1

theorem kp_put (h : Inv C F O Z σ a w) {d : Nat} {v : Value} (hd : d < a.tmps.size) (hlo : C.lo ≤ d ∨ v = a.tmps.getD d undef) : ∀ t, t < C.lo → (a.put (some d) v).tmps.getD t undef = C.t0.getD t undef := by
  intro t ht
  by_cases htd : t = d
  · subst htd
    rcases hlo with hlo | hlo
    · omega
    · simp only [Act.put]
      rw [getD_set_eq' hd, hlo]
      exact h.kp t ht
  · simp only [Act.put]
    rw [getD_set_ne' htd]
    exact h.kp t ht

/-- A register is laid: a value; its own blocks come out of Z. -/
theorem putVal (h : Inv C F O Z σ a w) {d : Nat} {g : Bool} {x : V} {v : Value} (hd : d < a.tmps.size) (hlo : C.lo ≤ d ∨ v = a.tmps.getD d undef) {cs : List Value} {On : Nat → Prop}
    (hx : g = true → x.reg cs v ∧ Rep C.cz w F x cs On) (hO : ∀ b, On b → Z b) (hun : g = false → v = undef) :
    Inv C F (fun t => if t = d then On else O t) (fun b => Z b ∧ ¬ On b) (σ.put d g (.val x)) (a.put (some d) v) w := by
  have hpr : ∀ s ver, ver ≤ (σ s).ver → Pres C.cz w w σ (σ.put d g (.val x)) a.tmps (a.put (some d) v).tmps s ver := by
    intro s ver hver
    by_cases hsd : s = d
    · subst hsd
      intro x' hx'
      rw [Env.own_put_eq hver] at hx'
      cases hx'
    · intro x' hx'
      rw [Env.own_put_ne hsd] at hx'
      refine ⟨x', hx', fun p u h1 h2 => ⟨h1, ?_⟩, fun p r h1 h2 => ⟨h1, ?_⟩⟩
      · simp only [Act.put] at h2
        rwa [getD_set_ne' hsd] at h2
      · simp only [Act.put] at h2
        rwa [getD_set_ne' hsd] at h2
  refine ⟨fun t hg => ?_, fun s t b hst hb => ?_, fun s b hb => ?_, fun s b hb => ?_, fun b hz => h.zf b hz.1, fun s b hb => ?_, fun b hz => h.zlt b hz.1, h.flt, fun s b hb => ?_, fun b hz => h.zfr b hz.1,
    h.f0, h.ffr, h.old, h.size, h.os, h.tape, h.output, h.defers, fun t s ver hr => ?_, fun t hgt hut => ?_, by simpa [Act.put] using h.ts, h.kp_put hd hlo, h.hx⟩
  · by_cases htd : t = d
    · subst htd
      simp only [Env.put, if_true] at hg ⊢
      refine ⟨by simpa [Act.put] using hd, fun y hy => ?_, fun hn => absurd rfl (hn x)⟩
      simp only [A.val.injEq] at hy
      subst hy
      obtain ⟨h1, h2⟩ := hx hg
      exact ⟨cs, by simp only [Act.put]; rw [getD_set_eq' hd]; exact h1, h2⟩
    · simp only [Env.put, htd, if_false] at hg ⊢
      obtain ⟨h1, h2, h3⟩ := h.slot t hg
      refine ⟨by simpa [Act.put] using h1, fun y hy => ?_, fun hn => ?_⟩
      · simp only [Act.put]
        rw [getD_set_ne' htd]
        exact h2 y hy
      · have := (h3 hn).pres (σ' := σ.put d g (.val x)) (tmps' := (a.put (some d) v).tmps) (fun s ver hr => hpr s ver (h.wf t s ver hr)) (fun _ h => h) (fun _ _ => rfl)
        simp only [Act.put] at this ⊢
        rw [getD_set_ne' htd]
        exact this
  · split at hb
    · rename_i hsd; subst hsd
      rw [if_neg (Ne.symm hst)]
      exact fun ht => h.oz t b ht (hO b hb)
    · split
      · exact fun ht => h.oz s b hb (hO b ht)
      · exact h.oo s t b hst hb
  · split at hb
    · exact h.zf b (hO b hb)
    · exact h.of s b hb
  · split at hb
    · exact fun hz => hz.2 hb
    · exact fun hz => h.oz s b hb hz.1
  · split at hb
    · exact h.zlt b (hO b hb)
    · exact h.olt s b hb
  · split at hb
    · exact h.zfr b (hO b hb)
    · exact h.ofr s b hb
  · by_cases htd : t = d
    · subst htd
      simp [Env.put, A.refs] at hr
    · simp only [Env.put, htd, if_false] at hr
      have := h.wf t s ver hr
      by_cases hsd : s = d
      · subst hsd; simp only [Env.put, if_true]; omega
      · simp only [Env.put, hsd, if_false]; exact this
  · by_cases htd : t = d
    · subst htd
      simp only [Env.put, if_true] at hgt
      simp only [Act.put]
      rw [getD_set_eq' hd]
      exact hun hgt
    · simp only [Env.put, htd, if_false] at hgt hut
      simp only [Act.put]
      rw [getD_set_ne' htd]
      exact h.und t hgt hut

/-- A register is laid: what refers to others. -/
theorem putRef (h : Inv C F O Z σ a w) {d : Nat} {g : Bool} {x : A} {v : Value} (hd : d < a.tmps.size) (hlo : C.lo ≤ d ∨ v = a.tmps.getD d undef) (hn : ∀ y, x ≠ .val y) (hx : g = true → Holds C.cz w F σ a.tmps x v) (hun : g = false → v = undef)
    (hr0 : ∀ s ver, x.refs = some (s, ver) → ver ≤ (σ s).ver) :
    Inv C F O Z (σ.put d g x) (a.put (some d) v) w := by
  have hpr : ∀ s ver, ver ≤ (σ s).ver → Pres C.cz w w σ (σ.put d g x) a.tmps (a.put (some d) v).tmps s ver := by
    intro s ver hver
    by_cases hsd : s = d
    · subst hsd
      intro x' hx'
      rw [Env.own_put_eq hver] at hx'
      cases hx'
    · intro x' hx'
      rw [Env.own_put_ne hsd] at hx'
      refine ⟨x', hx', fun p u h1 h2 => ⟨h1, ?_⟩, fun p r h1 h2 => ⟨h1, ?_⟩⟩
      · simp only [Act.put] at h2
        rwa [getD_set_ne' hsd] at h2
      · simp only [Act.put] at h2
        rwa [getD_set_ne' hsd] at h2
  refine ⟨fun t hg => ?_, h.oo, h.of, h.oz, h.zf, h.olt, h.zlt, h.flt, h.ofr, h.zfr,
    h.f0, h.ffr, h.old, h.size, h.os, h.tape, h.output, h.defers, fun t s ver hr => ?_, fun t hgt hut => ?_, by simpa [Act.put] using h.ts, h.kp_put hd hlo, h.hx⟩
  · by_cases htd : t = d
    · subst htd
      simp only [Env.put, if_true] at hg ⊢
      refine ⟨by simpa [Act.put] using hd, fun y hy => absurd hy (hn y), fun _ => ?_⟩
      have := (hx hg).pres (σ' := σ.put t g x) (tmps' := (a.put (some t) v).tmps) (fun s ver hr => hpr s ver (hr0 s ver hr)) (fun _ h => h) (fun _ _ => rfl)
      simp only [Act.put] at this ⊢
      rw [getD_set_eq' hd]
      exact this
    · simp only [Env.put, htd, if_false] at hg ⊢
      obtain ⟨h1, h2, h3⟩ := h.slot t hg
      refine ⟨by simpa [Act.put] using h1, fun y hy => ?_, fun hn => ?_⟩
      · simp only [Act.put]
        rw [getD_set_ne' htd]
        exact h2 y hy
      · have := (h3 hn).pres (σ' := σ.put d g x) (tmps' := (a.put (some d) v).tmps) (fun s ver hr => hpr s ver (h.wf t s ver hr)) (fun _ h => h) (fun _ _ => rfl)
        simp only [Act.put] at this ⊢
        rw [getD_set_ne' htd]
        exact this
  · by_cases htd : t = d
    · subst htd
      simp only [Env.put, if_true] at hr
      have := hr0 s ver hr
      by_cases hsd : s = t
      · subst hsd; simp only [Env.put, if_true]; omega
      · simp only [Env.put, hsd, if_false]; exact this
    · simp only [Env.put, htd, if_false] at hr
      have := h.wf t s ver hr
      by_cases hsd : s = d
      · subst hsd; simp only [Env.put, if_true]; omega
      · simp only [Env.put, hsd, if_false]; exact this
  · by_cases htd : t = d
    · subst htd
      simp only [Env.put, if_true] at hgt
      simp only [Act.put]
      rw [getD_set_eq' hd]
      exact hun hgt
    · simp only [Env.put, htd, if_false] at hgt hut
      simp only [Act.put]
      rw [getD_set_ne' htd]
      exact h.und t hgt hut

/-- A slot is forgotten. -/
theorem drop (h : Inv C F O Z σ a w) (d : Nat) : Inv C F (fun t => if t = d then fun _ => False else O t) (fun b => Z b ∨ ((σ d).g = true ∧ (∃ x, (σ d).a = .val x) ∧ O d b)) (σ.drp d) a w := by
  have hpr : ∀ s ver, ver ≤ (σ s).ver → Pres C.cz w w σ (σ.drp d) a.tmps a.tmps s ver := by
    intro s ver hver
    by_cases hsd : s = d
    · subst hsd
      intro x' hx'
      rw [Env.own_drp_eq] at hx'
      cases hx'
    · intro x' hx'
      rw [Env.own_drp_ne hsd] at hx'
      exact ⟨x', hx', fun p u h1 h2 => ⟨h1, h2⟩, fun p r h1 h2 => ⟨h1, h2⟩⟩
  refine ⟨fun t hg => ?_, fun s t b hst hb => ?_, fun s b hb => ?_, fun s b hb hz => ?_, fun b hz => ?_, fun s b hb => ?_, fun b hz => ?_, h.flt, fun s b hb => ?_, fun b hz => ?_,
    h.f0, h.ffr, h.old, h.size, h.os, h.tape, h.output, h.defers, fun t s ver hr => ?_, fun t hgt hut => ?_, h.ts, h.kp, h.hx⟩
  · by_cases htd : t = d
    · subst htd
      simp [Env.drp] at hg
    · simp only [Env.drp, htd, if_false] at hg ⊢
      obtain ⟨h1, h2, h3⟩ := h.slot t hg
      refine ⟨h1, fun y hy => h2 y hy, fun hn => ?_⟩
      exact (h3 hn).pres (fun s ver hr => hpr s ver (h.wf t s ver hr)) (fun _ h => h) (fun _ _ => rfl)
  · split at hb
    · exact hb.elim
    · split
      · exact fun h => h
      · exact h.oo s t b hst hb
  · split at hb
    · exact hb.elim
    · exact h.of s b hb
  · split at hb
    · exact hb.elim
    · rename_i hsd
      rcases hz with hz | ⟨_, _, hz⟩
      · exact h.oz s b hb hz
      · exact h.oo s d b hsd hb hz
  · rcases hz with hz | ⟨_, _, hz⟩
    · exact h.zf b hz
    · exact h.of d b hz
  · split at hb
    · exact hb.elim
    · exact h.olt s b hb
  · rcases hz with hz | ⟨_, _, hz⟩
    · exact h.zlt b hz
    · exact h.olt d b hz
  · split at hb
    · exact hb.elim
    · exact h.ofr s b hb
  · rcases hz with hz | ⟨_, _, hz⟩
    · exact h.zfr b hz
    · exact h.ofr d b hz
  · by_cases htd : t = d
    · subst htd
      simp [Env.drp, A.refs] at hr
    · simp only [Env.drp, htd, if_false] at hr
      have := h.wf t s ver hr
      by_cases hsd : s = d
      · subst hsd; simp only [Env.drp, if_true]; omega
      · simp only [Env.drp, hsd, if_false]; exact this
  · by_cases htd : t = d
    · subst htd
      simp [Env.drp] at hut
    · simp only [Env.drp, htd, if_false] at hgt hut
      exact h.und t hgt hut
end Inv
end Go.Ax
