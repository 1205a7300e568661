/-
  AX, part Q: to take what an operand holds; assignment that moves; store; append.
-/
import Derived.Test.YtlibillidihopaaAxP
namespace Go.Ax
open Go.RowKit

section
variable {C : Ctx} {F : Nat → Prop} {O : Nat → Nat → Prop} {Z : Nat → Prop} {σ σ' : Env} {a : Act} {w w' : World}

/-- a slot's tree is turned, its register and the memory stay -/
theorem Inv.modTree (h : Inv C F O Z σ a w) {s : Nat} {x' : V} {cs' : List Value} {Os Zx : Nat → Prop} (hg : (σ s).g = true) (hrep : Rep C.cz w F x' cs' Os) (hreg : x'.reg cs' (a.tmps.getD s undef)) (hOs : ∀ b, Os b → O s b) (hZx : ∀ b, Zx b → O s b)
    (hd : ∀ b, Os b → ¬ Zx b) (hpr : ∀ ver, Pres C.cz w w σ (σ.mod s x') a.tmps a.tmps s ver) : Inv C F (fun t => if t = s then Os else O t) (fun z => Z z ∨ Zx z) (σ.mod s x') a w ∧
    (∀ A v, Holds C.cz w F σ a.tmps A v → Holds C.cz w F (σ.mod s x') a.tmps A v) := by
  have hpr' : ∀ s' ver, Pres C.cz w w σ (σ.mod s x') a.tmps a.tmps s' ver := by
    intro s' ver
    by_cases hs : s' = s
    · subst hs; exact hpr ver
    · intro x hx
      rw [Env.own_mod_ne hs] at hx
      exact ⟨x, hx, fun _ _ h1 h2 => ⟨h1, h2⟩, fun _ _ h1 h2 => ⟨h1, h2⟩⟩
  have hv : ∀ s', ((σ.mod s x') s').ver = (σ s').ver := by
    intro s'
    simp only [Env.mod]
    split
    · rename_i e; rw [e]
    · rfl
  refine ⟨⟨fun t hgt => ?_, fun t t' b hst hb => ?_, fun t b hb => ?_, fun t b hb hz => ?_, fun b hz => ?_, fun t b hb => ?_, fun b hz => ?_, h.flt, fun t b hb => ?_, fun b hz => ?_,
    h.f0, h.ffr, h.old, h.size, h.os, h.tape, h.output, h.defers, fun t s' ver hr => ?_, fun t hgt hut => ?_, h.ts, h.kp, h.hx⟩, fun A v hh => hh.pres (fun s' ver _ => hpr' s' ver) (fun _ h => h) (fun _ _ => rfl)⟩
  · by_cases hts : t = s
    · subst hts
      refine ⟨(h.slot t hg).1, fun y hy => ?_, fun hn => ?_⟩
      · simp only [Env.mod, if_true, A.val.injEq] at hy
        subst hy
        simp only [if_true]
        exact ⟨cs', hreg, hrep⟩
      · simp [Env.mod] at hn
    · simp only [Env.mod, hts, if_false] at hgt ⊢
      obtain ⟨e1, e2, e3⟩ := h.slot t hgt
      exact ⟨e1, e2, fun hn => (e3 hn).pres (fun s' ver _ => hpr' s' ver) (fun _ h => h) (fun _ _ => rfl)⟩
  · split at hb
    · rename_i hts; subst hts
      rw [if_neg (Ne.symm hst)]
      exact h.oo _ _ b hst (hOs b hb)
    · split
      · rename_i _ hts'; subst hts'
        exact fun hz => h.oo _ _ b hst hb (hOs b hz)
      · exact h.oo _ _ b hst hb
  · split at hb
    · exact h.of _ b (hOs b hb)
    · exact h.of _ b hb
  · split at hb
    · exact hz.elim (h.oz _ b (hOs b hb)) (hd b hb)
    · rename_i hts
      exact hz.elim (h.oz _ b hb) (fun hz => h.oo _ _ b hts hb (hZx b hz))
  · exact hz.elim (h.zf b) (fun hz => h.of s b (hZx b hz))
  · split at hb
    · exact h.olt _ b (hOs b hb)
    · exact h.olt _ b hb
  · exact hz.elim (h.zlt b) (fun hz => h.olt s b (hZx b hz))
  · split at hb
    · exact h.ofr _ b (hOs b hb)
    · exact h.ofr _ b hb
  · exact hz.elim (h.zfr b) (fun hz => h.ofr s b (hZx b hz))
  · rw [hv]
    by_cases hts : t = s
    · subst hts; simp [Env.mod, A.refs] at hr
    · simp only [Env.mod, hts, if_false] at hr
      exact h.wf t s' ver hr
  · by_cases hts : t = s
    · subst hts
      simp only [Env.mod, if_true] at hgt
      rw [hg] at hgt; cases hgt
    · simp only [Env.mod, hts, if_false] at hgt hut
      exact h.und t hgt hut

theorem takeA_sound (hI : Inv C F O Z σ a w) {A : A} {v : Value} {q : Prop} {x : V} (hh : Holds C.cz w F σ a.tmps A v) (ht : takeA σ A = some (q, x, σ')) (hq : q) : ∃ cs On, x.reg cs v ∧ Taken C F Z σ σ' a w x cs On := by
  cases A with
  | val z =>
    simp only [takeA, Option.some.injEq, Prod.mk.injEq] at ht
    obtain ⟨_, rfl, rfl⟩ := ht
    obtain ⟨cs, e1, e2⟩ := hh
    exact ⟨cs, fun _ => False, e1, e2, fun _ h => h.elim, ⟨O, hI.lessZ (fun b hb => hb.resolve_right id)⟩, fun _ _ h => h⟩
  | rf s ver p =>
    simp only [takeA] at ht
    split at ht
    · rename_i r hr
      obtain ⟨hg, _, ha⟩ := Env.own_elim hr
      split at ht
      · simp only [Option.some.injEq, Prod.mk.injEq] at ht
        obtain ⟨_, rfl, rfl⟩ := ht
        obtain ⟨cs, e1, e2, e3, e4⟩ := hI.takeAll hg ha
        have hv := hh r _ hr (by cases r <;> trivial) rfl
        rw [← hv] at e1
        refine ⟨cs, O s, e1, e2, fun b hb => hI.oz s b hb, ⟨_, e4⟩, fun A v h => h.pres (fun s' ver' _ => ?_) (fun _ h => h) (fun _ _ => rfl)⟩
        intro x' hx'
        by_cases hs : s' = s
        · subst hs; rw [Env.own_drp_eq] at hx'; cases hx'
        · rw [Env.own_drp_ne hs] at hx'
          exact ⟨x', hx', fun _ _ h1 h2 => ⟨h1, h2⟩, fun _ _ h1 h2 => ⟨h1, h2⟩⟩
      · rename_i i p'
        split at ht
        · rename_i fs
          split at ht
          · simp only [Option.some.injEq, Prod.mk.injEq] at ht
            obtain ⟨rfl, rfl, rfl⟩ := ht
            obtain ⟨_, h2, _⟩ := hI.slot s hg
            obtain ⟨cs, h3, h4⟩ := h2 _ ha
            cases h4 with
            | tup fs vs cs' Os O' hn hOs hdis hv hrr =>
              have hi' := some_of_lt (.hole 0) hq
              have hvv : a.tmps.getD s undef = .tuple vs := h3
              have hval : v = vs.getD i undef := hh (.tup fs) _ hr ⟨hq, trivial⟩ (by rw [hvv]; rfl)
              have hnew : Rep C.cz w F (.tup (fs.set i (.hole (fs.getD i (.hole 0)).size))) [.tuple vs] (fun b => O s b ∧ ¬ Os i b) := by
                refine .tup _ vs cs' (fun k b => if k = i then False else Os k b) _ (by simpa using hn) (fun k b hb => ?_) (fun j k b hjk hb => ?_) (fun k y hy => ?_) (fun k y hy => ?_)
                · split at hb
                  · exact hb.elim
                  · rename_i hk; exact ⟨hOs k b hb, hdis k i b hk hb⟩
                · split at hb
                  · exact hb.elim
                  · split
                    · exact id
                    · exact hdis j k b hjk hb
                · rcases V.set_some hy with ⟨rfl, rfl⟩ | ⟨hne, hy'⟩
                  · trivial
                  · exact hv k y hy'
                · rcases V.set_some hy with ⟨rfl, rfl⟩ | ⟨hne, hy'⟩
                  · simp only [if_true]; exact .hole _ _ _ (hrr k _ hi').length
                  · simp only [hne, if_false]; exact hrr k y hy'
              obtain ⟨e1, e2⟩ := hI.modTree (x' := .tup (fs.set i (.hole (fs.getD i (.hole 0)).size))) (Zx := Os i) hg hnew (by exact hvv) (fun b hb => hb.1) (fun b hb => hOs i b hb) (fun b hb => hb.2) (by
                intro ver' x' hx'
                rw [Env.own_mod_eq] at hx'
                split at hx'
                · rename_i hver
                  split at hx'
                  case isFalse => cases hx'
                  simp only [Option.some.injEq] at hx'
                  subst hx'
                  refine ⟨.tup fs, by rw [← hver.2]; have := hr; rw [Env.own_iff'] at this ⊢; exact ⟨this.1, rfl, this.2.2⟩, fun p u hok hu => ?_, fun p r' hok hr' => ?_⟩
                  · cases p with
                    | nil => exact ⟨trivial, hu⟩
                    | cons j p =>
                      cases p with
                      | nil =>
                        refine ⟨⟨by have := hok.1; simpa using this, trivial⟩, ?_⟩
                        rw [hvv] at hu ⊢
                        exact hu
                      | cons k p => simp [hdrV, locV] at hu
                  · cases p <;> simp [locV] at hr'
                · cases hx')
              subst hval
              exact ⟨cs' i, Os i, hv i _ hi', hrr i _ hi', fun b hb => hI.oz s b (hOs i b hb), ⟨_, e1⟩, e2⟩
          · cases ht
        · simp only [Option.some.injEq, Prod.mk.injEq] at ht
          obtain ⟨rfl, rfl, rfl⟩ := ht
          obtain ⟨On, e1, e2⟩ := take_hdr hI hh hr hq.1 hq.2
          exact ⟨[v], On, e1, e2⟩
    · cases ht
  | ag s ver p fs =>
    simp only [takeA] at ht
    obtain ⟨cs, e1, hcp⟩ := hh
    obtain ⟨On, f1, f2⟩ := takeP_sound (.agg fs) p σ σ' O Z cs q x hI hcp ht hq
    refine ⟨cs, On, ?_, f1⟩
    simp only [takeP] at ht
    split at ht
    · simp only [Option.some.injEq, Prod.mk.injEq] at ht
      obtain ⟨_, rfl, _⟩ := ht
      exact e1
    · cases ht
  | ad => simp [takeA] at ht
  | fz => simp [takeA] at ht

/-! ### the steps -/

-- no hole in it
mutual
def _root_.Go.Ax.V.solid : V → Bool
  | .agg fs => V.solids fs
  | .hole _ => false
  | .tup _ => false
  | _ => true
def _root_.Go.Ax.V.solids : List V → Bool
  | [] => true
  | v :: vs => v.solid && V.solids vs
end

def boolT (P : Program) (t : TypeId) : Bool := match P.underlying t with
  | some .bool => true
  | _ => false
def scalP (P : Program) (t : TypeId) : Bool := (intT P t).isSome || isStr P t || boolT P t

/-- a step that writes or moves -/
def wstep (C : Ctx) (σ : Env) (o : Oper) : Option (Prop × Env) :=
  match o.guard with
  | some _ => none
  | none =>
  match o.op, o.dst with
  | .assign x, some d =>
    match opd C.P σ o.type x with
    | some (gx, A) => match takeA σ A with
      | some (q, y, σ1) => if C.dst d && !y.isHole then
          (match A with
          | .rf s _ [] => if s = d then none else some (gx = true ∧ q, (σ1.put d true (.val y)).put s true (.rf d ((σ1 d).ver + 1) []))
          | _ => some (gx = true ∧ q, σ1.put d true (.val y))) else none
      | none => none
    | none => none
  | .store t x v, none =>
    match opd C.P σ t v with
    | some (gv, Av) => match takeA σ Av with
      | some (q, y, σ1) => match opd C.P σ1 0 x with
        | some (gx, .ad s ver p) => match σ1.own s ver with
          | some r => if fits C.P t y && (r.at p).size == y.size && y.solid && decide (0 < y.size) then
              some (gv = true ∧ q ∧ gx = true ∧ r.okm p ∧ (C.st = true → ((r.at p).isScalar && y.isScalar) = true), if (r.at p).isScalar && y.isScalar then σ1.mod s (r.upd p y) else σ1.bmp s (r.upd p y)) else none
          | none => none
        | some (gx, .rf s ver p) => match σ1.own s ver with
          | some r => match r.at p with
            | .box _ c => if fits C.P t y && c.size == y.size && y.solid && decide (0 < y.size) then
              some (gv = true ∧ q ∧ gx = true ∧ r.okr p ∧ r.okm (p ++ [0]) ∧ (C.st = true → (c.isScalar && y.isScalar) = true), if c.isScalar && y.isScalar then σ1.mod s (r.upd (p ++ [0]) y) else σ1.bmp s (r.upd (p ++ [0]) y)) else none
            | _ => none
          | none => none
        | _ => none
      | none => none
    | none => none
  | .call ⟨.builtin .append, args, ats⟩, some d =>
    match args.toList, ats.toList with
    | [x, y], [t, t'] => if t = t' then
      match elemOf C.P t, opd C.P σ t x with
      | some e, some (gx, Ax) => match takeA σ Ax with
        | some (q, .slc true e' dd es, σ1) => match opd C.P σ1 t y with
          | some (gy, Ay) => match (zeroOf C.P e), Ay.look σ1 with
            | some _, some (.slc oy ey _ es2) =>
              if C.dst d && e == e' && e == ey && !Ay.isAg && decide (C.P.bytesOf e ≤ 65536) && decide (0 < C.P.cellsOf e) then
                (if oy && !scalP C.P e then
                  match takeA σ1 Ay with
                  | some (q2, .slc true _ _ es3, σ2) => some (gx = true ∧ q ∧ gy = true ∧ q2 ∧ es.length + es3.length ≤ 2147483647 ∧ (∀ x ∈ es3, x.solid = true) ∧ C.st = false, σ2.put d true (.val (.slc true e dd (es ++ es3))))
                  | _ => none
                else some (gx = true ∧ q ∧ gy = true ∧ Ay.okA σ1 ∧ es.length + es2.length ≤ 2147483647 ∧ (∀ x ∈ es2, x.solid = true) ∧ V.owneds es2 = false ∧ C.st = false, σ1.put d true (.val (.slc true e dd (es ++ es2)))))
              else none
            | _, _ => none
          | none => none
        | _ => none
      | _, _ => none
      else none
    | _, _ => none
  | _, _ => none
end
end Go.Ax
