/-
  AX, part TC: calls that write into one argument.
-/
import Derived.Test.YtlibillidihopaaAxTB
namespace Go.Ax
open Go.RowKit

/-- THE CONTRACT OF A FUNCTION THAT WRITES INTO ITS ARGUMENT j: behind the call that argument's memory reads as y, under the same headers -/
def FnIO (P : Program) (k : FuncId) (j : Nat) (args : List V) (r y : V) : Prop :=
  Callable P k ∧ (∃ x, args[j]? = some x ∧ Sh x y) ∧
  ∀ (vals : Array Value) (w : World) (F Oj : Nat → Prop) (css : Nat → List Value), vals.size = args.length →
    (∀ (i : Nat) (x : V), args[i]? = some x → x.reg (css i) (vals.getD i undef) ∧ Rep P.cellsOf w F x (css i) (if i = j then Oj else fun _ => False)) →
    (∀ b, F b → b < w.heap.size) → (∀ b, Oj b → b < w.heap.size ∧ ¬ F b) →
    Calls P k vals w (fun e w' => ∃ (v : Value) (cs : List Value) (On Fr Xn : Nat → Prop), e = .returned v ∧ r.reg cs v ∧ Rep P.cellsOf w' (fun b => F b ∨ Fr b) r cs On ∧
      y.reg (css j) (vals.getD j undef) ∧ Rep P.cellsOf w' (fun b => F b ∨ Fr b) y (css j) Xn ∧ Chg w w' Oj On Fr Xn)

def IOk (C : Ctx) : Prop := ∀ k j c args q r y, C.Ψ k = some (j, c) → c args = some (q, r, y) → q → FnIO C.P k j args r y

/-- neither a struct nor a tuple -/
def V.leaf : V → Bool
  | .agg _ => false
  | .tup _ => false
  | .hole _ => false
  | _ => true
/-- a struct that was read, and the struct as it lies: one of the other's kind -/
def agOk : List V → List V → Bool
  | [], [] => true
  | f :: fs, g :: gs => (f.size == g.size) && ((f.owned && f.isH && g.isH) || (!f.owned && f.leaf && !g.owned)) && agOk fs gs
  | _, _ => false
/-- the argument: what lies there now, for its own parts -/
def mrg : List V → List V → List V
  | f :: fs, g :: gs => (if f.owned then g else f) :: mrg fs gs
  | _, _ => []
/-- what lies there behind the call -/
def mrgB : List V → List V → List V → List V
  | f :: fs, g :: gs, x :: xs => (if f.owned then x else g) :: mrgB fs gs xs
  | _, _, _ => []

/-- an operand that goes out to be written into: under which condition, what it is, the environment without it, and with it again -/
def ioOut (σ : Env) : A → Option (Prop × V × Env × (V → Env))
  | .rf s ver p => match σ.own s ver with
    | some r => match p with
      | [] => if r.isH then some (True, r, σ.drp s, fun y => σ.mod s y) else none
      | i :: p' => some (r.okm (i :: p') ∧ (r.at (i :: p')).isH = true, r.at (i :: p'), σ.mod s (r.upd (i :: p') (.hole (r.at (i :: p')).size)), fun y => σ.mod s (r.upd (i :: p') y))
    | none => none
  | .ag s ver p fs => match σ.own s ver with
    | some r => match r.at p with
      | .agg gs => if agOk fs gs then some (r.okm p, .agg (mrg fs gs), σ.mod s (r.upd p (.hole (r.at p).size)), fun y => match y with
          | .agg xs => σ.mod s (r.upd p (.agg (mrgB fs gs xs)))
          | _ => σ) else none
      | _ => none
    | none => none
  | _ => none

theorem agOk_len : ∀ {fs gs : List V}, agOk fs gs = true → fs.length = gs.length ∧ (∀ (i : Nat) (f g : V), fs[i]? = some f → gs[i]? = some g → f.size = g.size ∧ ((f.owned = true ∧ f.isH = true ∧ g.isH = true) ∨ (f.owned = false ∧ f.leaf = true ∧ g.owned = false)))
  | [], [], _ => ⟨rfl, fun i f g h => by simp at h⟩
  | f :: fs, g :: gs, h => by
    simp only [agOk, Bool.and_eq_true, Bool.or_eq_true, beq_iff_eq, Bool.not_eq_true'] at h
    obtain ⟨⟨h1, h2⟩, h3⟩ := h
    obtain ⟨e1, e2⟩ := agOk_len h3
    refine ⟨by simp [e1], fun i f' g' a b => ?_⟩
    cases i with
    | zero =>
      simp only [List.getElem?_cons_zero, Option.some.injEq] at a b
      subst a; subst b
      refine ⟨h1, ?_⟩
      rcases h2 with h2 | h2
      · exact .inl ⟨h2.1.1, h2.1.2, h2.2⟩
      · exact .inr ⟨h2.1.1, h2.1.2, h2.2⟩
    | succ i => exact e2 i f' g' (by simpa using a) (by simpa using b)
  | [], _ :: _, h => by simp [agOk] at h
  | _ :: _, [], h => by simp [agOk] at h

theorem mrg_get : ∀ {fs gs : List V}, fs.length = gs.length → (mrg fs gs).length = fs.length ∧ ∀ (i : Nat) (f g : V), fs[i]? = some f → gs[i]? = some g → (mrg fs gs)[i]? = some (if f.owned then g else f)
  | [], [], _ => ⟨rfl, fun i f g h => by simp at h⟩
  | f :: fs, g :: gs, h => by
    obtain ⟨e1, e2⟩ := mrg_get (fs := fs) (gs := gs) (by simpa using h)
    refine ⟨by simp [mrg, e1], fun i f' g' a b => ?_⟩
    cases i with
    | zero =>
      simp only [List.getElem?_cons_zero, Option.some.injEq] at a b
      subst a; subst b
      rfl
    | succ i => simpa [mrg] using e2 i f' g' (by simpa using a) (by simpa using b)
  | [], _ :: _, h => by simp at h
  | _ :: _, [], h => by simp at h
theorem mrgB_get : ∀ {fs gs xs : List V}, fs.length = gs.length → xs.length = gs.length → (mrgB fs gs xs).length = gs.length ∧ ∀ (i : Nat) (f g x : V), fs[i]? = some f → gs[i]? = some g → xs[i]? = some x → (mrgB fs gs xs)[i]? = some (if f.owned then x else g)
  | [], [], [], _, _ => ⟨rfl, fun i f g x h => by simp at h⟩
  | f :: fs, g :: gs, x :: xs, h, h' => by
    obtain ⟨e1, e2⟩ := mrgB_get (fs := fs) (gs := gs) (xs := xs) (by simpa using h) (by simpa using h')
    refine ⟨by simp [mrgB, e1], fun i f' g' x' a b c => ?_⟩
    cases i with
    | zero =>
      simp only [List.getElem?_cons_zero, Option.some.injEq] at a b c
      subst a; subst b; subst c
      rfl
    | succ i => simpa [mrgB] using e2 i f' g' x' (by simpa using a) (by simpa using b) (by simpa using c)
  | [], _ :: _, _, h, _ => by simp at h
  | _ :: _, [], _, h, _ => by simp at h
  | [], [], _ :: _, _, h => by simp at h
  | _ :: _, _ :: _, [], _, h => by simp at h

theorem offs_eq {l l' : List V} (hl : l.length = l'.length) (h : ∀ (i : Nat) (x y : V), l[i]? = some x → l'[i]? = some y → x.size = y.size) : (∀ i, V.offs l i = V.offs l' i) ∧ V.sizes l = V.sizes l' := by
  have := sizes_congr hl h
  exact ⟨fun i => offs_congr this i, by simp only [V.sizes_map, this]⟩

section
variable {C : Ctx} {F : Nat → Prop} {O : Nat → Nat → Prop} {Z : Nat → Prop} {σ σ' σ1 : Env} {a : Act} {w w' : World}

theorem ioOut_sound (hI : Inv C F O (fun _ => False) σ a w) {A : A} {v : Value} {q : Prop} {x : V} {back : V → Env} (hh : Holds C.cz w F σ a.tmps A v) (ho : ioOut σ A = some (q, x, σ1, back)) (hq : q) :
    ∃ cs Oy, x.reg cs v ∧ Rep C.cz w F x cs Oy ∧ (∀ z, Oy z → z < w.heap.size ∧ ¬ F z) ∧ (∃ O1, Inv C F O1 Oy σ1 a w) ∧
      ∀ (w' : World) (On Fr Xn : Nat → Prop) (y : V), Chg w w' Oy On Fr Xn → Rep C.cz w' (fun b => F b ∨ Fr b) y cs Xn → y.reg cs v → Sh x y → ∃ O', Inv C (fun b => F b ∨ Fr b) O' On (back y) a w' := by
  cases A with
  | rf s ver p =>
    simp only [ioOut] at ho
    split at ho
    · rename_i r hr
      obtain ⟨hg, _, ha⟩ := Env.own_elim hr
      split at ho
      · split at ho
        · rename_i hH
          simp only [Option.some.injEq, Prod.mk.injEq] at ho
          obtain ⟨_, rfl, rfl, rfl⟩ := ho
          have hv : v = a.tmps.getD s undef := hh r _ hr (by cases r <;> trivial) rfl
          subst hv
          exact io_root hI hg ha (by cases r <;> simp_all [V.isH, V.owned])
        · cases ho
      · rename_i i p'
        simp only [Option.some.injEq, Prod.mk.injEq] at ho
        obtain ⟨rfl, rfl, rfl, rfl⟩ := ho
        obtain ⟨hm, hH⟩ := hq
        obtain ⟨hp, hna, hok⟩ := V.okm_okp hm
        obtain ⟨b, o, cy, Oy, g1, g2, g3, g4, g5, g6⟩ := io_part hI hg ha hok hp hna
        obtain ⟨u, rfl, _⟩ := isHdr_of_isH g3 hH
        have hc := g2 0 u rfl
        simp only [Nat.add_zero] at hc
        have hvu : v = u := hh r u hr (V.okv_of_okp hok) (by rw [hdrV_okm hm, if_pos hH, g1]; exact hc)
        subst hvu
        refine ⟨[v], Oy, ?_, g3, g4, g5, fun w' On Fr Xn y hc hy _ hsh => g6 w' On Fr Xn y hc hy hsh⟩
        revert hH
        cases r.at (i :: p') <;> simp [V.isH, V.reg]
    · cases ho
  | ag s ver p fs =>
    simp only [ioOut] at ho
    split at ho
    · rename_i r hr
      obtain ⟨hg, _, ha⟩ := Env.own_elim hr
      split at ho
      · rename_i gs hat
        split at ho
        · rename_i hok0
          simp only [Option.some.injEq, Prod.mk.injEq] at ho
          obtain ⟨rfl, rfl, rfl, rfl⟩ := ho
          obtain ⟨hp, hna, hok⟩ := V.okm_okp hq
          obtain ⟨b, o, cy, Oy, g1, g2, g3, g4, g5, g6⟩ := io_part hI hg ha hok hp hna
          rw [hat] at g3 g6
          obtain ⟨l1, l2⟩ := agOk_len hok0
          obtain ⟨m1, m2⟩ := mrg_get l1
          obtain ⟨o1, o2⟩ := offs_eq l1 (fun i f g hf hg => (l2 i f g hf hg).1)
          have msz : ∀ (i : Nat) (x y : V), (mrg fs gs)[i]? = some x → gs[i]? = some y → x.size = y.size := by
            intro i x g hx hgi
            have hil := (List.getElem?_eq_some_iff.1 hgi).1
            have hfi : fs[i]? = some (fs[i]'(by omega)) := List.getElem?_eq_getElem (by omega)
            rw [m2 i _ g hfi hgi] at hx
            simp only [Option.some.injEq] at hx
            subst hx
            split
            · rfl
            · exact (l2 i _ g hfi hgi).1
          obtain ⟨o3, o4⟩ := offs_eq (l := mrg fs gs) (l' := gs) (by omega) msz
          obtain ⟨cs, hv, hcp⟩ := hh
          cases g3 with
          | agg _ _ Os _ hn hOs hdis hrr =>
            -- the copy's cells
            have cells : cs.length = V.sizes fs ∧ ∀ (i : Nat) (f : V), fs[i]? = some f → Cp (fun q h => ∀ r h', σ.own s ver = some r → r.okv q → hdrV C.cz w q r (a.tmps.getD s undef) = some h' → h' = h) (fun y c => Rep C.cz w F y c (fun _ => False)) f (p ++ [i]) ((cs.drop (V.offs fs i)).take f.size) := by
              cases hcp with
              | val _ _ _ hx hrep hl =>
                refine ⟨hl, fun i f hf => ?_⟩
                have hfo : f.owned = false := by
                  simp only [V.owned, V.owneds_eq, List.any_eq_false] at hx
                  simpa using hx f (List.mem_of_getElem? hf)
                cases hrep with
                | agg _ _ Os' _ hn' hOs' hdis' hrr' =>
                  exact .val f _ _ hfo ((hrr' i f hf).mono (fun _ h => h) (fun b hb => hOs' i b hb)) (by
                    have := V.offs_succ_le hf
                    rw [List.length_take, List.length_drop]
                    omega)
              | hd _ _ h hx => simp [V.isH] at hx
              | agg _ _ _ hn' h' => exact ⟨hn', h'⟩
            obtain ⟨cl, cf⟩ := cells
            have field : ∀ (i : Nat) (f g : V), fs[i]? = some f → gs[i]? = some g → (f.owned = true → (cs.drop (V.offs gs i)).take g.size = (cy.drop (V.offs gs i)).take g.size) ∧ (f.owned = false → Rep C.cz w F f ((cs.drop (V.offs gs i)).take g.size) (fun _ => False)) := by
              intro i f g hf hgi
              have hcf := cf i f hf
              rw [(l2 i f g hf hgi).1, o1 i] at hcf
              have hrg := hrr i g hgi
              refine ⟨fun hfo => ?_, fun hfo => ?_⟩
              · rcases (l2 i f g hf hgi).2 with ⟨_, hfH, hgH⟩ | ⟨h', _⟩
                · generalize hseg : (cs.drop (V.offs gs i)).take g.size = seg at hcf ⊢
                  obtain ⟨u, hu, _⟩ := isHdr_of_isH hrg hgH
                  rw [hu]
                  cases hcf with
                  | val _ _ _ hx => rw [hfo] at hx; cases hx
                  | hd _ _ h hx hpp =>
                    have hil := (List.getElem?_eq_some_iff.1 hgi).1
                    have hgs : g.size = 1 := by rw [← hrg.length, hu]; rfl
                    have hou : cy[V.offs gs i]? = some u := by
                      have : ((cy.drop (V.offs gs i)).take g.size)[0]? = some u := by rw [hu]; rfl
                      rw [List.getElem?_take, hgs] at this
                      simpa using this
                    have hcell := g2 _ u hou
                    have hokp : r.okp (p ++ [i]) := (V.okp_append p [i] r).2 ⟨hok, by rw [hat]; exact ⟨hil, trivial⟩⟩
                    have hati : r.at (p ++ [i]) = g := by rw [V.at_append, hat]; simp only [V.at, V.kid]; exact getD_of_some hgi
                    have hkm : r.okm (p ++ [i]) := by
                      cases p with
                      | nil => exact absurd rfl hp
                      | cons j p => cases r <;> first | exact hokp | exact hokp.1.elim | exact absurd rfl (hna _)
                    have := hpp r u hr (V.okv_of_okp hokp) (by
                      rw [hdrV_okm hkm, hati, if_pos hgH, locV_append C.cz w hp, g1, hat]
                      simp only [Option.bind_some, locM]
                      exact hcell)
                    rw [this]
                  | agg fs' _ _ _ _ => simp [V.isH] at hfH
                · rw [hfo] at h'; cases h'
              · rcases (l2 i f g hf hgi).2 with ⟨h', _⟩ | ⟨_, hlf, _⟩
                · rw [hfo] at h'; cases h'
                · generalize (cs.drop (V.offs gs i)).take g.size = seg at hcf ⊢
                  cases hcf with
                  | val _ _ _ hx hrep => exact hrep
                  | hd _ _ h hx => exfalso; cases f <;> simp_all [V.isH, V.owned]
                  | agg fs' _ _ _ _ => simp [V.leaf] at hlf
            have hcl : cs.length = V.sizes gs := by rw [cl, o2]
            refine ⟨cs, Oy, hv, ?_, g4, g5, fun w' On Fr Xn y hc hy hyr hsh => ?_⟩
            · refine .agg (mrg fs gs) cs Os Oy (by rw [hcl, o4]) hOs hdis (fun i x hx => ?_)
              have hil := (List.getElem?_eq_some_iff.1 hx).1
              have hgi : gs[i]? = some (gs[i]'(by omega)) := List.getElem?_eq_getElem (by omega)
              have hfi : fs[i]? = some (fs[i]'(by omega)) := List.getElem?_eq_getElem (by omega)
              obtain ⟨f1, f2⟩ := field i _ _ hfi hgi
              rw [o3 i, msz i x _ hx hgi]
              rw [m2 i _ _ hfi hgi] at hx
              simp only [Option.some.injEq] at hx
              subst hx
              cases hfo : (fs[i]'(by omega)).owned with
              | true =>
                rw [f1 hfo]
                exact hrr i _ hgi
              | false => exact (f2 hfo).mono (fun _ h => h) (fun _ h => h.elim)
            · -- back
              have hyx : ∃ xs, y = .agg xs ∧ xs.length = gs.length ∧ ∀ (i : Nat) (x z : V), (mrg fs gs)[i]? = some x → xs[i]? = some z → Sh x z := by
                cases hsh with
                | refl => exact ⟨_, rfl, by omega, fun i x z h1 h2 => by rw [h1] at h2; cases h2; exact .refl _⟩
                | scal _ _ h1 => simp [V.isScalar] at h1
                | agg _ es' hl' h => exact ⟨es', rfl, by omega, h⟩
              obtain ⟨xs, rfl, hxl, hxs⟩ := hyx
              obtain ⟨b1, b2⟩ := mrgB_get l1 hxl
              have hcell2 : ∀ (i : Nat) (f g x : V), fs[i]? = some f → gs[i]? = some g → xs[i]? = some x → f.owned = true → Sh g x := by
                intro i f g x h1 h2 h3 hfo
                have := m2 i f g h1 h2
                rw [if_pos hfo] at this
                exact hxs i g x this h3
              have hshB : Sh (.agg gs) (.agg (mrgB fs gs xs)) := by
                refine .agg gs _ (by omega) (fun i g z h1 h2 => ?_)
                have hil := (List.getElem?_eq_some_iff.1 h1).1
                have hfi : fs[i]? = some (fs[i]'(by omega)) := List.getElem?_eq_getElem (by omega)
                have hxi : xs[i]? = some (xs[i]'(by omega)) := List.getElem?_eq_getElem (by omega)
                rw [b2 i _ g _ hfi h1 hxi] at h2
                simp only [Option.some.injEq] at h2
                subst h2
                split
                · rename_i hfo; exact hcell2 i _ g _ hfi h1 hxi hfo
                · exact .refl g
              obtain ⟨ob1, ob2⟩ := offs_eq (l := gs) (l' := mrgB fs gs xs) (by omega) (fun i x z h1 h2 => by
                obtain ⟨_, hsz⟩ : True ∧ x.size = z.size := by
                  have hil := (List.getElem?_eq_some_iff.1 h1).1
                  have hfi : fs[i]? = some (fs[i]'(by omega)) := List.getElem?_eq_getElem (by omega)
                  have hxi : xs[i]? = some (xs[i]'(by omega)) := List.getElem?_eq_getElem (by omega)
                  rw [b2 i _ x _ hfi h1 hxi] at h2
                  simp only [Option.some.injEq] at h2
                  subst h2
                  split
                  · rename_i hfo; exact ⟨trivial, (hcell2 i _ x _ hfi h1 hxi hfo).facts.1⟩
                  · exact ⟨trivial, rfl⟩
                exact hsz)
              obtain ⟨ox1, ox2⟩ := offs_eq (l := mrg fs gs) (l' := xs) (by omega) (fun i x z h1 h2 => (hxs i x z h1 h2).facts.1)
              cases hy with
              | agg _ _ Oz _ hn2 hOz hdz hrz =>
                refine g6 w' On Fr Xn _ hc (.agg _ cy (fun i b => Oz i b) Xn (by rw [hn, ob2]) hOz hdz (fun i z hz => ?_)) hshB
                have hil := (List.getElem?_eq_some_iff.1 hz).1
                have hgi : gs[i]? = some (gs[i]'(by omega)) := List.getElem?_eq_getElem (by omega)
                have hfi : fs[i]? = some (fs[i]'(by omega)) := List.getElem?_eq_getElem (by omega)
                have hxi : xs[i]? = some (xs[i]'(by omega)) := List.getElem?_eq_getElem (by omega)
                rw [b2 i _ _ _ hfi hgi hxi] at hz
                simp only [Option.some.injEq] at hz
                subst hz
                rw [← ob1 i]
                cases hfo : (fs[i]'(by omega)).owned with
                | true =>
                  simp only [if_true]
                  have hsx := (hcell2 i _ _ _ hfi hgi hxi hfo).facts.1
                  rw [← hsx, ← (field i _ _ hfi hgi).1 hfo]
                  have := hrz i _ hxi
                  rw [← ox1 i, o3 i, ← hsx] at this
                  exact this
                | false =>
                  simp only [Bool.false_eq_true, if_false]
                  have hgo : (gs[i]'(by omega)).owned = false := by
                    rcases (l2 i _ _ hfi hgi).2 with ⟨h', _⟩ | ⟨_, _, h'⟩
                    · rw [hfo] at h'; cases h'
                    · exact h'
                  have h1 := (hrr i _ hgi).unowned hgo
                  exact ((h1.world (fun b hb => hb.elim (hc.fz hI (fun b hb => (g4 b hb).2) b) False.elim)).mono (fun _ h => .inl h) (fun _ h => h.elim))
        · cases ho
      · cases ho
    · cases ho
  | _ => simp [ioOut] at ho
end
end Go.Ax
