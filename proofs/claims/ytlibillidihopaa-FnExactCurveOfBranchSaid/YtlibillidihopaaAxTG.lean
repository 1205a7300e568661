/-
  AX, part TG: a slice against nil: what the answer is, is not known of a slice without elements.
-/
import Derived.Test.YtlibillidihopaaAxTF
import Derived.WalkLawsBesides
import Derived.Lib.SliceRun
namespace Go.Ax
open Go.RowKit

def nilCmp (C : Ctx) (σ : Env) (o : Oper) : Option (Nat × Prop × List V) :=
  match o.guard, o.op, o.dst with
  | none, .binOp .eql xt x (.const (.slice none 0 0)) _, some d => match elemOf C.P xt, opd C.P σ xt x with
    | some _, some (gx, A) => if A.isAg then none else (match A.look σ with
      | some (.slc _ _ _ es) => if C.dst d then some (d, gx = true ∧ A.okA σ, es) else none
      | _ => none)
    | _, _ => none
  | _, _, _ => none

section
variable {C : Ctx} {F : Nat → Prop} {O : Nat → Nat → Prop} {Z : Nat → Prop} {σ σ' σ1 : Env} {a : Act} {w w' : World}

theorem nilCmp_sound (hI : Inv C F O (fun _ => False) σ a w) {o : Oper} {d : Nat} {q : Prop} {es : List V} (h : nilCmp C σ o = some (d, q, es)) (hq : q) {Q : Exit → Act → World → Prop} :
    o.guard = none ∧ o.wp C.P a w (fun a' w' => ∃ b : Bool, (es ≠ [] → b = false) ∧ G C (σ.put d true (.val (.bool b))) a' w') Q := by
  unfold nilCmp at h
  split at h
  · rename_i xt x yt d' hg hop hd
    refine ⟨hg, ?_⟩
    split at h
    · rename_i e gx A he hA
      split at h
      · cases h
      rename_i hna
      split at h
      · rename_i oo ee dd es' hlk
        split at h
        · rename_i hdd
          simp only [Option.some.injEq, Prod.mk.injEq] at h
          obtain ⟨rfl, rfl, rfl⟩ := h
          have hh := (opd_sound hI hA hq.1).1
          have src : ∃ u Oy, a.eval x = u ∧ Rep C.cz w F (.slc oo ee dd es') [u] Oy := by
            cases A with
            | val z' =>
              simp only [A.look, Option.some.injEq] at hlk
              subst hlk
              obtain ⟨cs, e1, e2⟩ := hh
              have hl := e2.length
              match cs, hl with
              | [u], _ => exact ⟨u, _, e1, e2⟩
            | rf s ver pp =>
              simp only [A.look, Option.map_eq_some_iff] at hlk
              obtain ⟨r, hr, hrat⟩ := hlk
              have hk := hq.2
              simp only [A.okA, hr] at hk
              obtain ⟨cs, Oy, e1, e2, _⟩ := rf_sound hI hh hr hk
              rw [hrat] at e1 e2
              have hl := e2.length
              match cs, hl with
              | [u], _ => exact ⟨u, Oy, e1, e2⟩
            | ag => simp [A.isAg] at hna
            | ad => simp [A.look] at hlk
            | fz => simp [A.look] at hlk
          obtain ⟨u, Oy, hu, hrep⟩ := src
          have hv : ∃ ad len cap, u = .slice ad len cap ∧ (es' ≠ [] → ad.isNone = false) := by
            cases hrep with
            | fz0 => exact ⟨_, _, _, rfl, fun h => absurd rfl h⟩
            | fz => exact ⟨_, _, _, rfl, fun _ => rfl⟩
            | own0 => exact ⟨_, _, _, rfl, fun h => absurd rfl h⟩
            | own => exact ⟨_, _, _, rfl, fun _ => rfl⟩
          obtain ⟨ad, len, cap, rfl, hne⟩ := hv
          have hrun : (execOp a.eval o).run C.P w = .ok (.value (.bool ad.isNone)) w := by
            have hc : a.eval (.const (.slice none 0 0)) = .slice none 0 0 := rfl
            have hguard : eqGuard .eql xt x (.const (.slice none 0 0)) (.slice ad len cap) (.slice none 0 0) = pure () := rfl
            simp only [execOp, hop, hu, hc, hguard, Sem.run_bind, Sem.run_pure, Result.andThen_ok]
            rw [Lib.run_eql_slice_nil w xt e ad len cap 0 0 (elemOf_und he)]
            rfl
          unfold Oper.wp
          rw [hrun, Oper.upon_value, hd]
          exact ⟨ad.isNone, hne, F, _, (hI.putVal (by rw [hI.ts]; exact hdd.2) (.inl hdd.1) (g := true) (x := .bool ad.isNone) (v := .bool ad.isNone) (cs := [.bool ad.isNone]) (On := fun _ => False) (fun _ => ⟨rfl, .bool ..⟩) (fun _ h => h) (by simp)).lessZ (fun _ h => h.elim)⟩
        · cases h
      · cases h
    · cases h
  · cases h
end
end Go.Ax
