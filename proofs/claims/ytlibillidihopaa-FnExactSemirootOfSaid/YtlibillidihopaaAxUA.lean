/-
  AX, part UA: regions that keep the text's order; calls that write into one argument may stand there.
-/
import Derived.Test.YtlibillidihopaaAxU
namespace Go.Ax
open Go.RowKit

def stepL (C : Ctx) (ops : Array Oper) (σ : Env) (o : Oper) : Option (Prop × Env) :=
  match lstep C ops σ o with
  | some r => some r
  | none => match wstep C σ o with
    | some r => some r
    | none => match istep C σ o with
      | some r => some r
      | none => bstep C σ o

def evO (C : Ctx) (ops : Array Oper) : List Oper → Env → (Env → Prop) → Prop
  | o :: l, σ, K => match stepL C ops σ o with
    | some (p, σ') => p ∧ evO C ops l σ' K
    | none => False
  | [], σ, K => K σ

section
variable {C : Ctx} {F : Nat → Prop} {O : Nat → Nat → Prop} {Z : Nat → Prop} {σ σ' : Env} {a : Act} {w w' : World} {ops : Array Oper}

theorem stepL_sound (hC : CtxOk C) (hIO : IOk C) {o : Oper} {i : Nat} (hi : ops[i]? = some o) {p : Prop} (h : stepL C ops σ o = some (p, σ')) (hp : p) {Q : Exit → Act → World → Prop} (hG : G C σ a w) : wpOp C.P ops Q i (G C σ') a w := by
  obtain ⟨F, O, hI⟩ := hG
  unfold stepL at h
  split at h
  · rename_i r hr
    simp only [Option.some.injEq] at h
    subst h
    exact lstep_sound hC hI hi hr hp
  · split at h
    · rename_i r hr
      simp only [Option.some.injEq] at h
      subst h
      exact wstep_sound hI hi hr hp
    · have fin : o.guard = none ∧ o.wp C.P a w (G C σ') Q → wpOp C.P ops Q i (G C σ') a w := by
        rintro ⟨hg, hw⟩
        unfold wpOp
        rw [hi]
        dsimp only
        rw [show Region.wanted o (yielded ops a.tmps) = true from by unfold Region.wanted; rw [hg]]
        exact .inl hw
      split at h
      · rename_i r hr
        simp only [Option.some.injEq] at h
        subst h
        exact fin (istep_sound hIO hI hr hp)
      · exact fin (bstep_sound hI h hp)

theorem evO_ops (hC : CtxOk C) (hIO : IOk C) {K : Env → Prop} {Q : Exit → Act → World → Prop} (hK : ∀ σ a w, K σ → G C σ a w → Q .normal a w) : ∀ (l : List Oper) (k : Nat) (σ : Env) (a : Act) (w : World), (∀ j, l[j]? = ops[k + j]?) → evO C ops l σ K → G C σ a w →
    wpOps C.P ops Q ((List.range l.length).map (k + ·)) a w
  | [], k, σ, a, w, _, h, hG => hK σ a w h hG
  | o :: l, k, σ, a, w, hl, h, hG => by
    simp only [evO] at h
    split at h
    · rename_i p σ' hs
      have hi : ops[k]? = some o := by simpa using (hl 0).symm
      have e : (List.range (o :: l).length).map (k + ·) = k :: (List.range l.length).map (k + 1 + ·) := by
        rw [List.length_cons, List.range_succ_eq_map]
        simp only [List.map_cons, List.map_map, Nat.add_zero, List.cons.injEq, true_and]
        apply List.map_congr_left
        intro j _
        simp only [Function.comp]
        omega
      rw [e, wpOps_cons]
      exact wpOp_mono (fun a' w' hG' => evO_ops hC hIO hK l (k + 1) σ' a' w' (fun j => by have := hl (j + 1); simpa [Nat.add_assoc, Nat.add_comm 1 j] using this) h.2 hG') (stepL_sound hC hIO hi hs h.1 hG)
    · exact h.elim

/-- a region in the text's order -/
theorem region_text (hC : CtxOk C) (hIO : IOk C) {id : Nat} {K : Env → Prop} {Q : Exit → Act → World → Prop} (hG : G C σ a w) (h : evO C ops ops.toList σ K)
    (hK : ∀ σ a w, K σ → G C σ a w → Q .normal a w) : (Code.region id ops false).wp C.P Q a w := by
  refine wp_region ?_
  have := evO_ops hC hIO (Q := Q) hK ops.toList 0 σ a w (fun j => by simp) h hG
  simpa using this
end
end Go.Ax
