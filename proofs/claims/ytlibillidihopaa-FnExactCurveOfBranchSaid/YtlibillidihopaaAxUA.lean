/-
  AX, part UA: regions that keep the text's order; calls that write into one argument may stand there.
-/
import Derived.Test.YtlibillidihopaaAxU
namespace Go.Ax
open Go.RowKit

def StepL (C : Ctx) (ops : Array Oper) (σ : Env) (o : Oper) (r : Prop × Env) : Prop :=
  lstep C ops σ o = some r ∨ wstep C σ o = some r ∨ istep C σ o = some r ∨ bstep C σ o = some r ∨ mstep C σ o = some r

def evO (C : Ctx) (ops : Array Oper) : List Oper → Env → (Env → Prop) → Prop
  | o :: l, σ, K => (∃ p σ', StepL C ops σ o (p, σ') ∧ p ∧ evO C ops l σ' K) ∨
      ∃ d q es, nilCmp C σ o = some (d, q, es) ∧ q ∧ ∀ b : Bool, (es ≠ [] → b = false) → evO C ops l (σ.put d true (.val (.bool b))) K
  | [], σ, K => K σ

section
variable {C : Ctx} {F : Nat → Prop} {O : Nat → Nat → Prop} {Z : Nat → Prop} {σ σ' : Env} {a : Act} {w w' : World} {ops : Array Oper}

theorem stepL_sound (hC : CtxOk C) (hIO : IOk C) {o : Oper} {i : Nat} (hi : ops[i]? = some o) {p : Prop} (h : StepL C ops σ o (p, σ')) (hp : p) {Q : Exit → Act → World → Prop} (hG : G C σ a w) : wpOp C.P ops Q i (G C σ') a w := by
  obtain ⟨F, O, hI⟩ := hG
  have fin : o.guard = none ∧ o.wp C.P a w (G C σ') Q → wpOp C.P ops Q i (G C σ') a w := by
    rintro ⟨hg, hw⟩
    unfold wpOp
    rw [hi]
    dsimp only
    rw [show Region.wanted o (yielded ops a.tmps) = true from by unfold Region.wanted; rw [hg]]
    exact .inl hw
  rcases h with h | h | h | h | h
  · exact lstep_sound hC hI hi h hp
  · exact wstep_sound hI hi h hp
  · exact fin (istep_sound hIO hI h hp)
  · exact fin (bstep_sound hI h hp)
  · exact fin (mstep_sound hI h hp)

theorem evO_ops (hC : CtxOk C) (hIO : IOk C) {K : Env → Prop} {Q : Exit → Act → World → Prop} (hK : ∀ σ a w, K σ → G C σ a w → Q .normal a w) : ∀ (l : List Oper) (k : Nat) (σ : Env) (a : Act) (w : World), (∀ j, l[j]? = ops[k + j]?) → evO C ops l σ K → G C σ a w →
    wpOps C.P ops Q ((List.range l.length).map (k + ·)) a w
  | [], k, σ, a, w, _, h, hG => hK σ a w h hG
  | o :: l, k, σ, a, w, hl, h, hG => by
    have hi : ops[k]? = some o := by simpa using (hl 0).symm
    have e : (List.range (o :: l).length).map (k + ·) = k :: (List.range l.length).map (k + 1 + ·) := by
      rw [List.length_cons, List.range_succ_eq_map]
      simp only [List.map_cons, List.map_map, Nat.add_zero, List.cons.injEq, true_and]
      apply List.map_congr_left
      intro j _
      simp only [Function.comp]
      omega
    have hl' : ∀ j, l[j]? = ops[k + 1 + j]? := fun j => by have := hl (j + 1); simpa [Nat.add_assoc, Nat.add_comm 1 j] using this
    rw [e, wpOps_cons]
    rcases h with ⟨p, σ', hs, hpp, hk⟩ | ⟨d, q, es, hn, hq, hk⟩
    · exact wpOp_mono (fun a' w' hG' => evO_ops hC hIO hK l (k + 1) σ' a' w' hl' hk hG') (stepL_sound hC hIO hi hs hpp hG)
    · obtain ⟨F, O, hI⟩ := hG
      obtain ⟨hg, hw⟩ := nilCmp_sound hI hn hq (Q := Q)
      have : wpOp C.P ops Q k (fun a' w' => ∃ b : Bool, (es ≠ [] → b = false) ∧ G C (σ.put d true (.val (.bool b))) a' w') a w := by
        unfold wpOp
        rw [hi]
        dsimp only
        rw [show Region.wanted o (yielded ops a.tmps) = true from by unfold Region.wanted; rw [hg]]
        exact .inl hw
      exact wpOp_mono (fun a' w' ⟨b, hb, hG'⟩ => evO_ops hC hIO hK l (k + 1) _ a' w' hl' (hk b hb) hG') this

/-- a region in the text's order -/
theorem region_text (hC : CtxOk C) (hIO : IOk C) {id : Nat} {K : Env → Prop} {Q : Exit → Act → World → Prop} (hG : G C σ a w) (h : evO C ops ops.toList σ K)
    (hK : ∀ σ a w, K σ → G C σ a w → Q .normal a w) : (Code.region id ops false).wp C.P Q a w := by
  refine wp_region ?_
  have := evO_ops hC hIO (Q := Q) hK ops.toList 0 σ a w (fun j => by simp) h hG
  simpa using this
end
end Go.Ax
