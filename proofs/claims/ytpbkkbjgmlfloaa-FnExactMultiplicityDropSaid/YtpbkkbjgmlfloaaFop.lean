/-
  Graphs: what a graph is. No conditions but those of the contracts.
-/
import Derived.Test.YtpbkkbjgmlfloaaFnp
set_option linter.all false
namespace Go.Ax
open Go.Proofs

theorem szGo_ok : ∀ (l : List (List Int)) (left : Int), 0 ≤ left → left ≤ 1048576 → (∀ x ∈ l, x.length ≤ 9223372036854775807) → ¬ szGo l left < 0 → tot l ≤ left ∧ ∀ x ∈ l, x.length ≤ 1048576
  | [], left, h, _, _, _ => ⟨by simpa [tot] using h, fun x hx => by cases hx⟩
  | x :: l, left, h, h2, hl, hs => by
    have hx := hl x (by simp)
    have e1 : IntKind.wrap .i64 (left - x.length) = left - x.length := wrap_id (by omega) (by omega)
    have e2 : szL x.length left = bif decide (left - x.length < 0) then -1 else left - x.length := by rw [szL, e1]
    simp only [szGo] at hs
    by_cases h3 : left - (x.length : Int) < 0
    · rw [e2, decide_eq_true h3] at hs
      simp at hs
    · rw [e2, decide_eq_false h3, cond_false, decide_eq_false h3, cond_false] at hs
      obtain ⟨h4, h5⟩ := szGo_ok l _ (by omega) (by omega) (fun y hy => hl y (by simp [hy])) hs
      refine ⟨by simp only [tot]; omega, fun y hy => ?_⟩
      rcases List.mem_cons.1 hy with rfl | hy
      · omega
      · exact h5 y hy
theorem szSS_ok {l : List (List Int)} {left : Int} (h : 0 ≤ left) (h2 : left ≤ 1048576) (hl0 : l.length ≤ 9223372036854775807) (hl : ∀ x ∈ l, x.length ≤ 9223372036854775807) (hs : ¬ szSS l left < 0) : l.length ≤ 1048576 ∧ tot l ≤ 1048576 ∧ ∀ x ∈ l, x.length ≤ 1048576 := by
  have e1 : IntKind.wrap .i64 (left - l.length) = left - l.length := wrap_id (by omega) (by omega)
  unfold szSS at hs
  rw [show W (left - l.length) = left - l.length from e1] at hs
  by_cases h3 : left - (l.length : Int) < 0
  · rw [decide_eq_true h3] at hs
    simp at hs
  · rw [decide_eq_false h3, cond_false] at hs
    obtain ⟨h4, h5⟩ := szGo_ok l _ (by omega) (by omega) hl hs
    exact ⟨by omega, by omega, h5⟩
theorem lenOks_mem {o : Bool} {xss : List (List Int)} (h : V.lenOks (II o xss)) : ∀ x ∈ xss, x.length ≤ 9223372036854775807 := by
  intro x hx
  obtain ⟨i, hi, rfl⟩ := List.mem_iff_getElem.1 hx
  have := lenOks_II h i hi
  rwa [List.getD_eq_getElem?_getD, List.getElem?_eq_getElem hi] at this
end Go.Ax
