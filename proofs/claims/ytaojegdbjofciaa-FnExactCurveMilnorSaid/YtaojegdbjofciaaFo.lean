/-
  Graphs: what a graph is. No conditions but those of the contracts.
-/
import Derived.Test.YtaojegdbjofciaaFn
set_option linter.all false
namespace Go.Ax
open Go.Proofs

def c_G_b (f : List V → List V → Bool) (q : List V → List V → Prop) : Contract := fun
  | [.agg [.slc false 2 (.int .i64 0) a0, .slc false 22 (.slc false 2 (.int .i64 0) []) a1]] => some ([q a0 a1], .bool (f a0 a1))
  | _ => none
def f_isGr (ws es : List V) : Bool := isGr (unI ws) (unII es)
def q_G (ws es : List V) : Prop := IsI ws ∧ IsII false es
/-- the edge ahead -/
def prevE (es : List (List Int)) (k : Nat) : Option (List Int) := match k with
  | 0 => none
  | k + 1 => some (es.getD k [])
theorem edOk_iff {n : Nat} {es : List (List Int)} {k : Nat} {e : List Int} : edOk n (prevE es k) e = true ↔ e.length = 2 ∧ 0 ≤ e0 e ∧ e0 e < e1 e ∧ e1 e < n ∧ (0 < k → lexLt (es.getD (k - 1) []) e = true) := by
  cases k with
  | zero => simp [edOk, prevE, and_assoc]
  | succ k => simp [edOk, prevE, and_assoc]
theorem within_false {xs : List Int} {a b : Int} {i : Nat} (h : i < xs.length) (hx : inRange (xs.getD i 0) a b = false) : within xs a b = false := by
  rw [within, List.all_eq_false]
  refine ⟨xs.getD i 0, ?_, by rw [hx]; simp⟩
  rw [List.getD_eq_getElem?_getD, List.getElem?_eq_getElem h]
  exact List.getElem_mem _
theorem edsOk_step {n : Nat} {es : List (List Int)} {k : Nat} (h : k < es.length) : edsOk n (prevE es k) (es.drop k) = (edOk n (prevE es k) (es.getD k []) && edsOk n (prevE es (k + 1)) (es.drop (k + 1))) := by
  rw [drop_cons [] h]; rfl
/-! the law -/
def yesG (_ _ : List V) : Bool := true
theorem szGo_ok : ∀ (l : List (List Int)) (left : Int), 0 ≤ left → left ≤ 1048576 → (∀ x ∈ l, x.length ≤ 9223372036854775807) → ¬ szGo l left < 0 → tot l ≤ left ∧ ∀ x ∈ l, x.length ≤ 1048576
  | [], left, h, _, _, _ => ⟨by simpa [tot] using h, fun x hx => by cases hx⟩
  | x :: l, left, h, h2, hl, hs => by
    have hx := hl x (by simp)
    have e1 : IntKind.wrap .i64 (left - x.length) = left - x.length := wrap_id (by omega) (by omega)
    have e2 : szL x.length left = bif decide (left - x.length < 0) then -1 else left - x.length := by rw [szL, e1]
    simp only [szGo] at hs
    by_cases h3 : left - (x.length : Int) < 0
    · rw [e2, decide_eq_true h3] at hs
      simp at hs
    · rw [e2, decide_eq_false h3, cond_false, decide_eq_false h3, cond_false] at hs
      obtain ⟨h4, h5⟩ := szGo_ok l _ (by omega) (by omega) (fun y hy => hl y (by simp [hy])) hs
      refine ⟨by simp only [tot]; omega, fun y hy => ?_⟩
      rcases List.mem_cons.1 hy with rfl | hy
      · omega
      · exact h5 y hy
theorem szSS_ok {l : List (List Int)} {left : Int} (h : 0 ≤ left) (h2 : left ≤ 1048576) (hl0 : l.length ≤ 9223372036854775807) (hl : ∀ x ∈ l, x.length ≤ 9223372036854775807) (hs : ¬ szSS l left < 0) : l.length ≤ 1048576 ∧ tot l ≤ 1048576 ∧ ∀ x ∈ l, x.length ≤ 1048576 := by
  have e1 : IntKind.wrap .i64 (left - l.length) = left - l.length := wrap_id (by omega) (by omega)
  unfold szSS at hs
  rw [show W (left - l.length) = left - l.length from e1] at hs
  by_cases h3 : left - (l.length : Int) < 0
  · rw [decide_eq_true h3] at hs
    simp at hs
  · rw [decide_eq_false h3, cond_false] at hs
    obtain ⟨h4, h5⟩ := szGo_ok l _ (by omega) (by omega) hl hs
    exact ⟨by omega, by omega, h5⟩
theorem lenOks_mem {o : Bool} {xss : List (List Int)} (h : V.lenOks (II o xss)) : ∀ x ∈ xss, x.length ≤ 9223372036854775807 := by
  intro x hx
  obtain ⟨i, hi, rfl⟩ := List.mem_iff_getElem.1 hx
  have := lenOks_II h i hi
  rwa [List.getD_eq_getElem?_getD, List.getElem?_eq_getElem hi] at this
/-- a graph that is not too large -/
theorem szG_ok {a0 a1 : List V} (h1 : IsII false a1) (hf0 : a0.length ≤ 9223372036854775807) (hf1 : a1.length ≤ 9223372036854775807) (hf2 : V.lenOks a1) (h0 : IsI a0) (h : decide (f_szG a0 a1 1048576 < 0) = false) : q_cpG a0 a1 ∧ a0.length ≤ 1048576 ∧ tot (unII a1) ≤ 1048576 := by
  obtain ⟨es, hes⟩ := h1
  subst hes
  rw [II_length] at hf1
  unfold f_szG at h
  have e1 : IntKind.wrap .i64 ((1048576 : Int) - a0.length) = 1048576 - a0.length := wrap_id (by omega) (by omega)
  have e2 : szL a0.length 1048576 = bif decide ((1048576 : Int) - a0.length < 0) then (-1 : Int) else (1048576 : Int) - a0.length := by rw [szL, e1]
  by_cases h3 : (1048576 : Int) - a0.length < 0
  · rw [e2, decide_eq_true h3] at h
    simp at h
  · rw [e2, decide_eq_false h3, cond_false, decide_eq_false h3, cond_false, unII_II, decide_eq_false_iff_not] at h
    obtain ⟨h4, h5, h6⟩ := szSS_ok (by omega) (by omega) hf1 (lenOks_mem hf2) h
    refine ⟨⟨⟨h0, by omega⟩, es, rfl, by omega, fun x hx => by have := h6 x hx; omega⟩, by omega, by rw [unII_II]; exact h5⟩
theorem graph_keys (ws : List Int) (es : List (List Int)) : q_eqG (I ws) (II false es) (I ws) (II false es) ∧ f_eqG (I ws) (II false es) (I ws) (II false es) = true ∧ V.frzs (II true es) = II false es :=
  ⟨⟨⟨⟨_, rfl⟩, ⟨_, rfl⟩⟩, ⟨_, rfl⟩, ⟨_, rfl⟩⟩, by simp [f_eqG, f0_eqI, f0_eqSS], II_frzs _ _⟩
end Go.Ax
