/-
  Curves of one branch. No conditions but those of the contracts.
-/
import Derived.Test.YtlbmgfiepmhjhaaFgp
set_option linter.all false
namespace Go.Ax
open Go.Proofs

theorem II_replicate (o : Bool) (n : Nat) (xs : List Int) : II o (List.replicate n xs) = List.replicate n (.slc o 2 (.int .i64 0) (I xs)) := by simp [II, List.map_replicate]
theorem set_at {α : Type} (a b : List α) (x y : α) (i : Nat) (h : a.length = i) : (a ++ x :: b).set i y = a ++ y :: b := by
  rw [List.set_append_right _ _ (by omega), ← h, Nat.sub_self, List.set_cons_zero]
theorem frzs_II {a : List V} (h : IsII false a) : V.frzs a = a := by
  obtain ⟨l, rfl⟩ := h
  rw [II_frzs]
theorem Sh.agg2 {x y x' y' : V} (h : Sh x y) (h' : Sh x' y') : Sh (.agg [x, x']) (.agg [y, y']) := by
  refine .agg _ _ rfl (fun i a b ha hb => ?_)
  match i with
  | 0 => simp at ha hb; subst ha; subst hb; exact h
  | 1 => simp at ha hb; subst ha; subst hb; exact h'
  | i + 2 => simp at ha
theorem ints_keys (l : List Int) (hl : l.length ≤ 2147483647) : IsIs (I l) ∧ q_eqI (I l) (I l) ∧ f0_eqI (I l) (I l) = true ∧ q_mark (I l) 1 ∧ q_mark (I (marks l.length 1)) 1 ∧ f0_held (I (marks l.length 1)) 1 = 1 + l.length ∧ f0_mark (I l) 1 = 1 + l.length ∧ f1_mark (I l) 1 = I (marks l.length 1) :=
  ⟨⟨⟨l, rfl⟩, by rw [I_length]; omega⟩, ⟨⟨l, rfl⟩, ⟨l, rfl⟩⟩, by simp [f0_eqI], ⟨⟨l, rfl⟩, by omega, by rw [I_length]; omega⟩, ⟨⟨_, rfl⟩, by omega, by rw [I_length, marks_len]; omega⟩,
    by rw [f0_held, unI_I, I_length, marks_len, if_pos rfl], by rw [f0_mark, I_length], by rw [f1_mark, I_length]⟩

end Go.Ax
