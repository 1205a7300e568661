/-
  Graphs held. No conditions but those of the contracts.
-/
import Derived.Test.YtpcjjklkiejeaaaFp
set_option linter.all false
namespace Go.Ax
open Go.Proofs

theorem held_len {a : List V} {k : Int} (h : decide (f0_held a k < 0) = false) : f0_held a k = k + a.length := by
  unfold f0_held at h ⊢
  split at h
  · rename_i hh; rw [if_pos hh]
  · simp at h
/-! graphs held -/
def f0_heldG (a b : List V) (k : Int) : Int := bif decide (f0_held a k < 0) then -1 else f0_heldSS b (f0_held a k)
def q_heldG (a b : List V) (k : Int) : Prop := IsI a ∧ IsII false b ∧ 0 ≤ k ∧ k + a.length + tot (unII b) ≤ 9223372036854775807
theorem graph_keys2 (ws : List Int) (es : List (List Int)) (h : ws.length + tot es ≤ 4611686018427387904) :
    q_heldG (I (marks ws.length 1)) (II false (marksGo (1 + ws.length) es)) 1 ∧ f0_heldG (I (marks ws.length 1)) (II false (marksGo (1 + ws.length) es)) 1 = 1 + ws.length + tot es := by
  have hd : f0_held (I (marks ws.length 1)) 1 = 1 + ws.length := by rw [f0_held, unI_I, I_length, marks_len, if_pos rfl]
  refine ⟨⟨⟨_, rfl⟩, ⟨_, rfl⟩, by omega, by rw [I_length, marks_len, unII_II, tot_marksGo]; omega⟩, ?_⟩
  have hn : decide ((1 : Int) + ws.length < 0) = false := by simp; omega
  rw [f0_heldG, hd, hn, cond_false, f0_heldSS, unII_II, marksGo_idem, if_pos rfl, tot_marksGo]
theorem tot_len2 : ∀ (l : List (List Int)) (m : Nat), (∀ x ∈ l, x.length = m) → tot l = l.length * m
  | [], _, _ => by simp [tot]
  | x :: l, m, h => by rw [tot, tot_len2 l m (fun y hy => h y (by simp [hy])), h x (by simp), List.length_cons, Nat.add_mul, Nat.one_mul, Nat.add_comm]
end Go.Ax
