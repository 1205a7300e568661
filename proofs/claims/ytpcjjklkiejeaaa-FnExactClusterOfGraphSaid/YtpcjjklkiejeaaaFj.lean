/-
  Polar invariants. No conditions but those of the contracts.
-/
import Derived.Test.YtpcjjklkiejeaaaFi
set_option linter.all false
namespace Go.Ax
open Go.Proofs

def polRow (xs : List Int) (i : Nat) : List Int := [W (W (((dv xs).getD 0 0).tdiv ((dv xs).getD (i + 1) 0)) - W (((dv xs).getD 0 0).tdiv ((dv xs).getD i 0))), W (W (rat xs i - 1) * genF xs (i + 1))]
def pol (xs : List Int) : List (List Int) := tab' (polRow xs) (xs.length - 1)
def c_B_mi (f : List V → List V × Int) (q : List V → Prop) : Contract := fun
  | [.agg [.slc false 2 (.int .i64 0) a0]] => some ([q a0], .tup [.slc true 22 (.slc true 2 (.int .i64 0) []) ((f a0).1), .int .i64 ((f a0).2)])
  | _ => none
def f_pol (a : List V) : List V × Int := bif isBr (unI a) then (II true (pol (unI a)), 0) else ([], 1)
/-! the law -/
theorem tot_tab (f : Nat → List Int) (c : Nat) (h : ∀ i, (f i).length = c) : ∀ n, tot (tab' f n) = n * c
  | 0 => by simp [tab_zero, tot]
  | n + 1 => by rw [tab_succ, tot_append, tot_tab f c h n, tot, h, tot, Nat.add_mul]; omega
theorem lists_keys (ms : List (List Int)) (h : tot ms ≤ 4611686018427387904) :
    V.noFzs (II true ms) = true ∧ q_eqSS (II false ms) (II false ms) ∧ f0_eqSS (II false ms) (II false ms) = true ∧ q_markO (II true ms) 1 ∧ f0_markSS (II true ms) 1 = 1 + tot ms ∧ f1_markSS (II true ms) 1 = II true (marksGo 1 ms) ∧
    V.frzs (II true ms) = II false ms ∧ V.frzs (II true (marksGo 1 ms)) = II false (marksGo 1 ms) ∧ q_markF (II false (marksGo 1 ms)) 1 ∧ f0_heldSS (II false (marksGo 1 ms)) 1 = 1 + tot ms :=
  ⟨II_noFzs _, ⟨⟨_, rfl⟩, ⟨_, rfl⟩⟩, by simp [f0_eqSS], ⟨⟨_, rfl⟩, by omega, by rw [unII_II]; omega⟩, by rw [f0_markSS, unII_II], by rw [f1_markSS, unII_II], II_frzs _ _, II_frzs _ _,
    ⟨⟨_, rfl⟩, by omega, by rw [unII_II, tot_marksGo]; omega⟩, by rw [f0_heldSS, unII_II, marksGo_idem, if_pos rfl, tot_marksGo]⟩
end Go.Ax
