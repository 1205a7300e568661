/-
  Graphs held. No conditions but those of the contracts.
-/
import Derived.Test.YtfconfdlkonfnaaFp
set_option linter.all false
namespace Go.Ax
open Go.Proofs

theorem held_len {a : List V} {k : Int} (h : decide (f0_held a k < 0) = false) : f0_held a k = k + a.length := by
  unfold f0_held at h ⊢
  split at h
  · rename_i hh; rw [if_pos hh]
  · simp at h
/-! graphs held -/
def f0_heldG (a b : List V) (k : Int) : Int := bif decide (f0_held a k < 0) then -1 else f0_heldSS b (f0_held a k)
def q_heldG (a b : List V) (k : Int) : Prop := IsI a ∧ IsII false b ∧ 0 ≤ k ∧ k + a.length + tot (unII b) ≤ 9223372036854775807
set_option maxRecDepth 100000 in
theorem s_laws_heldGraph : Sat Try.prog 12 (c_Gi_i f0_heldG q_heldG) := by
  intro args ps r h hp
  unfold c_Gi_i at h
  split at h
  · rename_i a0 a1 k
    simp only [Option.some.injEq, Prod.mk.injEq] at h
    obtain ⟨rfl, rfl⟩ := h
    obtain ⟨h0, h1, h2, h3⟩ : q_heldG a0 a1 k := (alls_cons.1 hp).1
    have g := h0.frz
    have g2 := frzs_II h1
    have hf0 : f0_heldG a0 a1 k = bif decide (f0_held a0 k < 0) then -1 else f0_heldSS a1 (f0_held a0 k) := rfl
    generalize H_f0_held : f0_held = F_f0_held
    generalize H_q_mark : q_mark = F_q_mark
    generalize H_f0_heldSS : f0_heldSS = F_f0_heldSS
    generalize H_q_markF : q_markF = F_q_markF
    refine fnOk_ofI (T := tab) (B := [(19, c_heldInt64S F_f0_held F_q_mark), (34, c_heldSS F_f0_heldSS F_q_markF)]) (Bi := []) [0, 1, 2, 4] Try.func12 rfl rfl (by kernel_rfl) (Nat.le_of_ble_eq_true rfl) mixed tabOk (by subst H_f0_held H_q_mark H_f0_heldSS H_q_markF; exact (bookCons s_laws_heldInt64S (bookCons s_laws_heldInt64SS bookNil))) (by subst H_f0_held H_q_mark H_f0_heldSS H_q_markF; exact bookINil) (by kernel_rfl) ?_
    intro L lp rr hL hr hf hlp
    conv => cbv
    simp only [stdEqs hL, g, g2]
    subst H_f0_held H_q_mark H_f0_heldSS H_q_markF
    rw [hr, hf0]
    refine ⟨⟨h0, h2, by omega⟩, fun h => ?_, fun h => ⟨?_, fun h' => ?_, fun h' => ?_⟩⟩
    · rw [h]; rfl
    · rw [held_len h]
      exact ⟨h1, by omega, by omega⟩
    · rw [h, cond_false]
      have e : f0_heldSS a1 (f0_held a0 k) = -1 := by
        simp only [decide_eq_true_eq, decide_eq_false_iff_not] at h h'
        unfold f0_heldSS at h' ⊢
        split at h'
        · omega
        · rename_i hh; rw [if_neg hh]
      rw [e]
    · rw [h, cond_false]
  · cases h
theorem graph_keys2 (ws : List Int) (es : List (List Int)) (h : ws.length + tot es ≤ 4611686018427387904) :
    q_heldG (I (marks ws.length 1)) (II false (marksGo (1 + ws.length) es)) 1 ∧ f0_heldG (I (marks ws.length 1)) (II false (marksGo (1 + ws.length) es)) 1 = 1 + ws.length + tot es := by
  have hd : f0_held (I (marks ws.length 1)) 1 = 1 + ws.length := by rw [f0_held, unI_I, I_length, marks_len, if_pos rfl]
  refine ⟨⟨⟨_, rfl⟩, ⟨_, rfl⟩, by omega, by rw [I_length, marks_len, unII_II, tot_marksGo]; omega⟩, ?_⟩
  have hn : decide ((1 : Int) + ws.length < 0) = false := by simp; omega
  rw [f0_heldG, hd, hn, cond_false, f0_heldSS, unII_II, marksGo_idem, if_pos rfl, tot_marksGo]
theorem tot_len2 : ∀ (l : List (List Int)) (m : Nat), (∀ x ∈ l, x.length = m) → tot l = l.length * m
  | [], _, _ => by simp [tot]
  | x :: l, m, h => by rw [tot, tot_len2 l m (fun y hy => h y (by simp [hy])), h x (by simp), List.length_cons, Nat.add_mul, Nat.one_mul, Nat.add_comm]
end Go.Ax
