/-
  Curves of one branch. No conditions but those of the contracts.
-/
import Derived.Test.YtpbkkbjgmlfloaaFgp
set_option linter.all false
namespace Go.Ax
open Go.Proofs

set_option maxRecDepth 100000 in
theorem s_spec_l01Own : Sat Try.prog 86 (c_laws_toInt64S same IsIs) := by
  intro args ps r h hp
  unfold c_laws_toInt64S at h
  split at h
  · rename_i a0
    simp only [Option.some.injEq, Prod.mk.injEq] at h
    obtain ⟨rfl, rfl⟩ := h
    obtain ⟨⟨xs, hxs⟩, hlen⟩ : IsIs a0 := (alls_cons.1 hp).1
    have hxl : a0.length = xs.length := by rw [hxs, I_length]
    refine fnOk_ofI (T := tab) (B := []) (Bi := []) [0, 2] Try.func86 rfl rfl (by kernel_rfl) (Nat.le_of_ble_eq_true rfl) mixed tabOk (by exact bookNil) (by exact bookINil) (by kernel_rfl) ?_
    intro L lp rr hL hr hf hlp
    conv => cbv
    simp only [stdEqs hL, hxl]
    rw [hr, same]
    exact ⟨by rw [hxs, I_owneds], by simp; omega, by rw [hxs]; exact I_solid xs, rfl⟩
  · cases h
set_option maxRecDepth 100000 in
theorem s_clone : Sat Try.prog 91 (c_laws_toInt64S same IsIs) := by
  intro args ps r h hp
  unfold c_laws_toInt64S at h
  split at h
  · rename_i a0
    simp only [Option.some.injEq, Prod.mk.injEq] at h
    obtain ⟨rfl, rfl⟩ := h
    obtain ⟨⟨xs, hxs⟩, hlen⟩ : IsIs a0 := (alls_cons.1 hp).1
    have hxl : a0.length = xs.length := by rw [hxs, I_length]
    refine fnOk_ofI (T := tab) (B := []) (Bi := []) [0, 2] Try.func91 rfl rfl (by kernel_rfl) (Nat.le_of_ble_eq_true rfl) mixed tabOk (by exact bookNil) (by exact bookINil) (by kernel_rfl) ?_
    intro L lp rr hL hr hf hlp
    conv => cbv
    simp only [stdEqs hL, hxl]
    have hnx : V.owneds a0 = false ∧ (([] : List V).length : Int) + xs.length ≤ 2147483647 ∧ (∀ x : V, x ∈ a0 → x.solid = true) ∧ V.slc true 2 (.int .i64 0) ([] ++ a0) = rr := by
      rw [hr, same]
      exact ⟨by rw [hxs, I_owneds], by simp; omega, by rw [hxs]; exact I_solid xs, rfl⟩
    refine ⟨fun h => ⟨fun _ => ?_, fun _ => hnx⟩, fun h => (by cases h), fun _ => hnx⟩
    have : xs = [] := by
      simp only [beq_iff_eq] at h
      exact List.eq_nil_of_length_eq_zero (by omega)
    rw [hr, same, hxs, this]
    rfl
  · cases h
set_option maxRecDepth 100000 in
theorem s_impl_copyBranch : Sat Try.prog 80 (c_b_b same IsIs) := by
  intro args ps r h hp
  unfold c_b_b at h
  split at h
  · rename_i a0
    simp only [Option.some.injEq, Prod.mk.injEq] at h
    obtain ⟨rfl, rfl⟩ := h
    have hq : IsIs a0 := (alls_cons.1 hp).1
    have q1 : IsIs (V.frzs a0) := by
      obtain ⟨⟨xs, hxs⟩, hl⟩ := hq
      rw [hxs, I_frzs, ← hxs]
      exact ⟨⟨xs, hxs⟩, hl⟩
    have g1 : V.frzs a0 = a0 := by
      obtain ⟨⟨xs, hxs⟩, hl⟩ := hq
      rw [hxs, I_frzs]
    generalize H_same : same = F_same
    generalize H_IsIs : IsIs = F_IsIs
    refine fnOk_ofI (T := tab) (B := [(91, c_laws_toInt64S F_same F_IsIs)]) (Bi := []) [0, 1, 2] Try.func80 rfl rfl (by kernel_rfl) (Nat.le_of_ble_eq_true rfl) mixed tabOk (by subst H_same H_IsIs; exact (bookCons s_clone bookNil)) (by subst H_same H_IsIs; exact bookINil) (by kernel_rfl) ?_
    intro L lp rr hL hr hf hlp
    conv => cbv
    simp only [stdEqs hL]
    subst H_same H_IsIs
    exact ⟨q1, by rw [hr, g1]⟩
  · cases h
set_option maxRecDepth 100000 in
theorem s_spec_l09Own : Sat Try.prog 65 (c_b_b same IsIs) := by
  intro args ps r h hp
  unfold c_b_b at h
  split at h
  · rename_i a0
    simp only [Option.some.injEq, Prod.mk.injEq] at h
    obtain ⟨rfl, rfl⟩ := h
    have hq : IsIs a0 := (alls_cons.1 hp).1
    have q1 : IsIs (V.frzs a0) := by
      obtain ⟨⟨xs, hxs⟩, hl⟩ := hq
      rw [hxs, I_frzs, ← hxs]
      exact ⟨⟨xs, hxs⟩, hl⟩
    have g1 : V.frzs a0 = a0 := by
      obtain ⟨⟨xs, hxs⟩, hl⟩ := hq
      rw [hxs, I_frzs]
    generalize H_same : same = F_same
    generalize H_IsIs : IsIs = F_IsIs
    refine fnOk_ofI (T := tab) (B := [(86, c_laws_toInt64S F_same F_IsIs)]) (Bi := []) [0, 1, 2] Try.func65 rfl rfl (by kernel_rfl) (Nat.le_of_ble_eq_true rfl) mixed tabOk (by subst H_same H_IsIs; exact (bookCons s_spec_l01Own bookNil)) (by subst H_same H_IsIs; exact bookINil) (by kernel_rfl) ?_
    intro L lp rr hL hr hf hlp
    conv => cbv
    simp only [stdEqs hL]
    subst H_same H_IsIs
    exact ⟨q1, by rw [hr, g1]⟩
  · cases h
theorem II_replicate (o : Bool) (n : Nat) (xs : List Int) : II o (List.replicate n xs) = List.replicate n (.slc o 2 (.int .i64 0) (I xs)) := by simp [II, List.map_replicate]
theorem II_append (o : Bool) (a b : List (List Int)) : II o (a ++ b) = II o a ++ II o b := by simp [II]
def c_cc_bool (f0 : List V → List V → List V → List V → Bool) (q : List V → List V → List V → List V → Prop) : Contract := fun
  | [.agg [.slc false 58 (.agg [.slc false 2 (.int .i64 0) []]) a0, .slc false 53 (.slc false 2 (.int .i64 0) []) a1], .agg [.slc false 58 (.agg [.slc false 2 (.int .i64 0) []]) b0, .slc false 53 (.slc false 2 (.int .i64 0) []) b1]] => some ([q a0 a1 b0 b1], .bool (f0 a0 a1 b0 b1))
  | _ => none
def f0_eqC (a0 a1 b0 b1 : List V) : Bool := f0_eqBS a0 b0 && f0_eqSS a1 b1
def q_eqC (a0 a1 b0 b1 : List V) : Prop := q_eqBS a0 b0 ∧ q_eqSS a1 b1
theorem frzs_BB {a : List V} (h : IsBB false a) : V.frzs a = a := by
  obtain ⟨l, rfl⟩ := h
  rw [BB_frzs]
theorem frzs_II {a : List V} (h : IsII false a) : V.frzs a = a := by
  obtain ⟨l, rfl⟩ := h
  rw [II_frzs]
set_option maxRecDepth 100000 in
theorem s_laws_eqCurve : Sat Try.prog 9 (c_cc_bool f0_eqC q_eqC) := by
  intro args ps r h hp
  unfold c_cc_bool at h
  split at h
  · rename_i a0 a1 b0 b1
    simp only [Option.some.injEq, Prod.mk.injEq] at h
    obtain ⟨rfl, rfl⟩ := h
    obtain ⟨h0, h1⟩ : q_eqC a0 a1 b0 b1 := (alls_cons.1 hp).1
    have g := frzs_BB h0.1
    have g' := frzs_BB h0.2
    have g2 := frzs_II h1.1
    have g2' := frzs_II h1.2
    have hf0 : f0_eqC a0 a1 b0 b1 = (f0_eqBS a0 b0 && f0_eqSS a1 b1) := rfl
    generalize H_f0_eqBS : f0_eqBS = F_f0_eqBS
    generalize H_q_eqBS : q_eqBS = F_q_eqBS
    generalize H_f0_eqSS : f0_eqSS = F_f0_eqSS
    generalize H_q_eqSS : q_eqSS = F_q_eqSS
    refine fnOk_ofI (T := tab) (B := [(26, c_eqBS F_f0_eqBS F_q_eqBS), (27, c_eqSS F_f0_eqSS F_q_eqSS)]) (Bi := []) [0, 1, 2, 3, 4] Try.func9 rfl rfl (by kernel_rfl) (Nat.le_of_ble_eq_true rfl) mixed tabOk (by subst H_f0_eqBS H_q_eqBS H_f0_eqSS H_q_eqSS; exact (bookCons s_laws_eqBranchS (bookCons s_laws_eqInt64SS bookNil))) (by subst H_f0_eqBS H_q_eqBS H_f0_eqSS H_q_eqSS; exact bookINil) (by kernel_rfl) ?_
    intro L lp rr hL hr hf hlp
    conv => cbv
    simp only [stdEqs hL, g, g', g2, g2']
    subst H_f0_eqBS H_q_eqBS H_f0_eqSS H_q_eqSS
    rw [hr, hf0]
    refine ⟨h0, fun h => ?_, fun h => ⟨h1, fun h' => ?_, fun h' => ?_⟩⟩
    · simp only [Bool.not_eq_true'] at h; rw [h]; rfl
    · simp only [Bool.not_eq_true', Bool.not_eq_false'] at h h'; rw [h, h']; rfl
    · simp only [Bool.not_eq_false'] at h h'; rw [h, h']; rfl
  · cases h
def f0_markC (a0 a1 : List V) (k : Int) : Int := f0_markSS a1 (f0_markBS a0 k)
def f1_markC (a0 _ : List V) (k : Int) : List V := f1_markBS a0 k
def f2_markC (a0 a1 : List V) (k : Int) : List V := f1_markSS a1 (f0_markBS a0 k)
def q_markC (a0 a1 : List V) (k : Int) : Prop := q_markBO a0 k ∧ q_markO a1 (f0_markBS a0 k)
def f0_heldC (a0 a1 : List V) (k : Int) : Int := bif decide (f0_heldBS a0 k < 0) then -1 else f0_heldSS a1 (f0_heldBS a0 k)
def q_heldC (a0 a1 : List V) (k : Int) : Prop := q_markBF a0 k ∧ IsII false a1 ∧ k + tot (unBB a0) + tot (unII a1) ≤ 9223372036854775807
theorem tot_marksGo : ∀ (l : List (List Int)) (k : Int), tot (marksGo k l) = tot l
  | [], _ => rfl
  | x :: l, k => by simp only [marksGo, tot, marks_len, tot_marksGo l]
theorem marksGo_idem : ∀ (l : List (List Int)) (k : Int), marksGo k (marksGo k l) = marksGo k l
  | [], _ => rfl
  | x :: l, k => by simp only [marksGo, marks_len, marksGo_idem l]
theorem curve_keys (bs ms : List (List Int)) (h : tot bs + tot ms ≤ 4611686018427387904) :
    V.noFzs (BB true bs) = true ∧ V.noFzs (II true ms) = true ∧ q_eqC (BB false bs) (II false ms) (BB false bs) (II false ms) ∧ f0_eqC (BB false bs) (II false ms) (BB false bs) (II false ms) = true ∧
    q_markC (BB true bs) (II true ms) 1 ∧ f0_markC (BB true bs) (II true ms) 1 = 1 + tot bs + tot ms ∧ f1_markC (BB true bs) (II true ms) 1 = BB true (marksGo 1 bs) ∧ f2_markC (BB true bs) (II true ms) 1 = II true (marksGo (1 + tot bs) ms) ∧
    V.frzs (BB true bs) = BB false bs ∧ V.frzs (II true ms) = II false ms ∧ V.frzs (BB true (marksGo 1 bs)) = BB false (marksGo 1 bs) ∧ V.frzs (II true (marksGo (1 + tot bs) ms)) = II false (marksGo (1 + tot bs) ms) ∧
    q_heldC (BB false (marksGo 1 bs)) (II false (marksGo (1 + tot bs) ms)) 1 ∧ f0_heldC (BB false (marksGo 1 bs)) (II false (marksGo (1 + tot bs) ms)) 1 = 1 + tot bs + tot ms := by
  have e : f0_markBS (BB true bs) 1 = 1 + tot bs := by rw [f0_markBS, unBB_BB]
  have e' : f0_heldBS (BB false (marksGo 1 bs)) 1 = 1 + tot bs := by rw [f0_heldBS, unBB_BB, marksGo_idem, if_pos rfl, tot_marksGo]
  refine ⟨BB_noFzs _, II_noFzs _, ⟨⟨⟨_, rfl⟩, ⟨_, rfl⟩⟩, ⟨_, rfl⟩, ⟨_, rfl⟩⟩, by simp [f0_eqC, f0_eqBS, f0_eqSS], ⟨⟨⟨_, rfl⟩, by omega, by rw [unBB_BB]; omega⟩, ?_⟩, by rw [f0_markC, e, f0_markSS, unII_II], by rw [f1_markC, f1_markBS, unBB_BB],
    by rw [f2_markC, e, f1_markSS, unII_II], BB_frzs _ _, II_frzs _ _, BB_frzs _ _, II_frzs _ _, ⟨⟨⟨_, rfl⟩, by omega, by rw [unBB_BB, tot_marksGo]; omega⟩, ⟨_, rfl⟩, by rw [unBB_BB, unII_II, tot_marksGo, tot_marksGo]; omega⟩, ?_⟩
  · rw [e]
    exact ⟨⟨_, rfl⟩, by omega, by rw [unII_II]; omega⟩
  · have hn : decide ((1 : Int) + tot bs < 0) = false := by simp; omega
    rw [f0_heldC, e', hn, cond_false, f0_heldSS, unII_II, marksGo_idem, if_pos rfl, tot_marksGo]
end Go.Ax
