/-
  Curves of one branch. No conditions but those of the contracts.
-/
import Derived.Test.YtpcjjklkiejeaaaFg
set_option linter.all false
namespace Go.Ax
open Go.Proofs

set_option maxRecDepth 100000 in
theorem s_spec_l01Own : Sat Try.prog 44 (c_laws_toInt64S same IsIs) := by
  intro args ps r h hp
  unfold c_laws_toInt64S at h
  split at h
  · rename_i a0
    simp only [Option.some.injEq, Prod.mk.injEq] at h
    obtain ⟨rfl, rfl⟩ := h
    obtain ⟨⟨xs, hxs⟩, hlen⟩ : IsIs a0 := (alls_cons.1 hp).1
    have hxl : a0.length = xs.length := by rw [hxs, I_length]
    refine fnOk_ofI (T := tab) (B := []) (Bi := []) [0, 2] Try.func44 rfl rfl (by kernel_rfl) (Nat.le_of_ble_eq_true rfl) mixed tabOk (by exact bookNil) (by exact bookINil) (by kernel_rfl) ?_
    intro L lp rr hL hr hf hlp
    conv => cbv
    simp only [stdEqs hL, hxl]
    rw [hr, same]
    exact ⟨by rw [hxs, I_owneds], by simp; omega, by rw [hxs]; exact I_solid xs, rfl⟩
  · cases h
set_option maxRecDepth 100000 in
theorem s_clone : Sat Try.prog 56 (c_laws_toInt64S same IsIs) := by
  intro args ps r h hp
  unfold c_laws_toInt64S at h
  split at h
  · rename_i a0
    simp only [Option.some.injEq, Prod.mk.injEq] at h
    obtain ⟨rfl, rfl⟩ := h
    obtain ⟨⟨xs, hxs⟩, hlen⟩ : IsIs a0 := (alls_cons.1 hp).1
    have hxl : a0.length = xs.length := by rw [hxs, I_length]
    refine fnOk_ofI (T := tab) (B := []) (Bi := []) [0, 2] Try.func56 rfl rfl (by kernel_rfl) (Nat.le_of_ble_eq_true rfl) mixed tabOk (by exact bookNil) (by exact bookINil) (by kernel_rfl) ?_
    intro L lp rr hL hr hf hlp
    conv => cbv
    simp only [stdEqs hL, hxl]
    have hnx : V.owneds a0 = false ∧ (([] : List V).length : Int) + xs.length ≤ 2147483647 ∧ (∀ x : V, x ∈ a0 → x.solid = true) ∧ V.slc true 2 (.int .i64 0) ([] ++ a0) = rr := by
      rw [hr, same]
      exact ⟨by rw [hxs, I_owneds], by simp; omega, by rw [hxs]; exact I_solid xs, rfl⟩
    refine ⟨fun h => ⟨fun _ => ?_, fun _ => hnx⟩, fun h => (by cases h), fun _ => hnx⟩
    have : xs = [] := by
      simp only [beq_iff_eq] at h
      exact List.eq_nil_of_length_eq_zero (by omega)
    rw [hr, same, hxs, this]
    rfl
  · cases h
def c_n_ll (f0 : Int → List V) (q : Int → Prop) : Contract := fun
  | [.int .i64 a0] => some ([q a0], .slc true 22 (.slc true 2 (.int .i64 0) []) (f0 a0))
  | _ => none
def f0_square (n : Int) : List V := II true (List.replicate n.toNat (List.replicate n.toNat 0))
def q_n (n : Int) : Prop := 0 ≤ n ∧ n ≤ 2147483647
theorem II_replicate (o : Bool) (n : Nat) (xs : List Int) : II o (List.replicate n xs) = List.replicate n (.slc o 2 (.int .i64 0) (I xs)) := by simp [II, List.map_replicate]
theorem II_append (o : Bool) (a b : List (List Int)) : II o (a ++ b) = II o a ++ II o b := by simp [II]
theorem set_at {α : Type} (a b : List α) (x y : α) (i : Nat) (h : a.length = i) : (a ++ x :: b).set i y = a ++ y :: b := by
  rw [List.set_append_right _ _ (by omega), ← h, Nat.sub_self, List.set_cons_zero]
theorem rep_step {α : Type} (n i : Nat) (h : i < n) (x y : α) : (List.replicate i y ++ List.replicate (n - i) x).set i y = List.replicate (i + 1) y ++ List.replicate (n - (i + 1)) x := by
  have : n - i = (n - (i + 1)) + 1 := by omega
  rw [this, List.replicate_succ, set_at _ _ _ _ _ (by simp)]
  rw [List.replicate_succ', List.append_assoc]
  rfl
def f0_cob (es : List V) : List V := BB true (bif isBr (unI es) then [unI es] else [])
def f1_cob (es : List V) : List V := II true (bif isBr (unI es) then [[0]] else [])
def f2_cob (es : List V) : Int := bif isBr (unI es) then 0 else 1
/-! curves: comparison, marks -/
def f0_eqC (a0 a1 b0 b1 : List V) : Bool := f0_eqBS a0 b0 && f0_eqSS a1 b1
def q_eqC (a0 a1 b0 b1 : List V) : Prop := q_eqBS a0 b0 ∧ q_eqSS a1 b1
theorem frzs_BB {a : List V} (h : IsBB false a) : V.frzs a = a := by
  obtain ⟨l, rfl⟩ := h
  rw [BB_frzs]
theorem frzs_II {a : List V} (h : IsII false a) : V.frzs a = a := by
  obtain ⟨l, rfl⟩ := h
  rw [II_frzs]
def f0_markC (a0 a1 : List V) (k : Int) : Int := f0_markSS a1 (f0_markBS a0 k)
def f1_markC (a0 _ : List V) (k : Int) : List V := f1_markBS a0 k
def f2_markC (a0 a1 : List V) (k : Int) : List V := f1_markSS a1 (f0_markBS a0 k)
def q_markC (a0 a1 : List V) (k : Int) : Prop := q_markBO a0 k ∧ q_markO a1 (f0_markBS a0 k)
theorem Sh.agg2 {x y x' y' : V} (h : Sh x y) (h' : Sh x' y') : Sh (.agg [x, x']) (.agg [y, y']) := by
  refine .agg _ _ rfl (fun i a b ha hb => ?_)
  match i with
  | 0 => simp at ha hb; subst ha; subst hb; exact h
  | 1 => simp at ha hb; subst ha; subst hb; exact h'
  | i + 2 => simp at ha
def f0_heldC (a0 a1 : List V) (k : Int) : Int := bif decide (f0_heldBS a0 k < 0) then -1 else f0_heldSS a1 (f0_heldBS a0 k)
def q_heldC (a0 a1 : List V) (k : Int) : Prop := q_markBF a0 k ∧ IsII false a1 ∧ k + tot (unBB a0) + tot (unII a1) ≤ 9223372036854775807
theorem tot_marksGo : ∀ (l : List (List Int)) (k : Int), tot (marksGo k l) = tot l
  | [], _ => rfl
  | x :: l, k => by simp only [marksGo, tot, marks_len, tot_marksGo l]
theorem marksGo_idem : ∀ (l : List (List Int)) (k : Int), marksGo k (marksGo k l) = marksGo k l
  | [], _ => rfl
  | x :: l, k => by simp only [marksGo, marks_len, marksGo_idem l]
theorem curve_keys (bs ms : List (List Int)) (h : tot bs + tot ms ≤ 4611686018427387904) :
    V.noFzs (BB true bs) = true ∧ V.noFzs (II true ms) = true ∧ q_eqC (BB false bs) (II false ms) (BB false bs) (II false ms) ∧ f0_eqC (BB false bs) (II false ms) (BB false bs) (II false ms) = true ∧
    q_markC (BB true bs) (II true ms) 1 ∧ f0_markC (BB true bs) (II true ms) 1 = 1 + tot bs + tot ms ∧ f1_markC (BB true bs) (II true ms) 1 = BB true (marksGo 1 bs) ∧ f2_markC (BB true bs) (II true ms) 1 = II true (marksGo (1 + tot bs) ms) ∧
    V.frzs (BB true bs) = BB false bs ∧ V.frzs (II true ms) = II false ms ∧ V.frzs (BB true (marksGo 1 bs)) = BB false (marksGo 1 bs) ∧ V.frzs (II true (marksGo (1 + tot bs) ms)) = II false (marksGo (1 + tot bs) ms) ∧
    q_heldC (BB false (marksGo 1 bs)) (II false (marksGo (1 + tot bs) ms)) 1 ∧ f0_heldC (BB false (marksGo 1 bs)) (II false (marksGo (1 + tot bs) ms)) 1 = 1 + tot bs + tot ms := by
  have e : f0_markBS (BB true bs) 1 = 1 + tot bs := by rw [f0_markBS, unBB_BB]
  have e' : f0_heldBS (BB false (marksGo 1 bs)) 1 = 1 + tot bs := by rw [f0_heldBS, unBB_BB, marksGo_idem, if_pos rfl, tot_marksGo]
  refine ⟨BB_noFzs _, II_noFzs _, ⟨⟨⟨_, rfl⟩, ⟨_, rfl⟩⟩, ⟨_, rfl⟩, ⟨_, rfl⟩⟩, by simp [f0_eqC, f0_eqBS, f0_eqSS], ⟨⟨⟨_, rfl⟩, by omega, by rw [unBB_BB]; omega⟩, ?_⟩, by rw [f0_markC, e, f0_markSS, unII_II], by rw [f1_markC, f1_markBS, unBB_BB],
    by rw [f2_markC, e, f1_markSS, unII_II], BB_frzs _ _, II_frzs _ _, BB_frzs _ _, II_frzs _ _, ⟨⟨⟨_, rfl⟩, by omega, by rw [unBB_BB, tot_marksGo]; omega⟩, ⟨_, rfl⟩, by rw [unBB_BB, unII_II, tot_marksGo, tot_marksGo]; omega⟩, ?_⟩
  · rw [e]
    exact ⟨⟨_, rfl⟩, by omega, by rw [unII_II]; omega⟩
  · have hn : decide ((1 : Int) + tot bs < 0) = false := by simp; omega
    rw [f0_heldC, e', hn, cond_false, f0_heldSS, unII_II, marksGo_idem, if_pos rfl, tot_marksGo]
theorem ints_keys (l : List Int) (hl : l.length ≤ 2147483647) : IsIs (I l) ∧ q_eqI (I l) (I l) ∧ f0_eqI (I l) (I l) = true ∧ q_mark (I l) 1 ∧ q_mark (I (marks l.length 1)) 1 ∧ f0_held (I (marks l.length 1)) 1 = 1 + l.length ∧ f0_mark (I l) 1 = 1 + l.length ∧ f1_mark (I l) 1 = I (marks l.length 1) :=
  ⟨⟨⟨l, rfl⟩, by rw [I_length]; omega⟩, ⟨⟨l, rfl⟩, ⟨l, rfl⟩⟩, by simp [f0_eqI], ⟨⟨l, rfl⟩, by omega, by rw [I_length]; omega⟩, ⟨⟨_, rfl⟩, by omega, by rw [I_length, marks_len]; omega⟩,
    by rw [f0_held, unI_I, I_length, marks_len, if_pos rfl], by rw [f0_mark, I_length], by rw [f1_mark, I_length]⟩

/-! the law -/
def c_b_law (f0 : List V → Bool) (q : List V → Prop) : Contract := fun
  | [.agg [.slc false 2 (.int .i64 0) a0]] => some ([q a0], .bool (f0 a0))
  | _ => none
def yes1 (_ : List V) : Bool := true
end Go.Ax
