import Derived.Test.YtdkfhllofjdmaaaB05n2
/-
  Curves of one branch. No conditions but those of the contracts.
-/
set_option linter.all false
namespace Go.Ax
open Go.Proofs

set_option maxHeartbeats 1000000 in
set_option maxRecDepth 100000 in
theorem s_spec_l01Own : Sat Try.prog 45 (c_laws_toInt64S same IsIs) := by
  intro args ps r h hp
  unfold c_laws_toInt64S at h
  split at h
  · rename_i a0
    simp only [Option.some.injEq, Prod.mk.injEq] at h
    obtain ⟨rfl, rfl⟩ := h
    obtain ⟨⟨xs, hxs⟩, hlen⟩ : IsIs a0 := (alls_cons.1 hp).1
    have hxl : a0.length = xs.length := by rw [hxs, I_length]
    refine fnOk_ofI (T := tab) (B := []) (Bi := []) [0, 2] Try.func45 rfl rfl (by kernel_rfl) (Nat.le_of_ble_eq_true rfl) mixed tabOk (by exact bookNil) (by exact bookINil) (by kernel_rfl) ?_
    intro L lp rr hL hr hf hlp
    conv => cbv
    simp only [stdEqs hL, hxl]
    rw [hr, same]
    exact ⟨by rw [hxs, I_owneds], by simp; omega, by rw [hxs]; exact I_solid xs, rfl⟩
  · cases h
set_option maxHeartbeats 1000000 in
set_option maxRecDepth 100000 in
theorem s_clone : Sat Try.prog 71 (c_laws_toInt64S same IsIs) := by
  intro args ps r h hp
  unfold c_laws_toInt64S at h
  split at h
  · rename_i a0
    simp only [Option.some.injEq, Prod.mk.injEq] at h
    obtain ⟨rfl, rfl⟩ := h
    obtain ⟨⟨xs, hxs⟩, hlen⟩ : IsIs a0 := (alls_cons.1 hp).1
    have hxl : a0.length = xs.length := by rw [hxs, I_length]
    refine fnOk_ofI (T := tab) (B := []) (Bi := []) [0, 2] Try.func71 rfl rfl (by kernel_rfl) (Nat.le_of_ble_eq_true rfl) mixed tabOk (by exact bookNil) (by exact bookINil) (by kernel_rfl) ?_
    intro L lp rr hL hr hf hlp
    conv => cbv
    simp only [stdEqs hL, hxl]
    have hnx : V.owneds a0 = false ∧ (([] : List V).length : Int) + xs.length ≤ 2147483647 ∧ (∀ x : V, x ∈ a0 → x.solid = true) ∧ V.slc true 2 (.int .i64 0) ([] ++ a0) = rr := by
      rw [hr, same]
      exact ⟨by rw [hxs, I_owneds], by simp; omega, by rw [hxs]; exact I_solid xs, rfl⟩
    refine ⟨fun h => ⟨fun _ => ?_, fun _ => hnx⟩, fun h => (by cases h), fun _ => hnx⟩
    have : xs = [] := by
      simp only [beq_iff_eq] at h
      exact List.eq_nil_of_length_eq_zero (by omega)
    rw [hr, same, hxs, this]
    rfl
  · cases h
set_option maxHeartbeats 1000000 in
set_option maxRecDepth 100000 in
theorem s_impl_copyBranch : Sat Try.prog 54 (c_b_b same IsIs) := by
  intro args ps r h hp
  unfold c_b_b at h
  split at h
  · rename_i a0
    simp only [Option.some.injEq, Prod.mk.injEq] at h
    obtain ⟨rfl, rfl⟩ := h
    have hq : IsIs a0 := (alls_cons.1 hp).1
    have q1 : IsIs (V.frzs a0) := by
      obtain ⟨⟨xs, hxs⟩, hl⟩ := hq
      rw [hxs, I_frzs, ← hxs]
      exact ⟨⟨xs, hxs⟩, hl⟩
    have g1 : V.frzs a0 = a0 := by
      obtain ⟨⟨xs, hxs⟩, hl⟩ := hq
      rw [hxs, I_frzs]
    generalize H_same : same = F_same
    generalize H_IsIs : IsIs = F_IsIs
    refine fnOk_ofI (T := tab) (B := [(71, c_laws_toInt64S F_same F_IsIs)]) (Bi := []) [0, 1, 2] Try.func54 rfl rfl (by kernel_rfl) (Nat.le_of_ble_eq_true rfl) mixed tabOk (by subst H_same H_IsIs; exact (bookCons s_clone bookNil)) (by subst H_same H_IsIs; exact bookINil) (by kernel_rfl) ?_
    intro L lp rr hL hr hf hlp
    conv => cbv
    simp only [stdEqs hL]
    subst H_same H_IsIs
    exact ⟨q1, by rw [hr, g1]⟩
  · cases h
def c_n_ll (f0 : Int → List V) (q : Int → Prop) : Contract := fun
  | [.int .i64 a0] => some ([q a0], .slc true 27 (.slc true 2 (.int .i64 0) []) (f0 a0))
  | _ => none
def f0_square (n : Int) : List V := II true (List.replicate n.toNat (List.replicate n.toNat 0))
def q_n (n : Int) : Prop := 0 ≤ n ∧ n ≤ 2147483647
theorem II_replicate (o : Bool) (n : Nat) (xs : List Int) : II o (List.replicate n xs) = List.replicate n (.slc o 2 (.int .i64 0) (I xs)) := by simp [II, List.map_replicate]
theorem II_append (o : Bool) (a b : List (List Int)) : II o (a ++ b) = II o a ++ II o b := by simp [II]
theorem set_at {α : Type} (a b : List α) (x y : α) (i : Nat) (h : a.length = i) : (a ++ x :: b).set i y = a ++ y :: b := by
  rw [List.set_append_right _ _ (by omega), ← h, Nat.sub_self, List.set_cons_zero]
theorem rep_step {α : Type} (n i : Nat) (h : i < n) (x y : α) : (List.replicate i y ++ List.replicate (n - i) x).set i y = List.replicate (i + 1) y ++ List.replicate (n - (i + 1)) x := by
  have : n - i = (n - (i + 1)) + 1 := by omega
  rw [this, List.replicate_succ, set_at _ _ _ _ _ (by simp)]
  rw [List.replicate_succ', List.append_assoc]
  rfl
set_option maxHeartbeats 1000000 in
set_option maxRecDepth 100000 in
theorem s_impl_square : Sat Try.prog 53 (c_n_ll f0_square q_n) := by
  intro args ps r h hp
  unfold c_n_ll at h
  split at h
  · rename_i a0
    simp only [Option.some.injEq, Prod.mk.injEq] at h
    obtain ⟨rfl, rfl⟩ := h
    obtain ⟨h0, h1⟩ : q_n a0 := (alls_cons.1 hp).1
    refine fnOk_ofI (T := tab) (B := []) (Bi := []) [0, 2, 3, 4, 8, 9] Try.func53 rfl rfl (by kernel_rfl) (Nat.le_of_ble_eq_true rfl) mixed tabOk (by exact bookNil) (by exact bookINil) (by kernel_rfl) ?_
    intro L lp rr hL hr hf hlp
    conv => cbv
    simp only [stdEqs hL]
    refine ⟨h0, by omega, h1, ?_⟩
    have hl0 : ((List.replicate a0.toNat (V.slc true 2 (.int .i64 0) [])).length : Int) = a0 := by rw [List.length_replicate]; omega
    simp only [hl0]
    refine hlp (Int × List V) _ _ _ [0, 3, 8, 9] (fun x => [(0, none, .val (.int .i64 a0)), (3, none, .val (.slc true 27 (.slc true 2 (.int .i64 0) []) x.2)), (8, none, .val (.int .i64 a0)), (9, none, .val (.int .i64 x.1))])
      (fun x => 0 ≤ x.1 ∧ x.1 ≤ a0 ∧ x.2 = II true (List.replicate x.1.toNat (List.replicate a0.toNat 0) ++ List.replicate (a0.toNat - x.1.toNat) [])) (fun x => (a0 - x.1).toNat) (0, _) (by subst hL; rfl) ⟨by simp, h0, by simp [II_replicate]⟩ ?_
    rintro ⟨i, es⟩ ⟨i0, i1, hes⟩ hfx ag hag
    conv => cbv
    simp only at i0 i1 hes
    have hel : es.length = a0.toNat := by rw [hes, II_length]; simp; omega
    simp only [stdEqs hL, hel, decide_eq_true_eq, decide_eq_false_iff_not]
    refine ⟨fun h => ⟨h0, by omega, h1, i0, by omega, by omega, ?_, ?_⟩, fun h => ?_⟩
    · rw [hes, II_getD]; exact .inl (ok_ints _ _ _)
    · rw [wrap_id (n := i + 1) (by omega) (by omega)]
      refine hag (i + 1, _) ⟨by simp only; omega, by simp only; omega, ?_⟩ (by simp only; omega)
      simp only [toNat_succ i0]
      rw [hes, I_replicate, II_set, rep_step _ _ (by omega)]
    · have : i = a0 := by omega
      rw [hr, f0_square, hes, this, Nat.sub_self]
      simp
  · cases h
def c_cc_bool (f0 : List V → List V → List V → List V → Bool) (q : List V → List V → List V → List V → Prop) : Contract := fun
  | [.agg [.slc false 61 (.agg [.slc false 2 (.int .i64 0) []]) a0, .slc false 27 (.slc false 2 (.int .i64 0) []) a1], .agg [.slc false 61 (.agg [.slc false 2 (.int .i64 0) []]) b0, .slc false 27 (.slc false 2 (.int .i64 0) []) b1]] => some ([q a0 a1 b0 b1], .bool (f0 a0 a1 b0 b1))
  | _ => none
def f0_eqC (a0 a1 b0 b1 : List V) : Bool := f0_eqBS a0 b0 && f0_eqSS a1 b1
def q_eqC (a0 a1 b0 b1 : List V) : Prop := q_eqBS a0 b0 ∧ q_eqSS a1 b1
theorem frzs_BB {a : List V} (h : IsBB false a) : V.frzs a = a := by
  obtain ⟨l, rfl⟩ := h
  rw [BB_frzs]
theorem frzs_II {a : List V} (h : IsII false a) : V.frzs a = a := by
  obtain ⟨l, rfl⟩ := h
  rw [II_frzs]
set_option maxHeartbeats 1000000 in
set_option maxRecDepth 100000 in
theorem s_laws_eqCurve : Sat Try.prog 10 (c_cc_bool f0_eqC q_eqC) := by
  intro args ps r h hp
  unfold c_cc_bool at h
  split at h
  · rename_i a0 a1 b0 b1
    simp only [Option.some.injEq, Prod.mk.injEq] at h
    obtain ⟨rfl, rfl⟩ := h
    obtain ⟨h0, h1⟩ : q_eqC a0 a1 b0 b1 := (alls_cons.1 hp).1
    have g := frzs_BB h0.1
    have g' := frzs_BB h0.2
    have g2 := frzs_II h1.1
    have g2' := frzs_II h1.2
    have hf0 : f0_eqC a0 a1 b0 b1 = (f0_eqBS a0 b0 && f0_eqSS a1 b1) := rfl
    generalize H_f0_eqBS : f0_eqBS = F_f0_eqBS
    generalize H_q_eqBS : q_eqBS = F_q_eqBS
    generalize H_f0_eqSS : f0_eqSS = F_f0_eqSS
    generalize H_q_eqSS : q_eqSS = F_q_eqSS
    refine fnOk_ofI (T := tab) (B := [(29, c_eqBS F_f0_eqBS F_q_eqBS), (30, c_eqSS F_f0_eqSS F_q_eqSS)]) (Bi := []) [0, 1, 2, 3, 4] Try.func10 rfl rfl (by kernel_rfl) (Nat.le_of_ble_eq_true rfl) mixed tabOk (by subst H_f0_eqBS H_q_eqBS H_f0_eqSS H_q_eqSS; exact (bookCons s_laws_eqBranchS (bookCons s_laws_eqInt64SS bookNil))) (by subst H_f0_eqBS H_q_eqBS H_f0_eqSS H_q_eqSS; exact bookINil) (by kernel_rfl) ?_
    intro L lp rr hL hr hf hlp
    conv => cbv
    simp only [stdEqs hL, g, g', g2, g2']
    subst H_f0_eqBS H_q_eqBS H_f0_eqSS H_q_eqSS
    rw [hr, hf0]
    refine ⟨h0, fun h => ?_, fun h => ⟨h1, fun h' => ?_, fun h' => ?_⟩⟩
    · simp only [Bool.not_eq_true'] at h; rw [h]; rfl
    · simp only [Bool.not_eq_true', Bool.not_eq_false'] at h h'; rw [h, h']; rfl
    · simp only [Bool.not_eq_false'] at h h'; rw [h, h']; rfl
  · cases h
def ic_markC (f0 : List V → List V → Int → Int) (f1 f2 : List V → List V → Int → List V) (q : List V → List V → Int → Prop) : IContract := fun
  | [.agg [.slc true 61 (.agg [.slc true 2 (.int .i64 0) []]) a0, .slc true 27 (.slc true 2 (.int .i64 0) []) a1], .int .i64 k] => some ([q a0 a1 k], .int .i64 (f0 a0 a1 k), .agg [.slc true 61 (.agg [.slc true 2 (.int .i64 0) []]) (f1 a0 a1 k), .slc true 27 (.slc true 2 (.int .i64 0) []) (f2 a0 a1 k)])
  | _ => none
def f0_markC (a0 a1 : List V) (k : Int) : Int := f0_markSS a1 (f0_markBS a0 k)
def f1_markC (a0 _ : List V) (k : Int) : List V := f1_markBS a0 k
def f2_markC (a0 a1 : List V) (k : Int) : List V := f1_markSS a1 (f0_markBS a0 k)
def q_markC (a0 a1 : List V) (k : Int) : Prop := q_markBO a0 k ∧ q_markO a1 (f0_markBS a0 k)
theorem Sh.agg2 {x y x' y' : V} (h : Sh x y) (h' : Sh x' y') : Sh (.agg [x, x']) (.agg [y, y']) := by
  refine .agg _ _ rfl (fun i a b ha hb => ?_)
  match i with
  | 0 => simp at ha hb; subst ha; subst hb; exact h
  | 1 => simp at ha hb; subst ha; subst hb; exact h'
  | i + 2 => simp at ha
set_option maxHeartbeats 1000000 in
set_option maxRecDepth 100000 in
theorem s_laws_markCurve : SatI Try.prog 11 0 (ic_markC f0_markC f1_markC f2_markC q_markC) := by
  intro args ps r y h hp
  unfold ic_markC at h
  split at h
  · rename_i a0 a1 k
    simp only [Option.some.injEq, Prod.mk.injEq] at h
    obtain ⟨rfl, rfl, rfl⟩ := h
    obtain ⟨h0, h1⟩ : q_markC a0 a1 k := (alls_cons.1 hp).1
    have hf0 : f0_markC a0 a1 k = f0_markSS a1 (f0_markBS a0 k) := rfl
    have hf1 : f1_markC a0 a1 k = f1_markBS a0 k := rfl
    have hf2 : f2_markC a0 a1 k = f1_markSS a1 (f0_markBS a0 k) := rfl
    generalize H_f0_markBS : f0_markBS = F_f0_markBS
    generalize H_f1_markBS : f1_markBS = F_f1_markBS
    generalize H_q_markBO : q_markBO = F_q_markBO
    generalize H_f0_markSS : f0_markSS = F_f0_markSS
    generalize H_f1_markSS : f1_markSS = F_f1_markSS
    generalize H_q_markO : q_markO = F_q_markO
    refine fnIO_of (T := tab) (B := []) (Bi := [(31, 0, false, ic_markBS F_f0_markBS F_f1_markBS F_q_markBO), (32, 0, false, ic_markSS F_f0_markSS F_f1_markSS F_q_markO)]) 0 [0, 1, 2, 4] Try.func11 rfl rfl (by kernel_rfl) (Nat.le_of_ble_eq_true rfl) mixed tabOk (by subst H_f0_markBS H_f1_markBS H_q_markBO H_f0_markSS H_f1_markSS H_q_markO; exact bookNil) (by subst H_f0_markBS H_f1_markBS H_q_markBO H_f0_markSS H_f1_markSS H_q_markO; exact (bookICons s_laws_markBranchS (bookICons s_laws_markInt64SS bookINil))) (by kernel_rfl) rfl rfl rfl (by subst H_f0_markBS H_f1_markSS H_f1_markBS; obtain ⟨⟨xs, rfl⟩, _⟩ := h0; obtain ⟨⟨ys, rfl⟩, _⟩ := h1; rw [hf1, hf2]; exact Sh.agg2 (by rw [f1_markBS, unBB_BB]; exact Sh.brans xs k) (by rw [f1_markSS, unII_II]; exact Sh.lists ys _)) rfl rfl ?_
    intro L lp rr yy hL hr hy hf hlp
    conv => cbv
    subst H_f0_markBS H_f1_markBS H_q_markBO H_f0_markSS H_f1_markSS H_q_markO
    rw [hr, hy, hf0, hf1, hf2]
    exact ⟨h0, h1, rfl, rfl⟩
  · cases h
def f0_heldC (a0 a1 : List V) (k : Int) : Int := bif decide (f0_heldBS a0 k < 0) then -1 else f0_heldSS a1 (f0_heldBS a0 k)
def q_heldC (a0 a1 : List V) (k : Int) : Prop := q_markBF a0 k ∧ IsII false a1 ∧ k + tot (unBB a0) + tot (unII a1) ≤ 9223372036854775807
theorem tot_marksGo : ∀ (l : List (List Int)) (k : Int), tot (marksGo k l) = tot l
  | [], _ => rfl
  | x :: l, k => by simp only [marksGo, tot, marks_len, tot_marksGo l]
theorem marksGo_idem : ∀ (l : List (List Int)) (k : Int), marksGo k (marksGo k l) = marksGo k l
  | [], _ => rfl
  | x :: l, k => by simp only [marksGo, marks_len, marksGo_idem l]
theorem curve_keys (bs ms : List (List Int)) (h : tot bs + tot ms ≤ 4611686018427387904) :
    V.noFzs (BB true bs) = true ∧ V.noFzs (II true ms) = true ∧ q_eqC (BB false bs) (II false ms) (BB false bs) (II false ms) ∧ f0_eqC (BB false bs) (II false ms) (BB false bs) (II false ms) = true ∧
    q_markC (BB true bs) (II true ms) 1 ∧ f0_markC (BB true bs) (II true ms) 1 = 1 + tot bs + tot ms ∧ f1_markC (BB true bs) (II true ms) 1 = BB true (marksGo 1 bs) ∧ f2_markC (BB true bs) (II true ms) 1 = II true (marksGo (1 + tot bs) ms) ∧
    V.frzs (BB true bs) = BB false bs ∧ V.frzs (II true ms) = II false ms ∧ V.frzs (BB true (marksGo 1 bs)) = BB false (marksGo 1 bs) ∧ V.frzs (II true (marksGo (1 + tot bs) ms)) = II false (marksGo (1 + tot bs) ms) ∧
    q_heldC (BB false (marksGo 1 bs)) (II false (marksGo (1 + tot bs) ms)) 1 ∧ f0_heldC (BB false (marksGo 1 bs)) (II false (marksGo (1 + tot bs) ms)) 1 = 1 + tot bs + tot ms := by
  have e : f0_markBS (BB true bs) 1 = 1 + tot bs := by rw [f0_markBS, unBB_BB]
  have e' : f0_heldBS (BB false (marksGo 1 bs)) 1 = 1 + tot bs := by rw [f0_heldBS, unBB_BB, marksGo_idem, if_pos rfl, tot_marksGo]
  refine ⟨BB_noFzs _, II_noFzs _, ⟨⟨⟨_, rfl⟩, ⟨_, rfl⟩⟩, ⟨_, rfl⟩, ⟨_, rfl⟩⟩, by simp [f0_eqC, f0_eqBS, f0_eqSS], ⟨⟨⟨_, rfl⟩, by omega, by rw [unBB_BB]; omega⟩, ?_⟩, by rw [f0_markC, e, f0_markSS, unII_II], by rw [f1_markC, f1_markBS, unBB_BB],
    by rw [f2_markC, e, f1_markSS, unII_II], BB_frzs _ _, II_frzs _ _, BB_frzs _ _, II_frzs _ _, ⟨⟨⟨_, rfl⟩, by omega, by rw [unBB_BB, tot_marksGo]; omega⟩, ⟨_, rfl⟩, by rw [unBB_BB, unII_II, tot_marksGo, tot_marksGo]; omega⟩, ?_⟩
  · rw [e]
    exact ⟨⟨_, rfl⟩, by omega, by rw [unII_II]; omega⟩
  · have hn : decide ((1 : Int) + tot bs < 0) = false := by simp; omega
    rw [f0_heldC, e', hn, cond_false, f0_heldSS, unII_II, marksGo_idem, if_pos rfl, tot_marksGo]
theorem ints_keys (l : List Int) (hl : l.length ≤ 2147483647) : IsIs (I l) ∧ q_eqI (I l) (I l) ∧ f0_eqI (I l) (I l) = true ∧ q_mark (I l) 1 ∧ q_mark (I (marks l.length 1)) 1 ∧ f0_held (I (marks l.length 1)) 1 = 1 + l.length ∧ f0_mark (I l) 1 = 1 + l.length ∧ f1_mark (I l) 1 = I (marks l.length 1) :=
  ⟨⟨⟨l, rfl⟩, by rw [I_length]; omega⟩, ⟨⟨l, rfl⟩, ⟨l, rfl⟩⟩, by simp [f0_eqI], ⟨⟨l, rfl⟩, by omega, by rw [I_length]; omega⟩, ⟨⟨_, rfl⟩, by omega, by rw [I_length, marks_len]; omega⟩,
    by rw [f0_held, unI_I, I_length, marks_len, if_pos rfl], by rw [f0_mark, I_length], by rw [f1_mark, I_length]⟩

end Go.Ax
/-
  Lists that are built in order; divisors of branches, ratios, generators; polar invariants. No conditions but those of the contracts.
-/
set_option linter.all false
namespace Go.Ax
open Go.Proofs

def tab' {α : Type} (f : Nat → α) (n : Nat) : List α := (List.range n).map f
theorem tab_len {α : Type} (f : Nat → α) (n : Nat) : (tab' f n).length = n := by simp [tab']
theorem tab_succ {α : Type} (f : Nat → α) (n : Nat) : tab' f (n + 1) = tab' f n ++ [f n] := by simp [tab', List.range_succ]
theorem tab_get {α : Type} (f : Nat → α) (n i : Nat) (d : α) (h : i < n) : (tab' f n).getD i d = f i := by
  simp [tab', List.getD_eq_getElem?_getD, List.getElem?_map, List.getElem?_range h]
theorem tab_get? {α : Type} (f : Nat → α) (n i : Nat) (h : i < n) : (tab' f n)[i]? = some (f i) := by
  simp [tab', List.getElem?_range h]
theorem tab_congr {α : Type} {f g : Nat → α} {n : Nat} (h : ∀ i, i < n → f i = g i) : tab' f n = tab' g n := by
  simp only [tab']
  apply List.map_congr_left
  intro i hi
  exact h i (by simpa using hi)
theorem take_tab {α : Type} (f : Nat → α) (n k : Nat) (h : k ≤ n) : (tab' f n).take k = tab' f k := by
  simp only [tab', ← List.map_take, List.take_range, Nat.min_eq_left h]
abbrev W (n : Int) : Int := IntKind.wrap .i64 n
theorem dec_step : ∀ (l : List Int), dec l = true → ∀ i, i + 1 < l.length → l.getD (i + 1) 0 < l.getD i 0
  | [], h, _, _ => by simp [dec] at h
  | [a], _, i, hi => by simp at hi
  | a :: b :: l, h, i, hi => by
    simp only [dec] at h
    cases hab : decide (a ≤ b) with
    | true => rw [hab] at h; simp at h
    | false =>
      rw [hab] at h
      simp only [decide_eq_false_iff_not] at hab
      cases i with
      | zero => simp; omega
      | succ i => simpa using dec_step (b :: l) h i (by simpa using hi)
theorem dec_last : ∀ (l : List Int), dec l = true → l ≠ [] ∧ l.getD (l.length - 1) 0 = 1
  | [], h => by simp [dec] at h
  | [a], h => by simpa [dec] using h
  | a :: b :: l, h => by
    simp only [dec] at h
    cases hab : decide (a ≤ b) with
    | true => rw [hab] at h; simp at h
    | false =>
      rw [hab] at h
      refine ⟨by simp, ?_⟩
      have := (dec_last (b :: l) h).2
      simpa using this
theorem asc_step : ∀ (l : List Int), asc l = true → ∀ i, i + 1 < l.length → l.getD i 0 < l.getD (i + 1) 0
  | [], _, _, hi => by simp at hi
  | [a], _, i, hi => by simp at hi
  | a :: b :: l, h, i, hi => by
    simp only [asc] at h
    cases hab : decide (b ≤ a) with
    | true => rw [hab] at h; simp at h
    | false =>
      rw [hab] at h
      simp only [decide_eq_false_iff_not] at hab
      cases i with
      | zero => simp; omega
      | succ i => simpa using asc_step (b :: l) h i (by simpa using hi)

structure Br (xs : List Int) : Prop where
  is : isBr xs = true
  pos : 0 < xs.length
  len : xs.length ≤ 64
  low : ∀ i, i < xs.length → 1 ≤ xs.getD i 0
  high : ∀ i, i < xs.length → xs.getD i 0 ≤ 2000
  up : ∀ i, i + 1 < xs.length → xs.getD i 0 < xs.getD (i + 1) 0
  first : xs.getD 0 0 ≤ 64
  dlen : (dv xs).length = xs.length
  d0 : (dv xs).getD 0 0 = xs.getD 0 0
  dpos : ∀ i, i < xs.length → 1 ≤ (dv xs).getD i 0
  dhi : ∀ i, i < xs.length → (dv xs).getD i 0 ≤ 64
  dstep : ∀ i, i + 1 < xs.length → (dv xs).getD (i + 1) 0 < (dv xs).getD i 0
  dlast : (dv xs).getD (xs.length - 1) 0 = 1
theorem br_of {xs : List Int} (h : isBr xs = true) : Br xs := by
  obtain ⟨t, l, hx, h1, h2, hw, hd⟩ := isBr_facts h
  have h' := h
  simp only [isBr, cond_and', Bool.and_eq_true] at h'
  obtain ⟨⟨⟨⟨_, _⟩, ha⟩, _⟩, hdec⟩ := h'
  have hdl : (dv xs).length = xs.length := by rw [dv, dvGo_len]
  have hpos : 0 < xs.length := by rw [hx]; simp
  have hall : ∀ i, i < xs.length → 1 ≤ xs.getD i 0 ∧ xs.getD i 0 ≤ 2000 := by
    intro i hi
    simp only [within, List.all_eq_true, inRange, Bool.and_eq_true, decide_eq_true_eq] at hw
    rw [List.getD_eq_getElem?_getD, List.getElem?_eq_getElem hi]
    exact hw _ (List.getElem_mem hi)
  have hd0 : (dv xs).getD 0 0 = xs.getD 0 0 := by rw [hx]; simp [dv, dvGo, gcdW_zero (show 0 < t by omega)]
  have hst : ∀ i, i + 1 < xs.length → (dv xs).getD (i + 1) 0 < (dv xs).getD i 0 := fun i hi => dec_step _ hdec i (by omega)
  have hx0 : xs.getD 0 0 = t := by rw [hx]; rfl
  have hhi : ∀ i : Nat, i < xs.length → (dv xs).getD i 0 ≤ 64 - i := by
    intro i
    induction i with
    | zero => intro _; rw [hd0, hx0]; omega
    | succ i ih =>
      intro hi
      have := ih (by omega)
      have := hst i hi
      omega
  have hlast := (dec_last _ hdec).2
  rw [hdl] at hlast
  refine ⟨h, hpos, ?_, fun i hi => (hall i hi).1, fun i hi => (hall i hi).2, fun i hi => asc_step _ ha i hi, by rw [hx0]; omega, hdl, hd0, fun i hi => hd i hi, fun i hi => by have := hhi i hi; omega, hst, hlast⟩
  have := hhi (xs.length - 1) (by omega)
  rw [hlast] at this
  omega
def IsBr (es : List V) : Prop := ∃ xs, es = I xs ∧ Br xs
theorem IsBr.isP {es : List V} (h : IsBr es) : IsP es := by
  obtain ⟨xs, rfl, hb⟩ := h
  obtain ⟨t, l, rfl, h1, _⟩ := isBr_facts hb.is
  exact ⟨t, l, rfl, by omega, by have := hb.len; simp at this; omega⟩
theorem IsBr.isIs {es : List V} (h : IsBr es) : IsIs es := h.isP.isIs

def c_B_l (f : List V → List V) (q : List V → Prop) : Contract := fun
  | [.agg [.slc false 2 (.int .i64 0) a0]] => some ([q a0], .slc true 2 (.int .i64 0) (f a0))
  | _ => none
end Go.Ax
/-
  Polar invariants. No conditions but those of the contracts.
-/
set_option linter.all false
namespace Go.Ax
open Go.Proofs

end Go.Ax
