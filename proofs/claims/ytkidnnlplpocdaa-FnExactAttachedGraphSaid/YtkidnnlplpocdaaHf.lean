/-
  GraphOfCluster: both sides, the law. No conditions but those of the contracts.
-/
import Derived.Test.YtkidnnlplpocdaaHe
import Derived.Test.YtkidnnlplpocdaaGv
import Derived.Test.YtkidnnlplpocdaaHb
set_option linter.all false
namespace Go.Ax
open Go.Proofs

theorem edsOk_of {n : Nat} : ∀ (es : List (List Int)) (p : Option (List Int)), (∀ e ∈ es, e.length = 2 ∧ 0 ≤ e0 e ∧ e0 e < e1 e ∧ e1 e < n) → es.Pairwise (fun a b => lexLt a b = true) → (∀ x, p = some x → ∀ e ∈ es, lexLt x e = true) → edsOk n p es = true
  | [], _, _, _, _ => rfl
  | e :: es, p, h1, h2, h3 => by
    obtain ⟨a1, a2, a3, a4⟩ := h1 e (by simp)
    rw [List.pairwise_cons] at h2
    have h5 : edOk n p e = true := by
      simp only [edOk, Bool.and_eq_true, decide_eq_true_eq, beq_iff_eq]
      refine ⟨⟨⟨⟨a1, a2⟩, a3⟩, a4⟩, ?_⟩
      cases p with
      | none => rfl
      | some x => exact h3 x rfl e (by simp)
    rw [edsOk, h5, Bool.true_and]
    exact edsOk_of es (some e) (fun x hx => h1 x (by simp [hx])) h2.2 (fun x hx y hy => by cases hx; exact h2.1 y hy)
theorem mem_rowE {M : Nat → Nat → Int} {i k : Nat} {e : List Int} (h : e ∈ rowE M i k) : ∃ t : Nat, i < t ∧ t < k ∧ e = [(i : Int), (t : Int)] := by
  rw [rowE, List.mem_map] at h
  obtain ⟨t, ht, rfl⟩ := h
  rw [List.mem_filter] at ht
  have h1 := List.mem_range.1 ht.1
  have h2 := ht.2
  simp only [Bool.and_eq_true, decide_eq_true_eq] at h2
  exact ⟨t, h2.1, h1, rfl⟩
theorem lex2 (a b c d : Int) : lexLt [a, b] [c, d] = true ↔ a < c ∨ a = c ∧ b < d := by
  simp only [lexLt]
  by_cases h : a = c
  · subst h
    simp only [beq_self_eq_true, Bool.not_true, cond_false]
    by_cases h2 : b = d
    · subst h2; simp
    · have : (b == d) = false := by simpa using h2
      rw [this]; simp
  · have : (a == c) = false := by simpa using h
    rw [this]
    simp [h]
theorem rowE_pw (M : Nat → Nat → Int) (i k : Nat) : (rowE M i k).Pairwise (fun a b => lexLt a b = true) := by
  rw [rowE, List.pairwise_map]
  have h : (List.range k).Pairwise (· < ·) := List.pairwise_lt_range
  refine (List.Pairwise.sublist List.filter_sublist h).imp fun {a b} hab => ?_
  rw [lex2]
  exact .inr ⟨rfl, by omega⟩
theorem esC_pw (M : Nat → Nat → Int) (n k : Nat) : (esC M n k).Pairwise (fun a b => lexLt a b = true) := by
  rw [esC, List.pairwise_flatMap]
  refine ⟨fun a _ => rowE_pw M a n, (List.pairwise_lt_range (n := k)).imp fun {a b} hab x hx y hy => ?_⟩
  obtain ⟨t, _, _, rfl⟩ := mem_rowE hx
  obtain ⟨u, _, _, rfl⟩ := mem_rowE hy
  rw [lex2]
  exact .inl (by omega)
theorem esC_in {M : Nat → Nat → Int} {n k : Nat} (hk : k ≤ n) {e : List Int} (h : e ∈ esC M n k) : e.length = 2 ∧ 0 ≤ e0 e ∧ e0 e < e1 e ∧ e1 e < n := by
  rw [esC, List.mem_flatMap] at h
  obtain ⟨i, hi, he⟩ := h
  obtain ⟨t, h1, h2, rfl⟩ := mem_rowE he
  refine ⟨rfl, ?_, ?_, ?_⟩
  · show (0 : Int) ≤ (i : Int); omega
  · show (i : Int) < (t : Int); omega
  · show (t : Int) < n; omega
theorem rowE_len2 (M : Nat → Nat → Int) (i : Nat) : ∀ k, (rowE M i k).length ≤ k - i - 1
  | 0 => by simp [rowE]
  | k + 1 => by
    by_cases h : i < k
    · rw [rowE_succ h, List.length_append]
      have := rowE_len2 M i k
      split
      · simp only [List.length_cons, List.length_nil]; omega
      · simp only [List.length_nil]; omega
    · rw [rowE_lo (by omega)]; simp
theorem esC_len2 (M : Nat → Nat → Int) {n : Nat} (hn : n ≤ 24) : ∀ k, k ≤ n → (esC M n k).length * 2 ≤ k * (2 * n - k)
  | 0, _ => by simp [esC]
  | k + 1, hk => by
    rw [esC_succ, List.length_append]
    have h1 := esC_len2 M hn k (by omega)
    have h2 := rowE_len2 M k n
    obtain ⟨d, rfl⟩ : ∃ d, n = k + 1 + d := ⟨n - (k + 1), by omega⟩
    have e1 : 2 * (k + 1 + d) - k = k + 2 + 2 * d := by omega
    have e2 : 2 * (k + 1 + d) - (k + 1) = k + 1 + 2 * d := by omega
    rw [e1] at h1
    rw [e2]
    have e3 : k * (k + 2 + 2 * d) = k * (k + 1 + 2 * d) + k := by
      rw [← Nat.mul_succ, show (k + 1 + 2 * d).succ = k + 2 + 2 * d by omega]
    have e4 : (k + 1) * (k + 1 + 2 * d) = k * (k + 1 + 2 * d) + (k + 1 + 2 * d) := Nat.succ_mul _ _
    rw [e4]
    rw [e3] at h1
    omega
theorem esC_grN (M : Nat → Nat → Int) {n : Nat} (h1 : 1 ≤ n) (h2 : n ≤ 24) : GrN n (esC M n n) := by
  refine ⟨h1, by omega, ?_, edsOk_of _ none (fun e he => esC_in (Nat.le_refl _) he) (esC_pw M n n) (fun x hx => by cases hx), fun e he => ?_, fun e he => (esC_in (Nat.le_refl _) he).2.2.1⟩
  · have h3 := esC_len2 M h2 n (Nat.le_refl _)
    have h4 : n * (2 * n - n) ≤ 24 * 24 := Nat.mul_le_mul h2 (by omega)
    omega
  · obtain ⟨a1, a2, a3, a4⟩ := esC_in (Nat.le_refl n) he
    exact ⟨a1, a2, by omega, by omega, a4⟩
def c_K_Gi (f : List V → List V → List V → List V × List V × Int) (q : List V → List V → List V → Prop) : Contract := fun
  | [.agg [.slc false 2 (.int .i64 0) a0, .slc false 2 (.int .i64 0) a1, .slc false 2 (.int .i64 0) a2]] => some ([q a0 a1 a2], .tup [.agg [.slc true 2 (.int .i64 0) ((f a0 a1 a2).1), .slc true 27 (.slc true 2 (.int .i64 0) []) ((f a0 a1 a2).2.1)], .int .i64 ((f a0 a1 a2).2.2)])
  | _ => none
noncomputable def f_goc (a b c : List V) : List V × List V × Int := bif isCl (unI a) (unI b) (unI c) then (I (gwC (gM (unI a) (unI b)) a.length), II true (esC (gM (unI a) (unI b)) a.length a.length), 0) else ([], [], 1)
set_option maxRecDepth 100000 in
theorem s_impl_GraphOfCluster : Sat Try.prog 32 (c_K_Gi f_goc q_K) := by
  intro args ps r h hp
  unfold c_K_Gi at h
  split at h
  · rename_i a0 a1 a2
    simp only [Option.some.injEq, Prod.mk.injEq] at h
    obtain ⟨rfl, rfl⟩ := h
    have hq : q_K a0 a1 a2 := (alls_cons.1 hp).1
    have g0 := hq.1.frz
    have g1 := hq.2.1.frz
    have g2 := hq.2.2.frz
    generalize H_f_isCl : f_isCl = F_f_isCl
    generalize H_q_K : q_K = F_q_K
    generalize H_f_gr : f_gr = F_f_gr
    generalize H_q_Kv : q_Kv = F_q_Kv
    refine fnOk_ofI (T := tab) (B := [(73, c_K_b F_f_isCl F_q_K), (74, c_K_G F_f_gr F_q_Kv)]) (Bi := []) [0, 1, 2, 3] Try.func32 rfl rfl (by kernel_rfl) (Nat.le_of_ble_eq_true rfl) mixed tabOk (by subst H_f_isCl H_q_K H_f_gr H_q_Kv; exact (bookCons s_impl_IsCluster (bookCons s_impl_graphOf bookNil))) (by subst H_f_isCl H_q_K H_f_gr H_q_Kv; exact bookINil) (by kernel_rfl) ?_
    intro L lp rr hL hr hf hlp
    conv => cbv
    simp only [stdEqs hL, imp_self, true_and, and_true, bif_or, bif_and, Bool.or_eq_true, Bool.or_eq_false_iff, Bool.and_eq_true, Bool.and_eq_false_iff, decide_eq_true_eq, decide_eq_false_iff_not, Bool.not_eq_true', Bool.not_eq_false', beq_iff_eq, beq_eq_false_iff_ne, ne_eq, toNat0, toNat1, ok_int, toI_int, I_frzs, I_length, I_getD, ok_ints, toL_slc, g0, g1, g2]
    subst H_f_isCl H_q_K H_f_gr H_q_Kv
    refine ⟨hq, fun h => ?_, fun h => ⟨q_Kv_of hq h, ?_⟩⟩
    · rw [f_isCl] at h
      rw [hr, f_goc, h]; rfl
    · rw [f_isCl] at h
      rw [hr, f_goc, h]; rfl
  · cases h
set_option maxRecDepth 100000 in
theorem s_spec_GraphOfCluster : Sat Try.prog 30 (c_K_Gi f_goc q_K) := by
  intro args ps r h hp
  unfold c_K_Gi at h
  split at h
  · rename_i a0 a1 a2
    simp only [Option.some.injEq, Prod.mk.injEq] at h
    obtain ⟨rfl, rfl⟩ := h
    have hq : q_K a0 a1 a2 := (alls_cons.1 hp).1
    have g0 := hq.1.frz
    have g1 := hq.2.1.frz
    have g2 := hq.2.2.frz
    generalize H_f_isCl : f_isCl = F_f_isCl
    generalize H_q_K : q_K = F_q_K
    generalize H_f_gr : f_gr = F_f_gr
    generalize H_q_Kv : q_Kv = F_q_Kv
    refine fnOk_ofI (T := tab) (B := [(71, c_K_b F_f_isCl F_q_K), (72, c_K_G F_f_gr F_q_Kv)]) (Bi := []) [0, 1, 2, 3] Try.func30 rfl rfl (by kernel_rfl) (Nat.le_of_ble_eq_true rfl) mixed tabOk (by subst H_f_isCl H_q_K H_f_gr H_q_Kv; exact (bookCons s_spec_l07Is (bookCons s_spec_l12Graph bookNil))) (by subst H_f_isCl H_q_K H_f_gr H_q_Kv; exact bookINil) (by kernel_rfl) ?_
    intro L lp rr hL hr hf hlp
    conv => cbv
    simp only [stdEqs hL, imp_self, true_and, and_true, bif_or, bif_and, Bool.or_eq_true, Bool.or_eq_false_iff, Bool.and_eq_true, Bool.and_eq_false_iff, decide_eq_true_eq, decide_eq_false_iff_not, Bool.not_eq_true', Bool.not_eq_false', beq_iff_eq, beq_eq_false_iff_ne, ne_eq, toNat0, toNat1, ok_int, toI_int, I_frzs, I_length, I_getD, ok_ints, toL_slc, g0, g1, g2]
    subst H_f_isCl H_q_K H_f_gr H_q_Kv
    refine ⟨hq, fun h => ?_, fun h => ⟨q_Kv_of hq h, ?_⟩⟩
    · rw [f_isCl] at h
      rw [hr, f_goc, h]; rfl
    · rw [f_isCl] at h
      rw [hr, f_goc, h]; rfl
  · cases h
/-! graphs held -/
def f0_heldG (a b : List V) (k : Int) : Int := bif decide (f0_held a k < 0) then -1 else f0_heldSS b (f0_held a k)
def q_heldG (a b : List V) (k : Int) : Prop := IsI a ∧ IsII false b ∧ 0 ≤ k ∧ k + a.length + tot (unII b) ≤ 9223372036854775807
set_option maxRecDepth 100000 in
theorem s_laws_heldGraph : Sat Try.prog 35 (c_Gi_i f0_heldG q_heldG) := by
  intro args ps r h hp
  unfold c_Gi_i at h
  split at h
  · rename_i a0 a1 k
    simp only [Option.some.injEq, Prod.mk.injEq] at h
    obtain ⟨rfl, rfl⟩ := h
    obtain ⟨h0, h1, h2, h3⟩ : q_heldG a0 a1 k := (alls_cons.1 hp).1
    have g := h0.frz
    have g2 := frzs_II h1
    have hf0 : f0_heldG a0 a1 k = bif decide (f0_held a0 k < 0) then -1 else f0_heldSS a1 (f0_held a0 k) := rfl
    generalize H_f0_held : f0_held = F_f0_held
    generalize H_q_mark : q_mark = F_q_mark
    generalize H_f0_heldSS : f0_heldSS = F_f0_heldSS
    generalize H_q_markF : q_markF = F_q_markF
    refine fnOk_ofI (T := tab) (B := [(23, c_heldInt64S F_f0_held F_q_mark), (75, c_heldSS F_f0_heldSS F_q_markF)]) (Bi := []) [0, 1, 2, 4] Try.func35 rfl rfl (by kernel_rfl) (Nat.le_of_ble_eq_true rfl) mixed tabOk (by subst H_f0_held H_q_mark H_f0_heldSS H_q_markF; exact (bookCons s_laws_heldInt64S (bookCons s_laws_heldInt64SS bookNil))) (by subst H_f0_held H_q_mark H_f0_heldSS H_q_markF; exact bookINil) (by kernel_rfl) ?_
    intro L lp rr hL hr hf hlp
    conv => cbv
    simp only [stdEqs hL, g, g2]
    subst H_f0_held H_q_mark H_f0_heldSS H_q_markF
    rw [hr, hf0]
    refine ⟨⟨h0, h2, by omega⟩, fun h => ?_, fun h => ⟨?_, fun h' => ?_, fun h' => ?_⟩⟩
    · rw [h]; rfl
    · rw [held_len h]
      exact ⟨h1, by omega, by omega⟩
    · rw [h, cond_false]
      have e : f0_heldSS a1 (f0_held a0 k) = -1 := by
        simp only [decide_eq_true_eq, decide_eq_false_iff_not] at h h'
        unfold f0_heldSS at h' ⊢
        split at h'
        · omega
        · rename_i hh; rw [if_neg hh]
      rw [e]
    · rw [h, cond_false]
  · cases h
theorem graph_keys2 (ws : List Int) (es : List (List Int)) (h : ws.length + tot es ≤ 4611686018427387904) :
    q_heldG (I (marks ws.length 1)) (II false (marksGo (1 + ws.length) es)) 1 ∧ f0_heldG (I (marks ws.length 1)) (II false (marksGo (1 + ws.length) es)) 1 = 1 + ws.length + tot es := by
  have hd : f0_held (I (marks ws.length 1)) 1 = 1 + ws.length := by rw [f0_held, unI_I, I_length, marks_len, if_pos rfl]
  refine ⟨⟨⟨_, rfl⟩, ⟨_, rfl⟩, by omega, by rw [I_length, marks_len, unII_II, tot_marksGo]; omega⟩, ?_⟩
  have hn : decide ((1 : Int) + ws.length < 0) = false := by simp; omega
  rw [f0_heldG, hd, hn, cond_false, f0_heldSS, unII_II, marksGo_idem, if_pos rfl, tot_marksGo]
def c_lawk_K (f : List V → List V → List V → Bool) (q : List V → List V → List V → Prop) : Contract := fun
  | [.agg [.slc false 2 (.int .i64 0) a0, .slc false 2 (.int .i64 0) a1, .slc false 2 (.int .i64 0) a2]] => some ([q a0 a1 a2], .bool (f a0 a1 a2))
  | _ => none
def q_lawk_K (x y z : List V) : Prop := q_K x y z
def yesk_K (_ _ _ : List V) : Bool := true
theorem tot_len2 : ∀ (l : List (List Int)) (m : Nat), (∀ x ∈ l, x.length = m) → tot l = l.length * m
  | [], _, _ => by simp [tot]
  | x :: l, m, h => by rw [tot, tot_len2 l m (fun y hy => h y (by simp [hy])), h x (by simp), List.length_cons, Nat.add_mul, Nat.one_mul, Nat.add_comm]
set_option maxRecDepth 100000 in
theorem s_laws_FnExactGraphOfCluster : Sat Try.prog 5 (c_lawk_K yesk_K q_lawk_K) := by
  intro args ps r h hp
  unfold c_lawk_K at h
  split at h
  · rename_i a0 a1 a2
    simp only [Option.some.injEq, Prod.mk.injEq] at h
    obtain ⟨rfl, rfl⟩ := h
    have hq : q_K a0 a1 a2 := (alls_cons.1 hp).1
    obtain ⟨hq0, hq1, hq2⟩ := id hq
    have g0 := hq0.frz
    have g1 := hq1.frz
    have g2 := hq2.frz
    generalize H_f_szK : f_szK = F_f_szK
    generalize H_q_szK : q_szK = F_q_szK
    generalize H_f_cpK : f_cpK = F_f_cpK
    generalize H_q_cpK : q_cpK = F_q_cpK
    generalize H_f_goc : f_goc = F_f_goc
    generalize H_q_K : q_K = F_q_K
    generalize H_f_eqK : f_eqK = F_f_eqK
    generalize H_q_eqK : q_eqK = F_q_eqK
    generalize H_f_eqG : f_eqG = F_f_eqG
    generalize H_q_eqG : q_eqG = F_q_eqG
    generalize H_f0_heldG : f0_heldG = F_f0_heldG
    generalize H_q_heldG : q_heldG = F_q_heldG
    generalize H_f0_markG : f0_markG = F_f0_markG
    generalize H_f1_markG : f1_markG = F_f1_markG
    generalize H_f2_markG : f2_markG = F_f2_markG
    generalize H_q_markG : q_markG = F_q_markG
    generalize H_f0_markK : f0_markK = F_f0_markK
    generalize H_f1_markK : f1_markK = F_f1_markK
    generalize H_f2_markK : f2_markK = F_f2_markK
    generalize H_f3_markK : f3_markK = F_f3_markK
    generalize H_q_markK : q_markK = F_q_markK
    refine fnOk_ofI (T := tab) (B := [(29, c_Ki_i F_f_szK F_q_szK), (31, c_K_K F_f_cpK F_q_cpK), (30, c_K_Gi F_f_goc F_q_K), (32, c_K_Gi F_f_goc F_q_K), (26, c_KK_b F_f_eqK F_q_eqK), (33, c_GG_b F_f_eqG F_q_eqG), (35, c_Gi_i F_f0_heldG F_q_heldG)]) (Bi := [(34, 0, false, ic_markG F_f0_markG F_f1_markG F_f2_markG F_q_markG), (27, 0, false, ic_markK F_f0_markK F_f1_markK F_f2_markK F_f3_markK F_q_markK)]) [0, 1, 2, 3, 4, 5, 6, 7, 8, 9, 10, 11, 12, 13] Try.func5 rfl rfl (by kernel_rfl) (Nat.le_of_ble_eq_true rfl) mixed tabOk (by subst H_f_szK H_q_szK H_f_cpK H_q_cpK H_f_goc H_q_K H_f_eqK H_q_eqK H_f_eqG H_q_eqG H_f0_heldG H_q_heldG H_f0_markG H_f1_markG H_f2_markG H_q_markG H_f0_markK H_f1_markK H_f2_markK H_f3_markK H_q_markK; exact (bookCons s_laws_szCluster (bookCons s_laws_toCluster (bookCons s_spec_GraphOfCluster (bookCons s_impl_GraphOfCluster (bookCons s_laws_eqCluster (bookCons s_laws_eqGraph (bookCons s_laws_heldGraph bookNil)))))))) (by subst H_f_szK H_q_szK H_f_cpK H_q_cpK H_f_goc H_q_K H_f_eqK H_q_eqK H_f_eqG H_q_eqG H_f0_heldG H_q_heldG H_f0_markG H_f1_markG H_f2_markG H_q_markG H_f0_markK H_f1_markK H_f2_markK H_f3_markK H_q_markK; exact (bookICons s_laws_markGraph (bookICons s_laws_markCluster bookINil))) (by kernel_rfl) ?_
    intro L lp rr hL hr hf hlp
    have hlen := hf.1
    conv => cbv
    simp only [stdEqs hL, g0, g1, g2]
    subst H_f_szK H_q_szK H_f_cpK H_q_cpK H_f_goc H_q_K H_f_eqK H_q_eqK H_f_eqG H_q_eqG H_f0_heldG H_q_heldG H_f0_markG H_f1_markG H_f2_markG H_q_markG H_f0_markK H_f1_markK H_f2_markK H_f3_markK H_q_markK
    refine ⟨trivial, fun h => by rw [hr]; rfl, fun h => ?_⟩
    obtain ⟨hc, hb0, hb1, hb2⟩ := szK_ok hq0 hq1 hq2 hlen.1.1 hlen.2.1.1 hlen.2.2.1.1 h
    obtain ⟨P, hP⟩ := hq0
    obtain ⟨S, hS⟩ := hq1
    obtain ⟨Q, hQ⟩ := hq2
    rw [hP, I_length] at hb0
    rw [hS, I_length] at hb1
    rw [hQ, I_length] at hb2
    have e0 : f_cpK a0 a1 a2 = (I P, I S, I Q) := by rw [f_cpK, hP, hS, hQ]
    have kg := cluster_keys P S Q (by omega)
    have hqg : q_K (I P) (I S) (I Q) := ⟨⟨_, rfl⟩, ⟨_, rfl⟩, ⟨_, rfl⟩⟩
    have hqx := hqg

    obtain ⟨zs, fs, code, ez, hzl⟩ : ∃ (zs : List Int) (fs : List (List Int)) (code : Int), f_goc (I P) (I S) (I Q) = (I zs, II true fs, code) ∧ zs.length + tot fs ≤ 2000 := by
      rw [f_goc, unI_I, unI_I, unI_I]
      cases hh : isCl P S Q with
      | false => exact ⟨[], [], 1, rfl, by simp [tot]⟩
      | true =>
        have hc := isCl_iff.1 hh
        refine ⟨_, _, _, rfl, ?_⟩
        have h4 := esC_grN (gM P S) hc.n1 hc.n24
        rw [I_length, gwC, tab_len, tot_len2 _ 2 (fun x hx => (esC_in (Nat.le_refl _) hx).1)]
        have := h4.el
        have := hc.n24
        omega
    have ck := graph_keys zs fs
    have ck2 := markG_keys zs fs (by omega)
    have ck3 := graph_keys2 zs fs (by omega)
    have hn1 : ∀ n : Nat, decide ((1 : Int) + n < 0) = false := fun n => by simp; omega
    have hn2 : ∀ n m : Nat, decide ((1 : Int) + n + m < 0) = false := fun n m => by simp; omega
    have hn3 : ∀ n m r : Nat, decide ((1 : Int) + n + m + r < 0) = false := fun n m r => by simp; omega
    simp only [e0, hc, II_frzs, kg, hqg, ez, ck, ck2, ck3, hn1, hn2, hn3, hr, yesk_K, I_frzs]
    simp
  · cases h
end Go.Ax
