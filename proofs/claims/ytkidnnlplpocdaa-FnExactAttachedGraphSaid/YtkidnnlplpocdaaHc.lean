/-
  Proximity and intersection matrices of clusters, both sides. No conditions but those of the contracts.
-/
import Derived.Test.YtkidnnlplpocdaaHa
import Derived.Test.YtkidnnlplpocdaaGt
import Derived.Test.YtkidnnlplpocdaaSu
set_option linter.all false
namespace Go.Ax
open Go.Proofs

theorem ifc {a b : Prop} [Decidable a] [Decidable b] (h : a ↔ b) {x y : Int} : (if a then x else y) = if b then x else y := by
  by_cases ha : a
  · rw [if_pos ha, if_pos (h.1 ha)]
  · rw [if_neg ha, if_neg (fun hb => ha (h.2 hb))]
theorem ClP.low {P S Q : List Int} (h : ClP P S Q) {i : Nat} (hi : i < P.length) : -1 ≤ P.getD i 0 ∧ P.getD i 0 < i ∧ -1 ≤ S.getD i 0 ∧ (0 < i → S.getD i 0 < i) ∧ (0 < i → 0 ≤ P.getD i 0) ∧ (i = 0 → P.getD i 0 = -1 ∧ S.getD i 0 = -1) := by
  obtain ⟨h1, h2, h3, h4⟩ := place_low (i := i) (fun t ht => h.place t (by omega)) i (Nat.le_refl _)
  refine ⟨h1, h2, h3, h4, fun h0 => ?_, fun h0 => ?_⟩
  · exact ((placeB_s (by omega)).1 (h.place i hi)).1.1
  · subst h0; exact placeB_0.1 (h.place 0 hi)
def q_Kv (a b c : List V) : Prop := q_K a b c ∧ ClP (unI a) (unI b) (unI c)
theorem q_Kv_of {a b c : List V} (h : q_K a b c) (h2 : f_isCl a b c = true) : q_Kv a b c := ⟨h, isCl_iff.1 h2⟩
def proxs (P S : List Int) (i : Nat) : List Int := if i = 0 then [] else (if 0 ≤ S.getD i 0 then [S.getD i 0] else []) ++ [P.getD i 0]
def cpx (P S : List Int) (k n : Nat) : List (List Int) := tab' (fun i => if i < k then proxs P S i else []) n
def c_K_m (f : List V → List V → List V → List V) (q : List V → List V → List V → Prop) : Contract := fun
  | [.agg [.slc false 2 (.int .i64 0) a0, .slc false 2 (.int .i64 0) a1, .slc false 2 (.int .i64 0) a2]] => some ([q a0 a1 a2], .slc true 27 (.slc true 2 (.int .i64 0) []) (f a0 a1 a2))
  | _ => none
def f_cpx (a b _ : List V) : List V := II true (cpx (unI a) (unI b) a.length a.length)
theorem cpx_step {P S : List Int} {k n : Nat} (hk : k < n) (h0 : k ≠ 0) : (cpx P S k n).set k ((if 0 ≤ S.getD k 0 then [S.getD k 0] else []) ++ [P.getD k 0]) = cpx P S (k + 1) n := by
  rw [cpx, tab_setG _ _ hk, cpx]
  refine tab_congr fun j hj => ?_
  by_cases h : j = k
  · subst h
    rw [if_pos rfl, if_pos (show j < j + 1 by omega), proxs, if_neg h0]
  · rw [if_neg h]
    by_cases h2 : j < k
    · rw [if_pos h2, if_pos (by omega)]
    · rw [if_neg h2, if_neg (by omega)]
theorem cpx_at {P S : List Int} {k n : Nat} (hk : k < n) : (cpx P S k n).getD k [] = [] := by rw [cpx, tab_get _ _ _ _ hk, if_neg (Nat.lt_irrefl _)]
set_option maxRecDepth 100000 in
theorem s_impl_clusterProximates : Sat Try.prog 175 (c_K_m f_cpx q_Kv) := by
  intro args ps r h hp
  unfold c_K_m at h
  split at h
  · rename_i a0 a1 a2
    simp only [Option.some.injEq, Prod.mk.injEq] at h
    obtain ⟨rfl, rfl⟩ := h
    have hqv : q_Kv a0 a1 a2 := (alls_cons.1 hp).1
    obtain ⟨⟨⟨P, hP⟩, ⟨S, hS⟩, ⟨Q, hQ⟩⟩, hcl⟩ := id hqv
    rw [hP, hS, hQ, unI_I, unI_I, unI_I] at hcl
    have g0 : V.frzs a0 = a0 := by rw [hP, I_frzs]
    have g1 : V.frzs a1 = a1 := by rw [hS, I_frzs]
    have g2 : V.frzs a2 = a2 := by rw [hQ, I_frzs]
    have hpl : a0.length = P.length := by rw [hP, I_length]
    have hsl : a1.length = P.length := by rw [hS, I_length, hcl.sl]
    have hql : a2.length = P.length := by rw [hQ, I_length, hcl.ql]
    have gp : ∀ k, a0.getD k (.int .i64 0) = .int .i64 (P.getD k 0) := fun k => by rw [hP, I_getD]
    have gs : ∀ k, a1.getD k (.int .i64 0) = .int .i64 (S.getD k 0) := fun k => by rw [hS, I_getD]
    have gq : ∀ k, a2.getD k (.int .i64 0) = .int .i64 (Q.getD k 0) := fun k => by rw [hQ, I_getD]
    obtain ⟨n, hn⟩ : ∃ n : Int, n = P.length := ⟨_, rfl⟩
    have n1 := hcl.n1
    have n24 := hcl.n24
    have low := fun t ht => hcl.low (i := t) ht
    have hf0 : f_cpx a0 a1 a2 = II true (cpx P S P.length P.length) := by rw [f_cpx, hpl, hP, hS, unI_I, unI_I]
    refine fnOk_ofI (T := tab) (B := []) (Bi := []) [3000006000, 3000006001, 3000007000, 3000007001, 0, 1, 2, 3, 4] Try.func175 rfl rfl (by kernel_rfl) (Nat.le_of_ble_eq_true rfl) mixed tabOk (by exact bookNil) (by exact bookINil) (by kernel_rfl) ?_
    intro L lp rr hL hr hf hlp
    conv => cbv
    simp only [stdEqs hL, imp_self, true_and, and_true, bif_or, bif_and, Bool.or_eq_true, Bool.or_eq_false_iff, Bool.and_eq_true, Bool.and_eq_false_iff, decide_eq_true_eq, decide_eq_false_iff_not, Bool.not_eq_true', Bool.not_eq_false', beq_iff_eq, beq_eq_false_iff_ne, ne_eq, toNat0, toNat1, ok_int, toI_int, I_frzs, I_length, I_getD, ok_ints, toL_slc, hpl, ← hn]
    obtain ⟨s0, hs0⟩ : ∃ s0, s0 = List.replicate n.toNat (V.slc true 2 (V.int IntKind.i64 0) []) := ⟨_, rfl⟩
    have hs00 : s0 = II true (cpx P S 1 P.length) := by
      have e : cpx P S 1 P.length = List.replicate P.length [] := by
        rw [List.eq_replicate_iff]
        refine ⟨tab_len _ _, fun b hb => ?_⟩
        simp only [cpx, tab', List.mem_map, List.mem_range] at hb
        obtain ⟨x, hx, rfl⟩ := hb
        by_cases h : x < 1
        · rw [if_pos h, proxs, if_pos (by omega)]
        · rw [if_neg h]
      rw [hs0, e, II_replicate, hn, Int.toNat_natCast]
      rfl
    rw [← hs0]
    refine ⟨by omega, by omega, by omega, ?_⟩
    refine hlp (List V × Int) _ _ _ [1, 3, 4] (fun x => [(1, none, .val (.box 40 (.agg [.slc false 2 (.int .i64 0) a0, .slc false 2 (.int .i64 0) a1, .slc false 2 (.int .i64 0) a2]))), (3, none, .val (.slc true 27 (.slc true 2 (.int .i64 0) []) x.1)), (4, none, .val (.int .i64 x.2))])
      (fun x => 1 ≤ x.2 ∧ x.2 ≤ n ∧ x.1 = II true (cpx P S x.2.toNat P.length)) (fun x => (n - x.2).toNat) ((s0, 1)) (by subst hL; rfl) ?_ ?_
    · exact ⟨by simp, by simp only; omega, hs00⟩
    rintro ⟨ls, i⟩ ⟨i0, i1, hI⟩ hfx ag hag
    simp only at i0 i1 hI
    have hll : ls.length = P.length := by rw [hI, II_length, cpx, tab_len]
    have gls : ∀ j, ls.getD j (.slc true 2 (.int .i64 0) []) = .slc true 2 (.int .i64 0) (I ((cpx P S i.toNat P.length).getD j [])) := fun j => by rw [hI, II_getD]
    conv => cbv
    simp only [stdEqs hL, imp_self, true_and, and_true, bif_or, bif_and, Bool.or_eq_true, Bool.or_eq_false_iff, Bool.and_eq_true, Bool.and_eq_false_iff, decide_eq_true_eq, decide_eq_false_iff_not, Bool.not_eq_true', Bool.not_eq_false', beq_iff_eq, beq_eq_false_iff_ne, ne_eq, toNat0, toNat1, ok_int, toI_int, I_frzs, I_length, I_getD, ok_ints, toL_slc, hll, gls, gp, gs, hpl, hsl, ← hn]
    refine ⟨fun h2 => ?_, fun h2 => ?_⟩
    · have i0' : 0 ≤ i := by omega
      obtain ⟨k, hk⟩ : ∃ k, k = i.toNat := ⟨_, rfl⟩
      have hkn : k < P.length := by omega
      have hst := cpx_step (P := P) (S := S) hkn (by omega)
      have hat := cpx_at (P := P) (S := S) hkn
      have hs1 : ∀ x, (ls.set k x).getD k (.slc true 2 (.int .i64 0) []) = x := fun x => by rw [set_getD (by omega), if_pos rfl]
      have snoc : ∀ (xs : List Int) (x : Int), I xs ++ [V.int .i64 x] = I (xs ++ [x]) := fun xs x => by simp [I]
      have hole1 : OkS tab 27 (V.hole 1) := .inr ⟨_, rfl, rfl, rfl⟩
      have sol : ∀ n : Int, ∀ x : V, x ∈ [V.int .i64 n] → x.solid = true := fun n x hx => by
        simp only [List.mem_singleton] at hx
        subst hx; rfl
      rw [← hk] at hI
      simp only [← hk, hat, List.set_set, List.length_set, hs1, snoc, ok_ints, toL_slc, I_length, hll, true_and]
      rw [wrap_id (n := i + 1) (by omega) (by omega)]
      have q1 : ∀ v : V, (([] : List Int).length : Int) + ([v].length : Int) ≤ 2147483647 := fun v => by simp only [List.length_cons, List.length_nil]; omega
      have q2 : ∀ (x : Int) (v : V), (([] ++ [x] : List Int).length : Int) + ([v].length : Int) ≤ 2147483647 := fun x v => by simp only [List.nil_append, List.length_cons, List.length_nil]; omega
      have hip : i < (P.length : Int) := by omega
      have fin : ∀ l : List Int, l = (if 0 ≤ S.getD k 0 then [S.getD k 0] else []) ++ [P.getD k 0] → (1 ≤ i + 1 ∧ i + 1 ≤ n ∧ ls.set k (.slc true 2 (.int .i64 0) (I l)) = II true (cpx P S (i + 1).toNat P.length)) := fun l hl => by
        rw [toNat_succ i0', ← hk, hI, II_set, hl, hst]
        exact ⟨by omega, by omega, rfl⟩
      refine ⟨i0', h2, fun h3 => ?_, fun h3 => ?_⟩
      · exact ⟨i0', h2, hkn, i0', h2, hkn, rfl, q1 _, sol _, i0', hip, hkn, hole1, i0', hip, hkn, i0', h2, hkn, rfl, q2 _ _, sol _, i0', hip, hkn, hole1, hag (_, i + 1) (fin _ (by rw [if_pos h3]; rfl)) (by simp only; omega)⟩
      · exact ⟨i0', h2, hkn, i0', h2, hkn, rfl, q1 _, sol _, i0', hip, hkn, hole1, hag (_, i + 1) (fin _ (by rw [if_neg h3])) (by simp only; omega)⟩
    · rw [hr, hf0, hI, show i.toNat = P.length by omega]
  · cases h
/-! the proximity matrix -/
def T2 (n : Nat) (f : Nat → Nat → Int) : List (List Int) := tab' (fun i => tab' (f i) n) n
theorem T2_len (n : Nat) (f : Nat → Nat → Int) : (T2 n f).length = n := tab_len _ _
theorem T2_row {n i : Nat} (f : Nat → Nat → Int) (h : i < n) : (T2 n f).getD i [] = tab' (f i) n := tab_get _ _ _ _ h
theorem T2_get {n i k : Nat} (f : Nat → Nat → Int) (h : i < n) (h2 : k < n) : ((T2 n f).getD i []).getD k 0 = f i k := by rw [T2_row f h, tab_get _ _ _ _ h2]
theorem T2_congr {n : Nat} {f g : Nat → Nat → Int} (h : ∀ i k, i < n → k < n → f i k = g i k) : T2 n f = T2 n g := tab_congr fun i hi => tab_congr fun k hk => h i k hi hk
theorem T2_set {n i k : Nat} {f g : Nat → Nat → Int} {v : Int} (h : i < n) (h2 : k < n) (hv : v = g i k) (hg : ∀ a b, a < n → b < n → (a ≠ i ∨ b ≠ k) → g a b = f a b) : (T2 n f).set i (((T2 n f).getD i []).set k v) = T2 n g := by
  rw [T2_row f h, tab_setG _ _ h2, T2, tab_setG _ _ h]
  refine tab_congr fun a ha => ?_
  by_cases e : a = i
  · subst e
    rw [if_pos rfl]
    refine tab_congr fun b hb => ?_
    by_cases e2 : b = k
    · subst e2; rw [if_pos rfl, hv]
    · rw [if_neg e2, hg a b ha hb (.inr e2)]
  · rw [if_neg e]
    exact tab_congr fun b hb => (hg a b ha hb (.inl e)).symm
theorem T2_zero (n : Nat) : List.replicate n (List.replicate n (0 : Int)) = T2 n fun _ _ => 0 := by
  rw [eq_comm, List.eq_replicate_iff]
  refine ⟨tab_len _ _, fun b hb => ?_⟩
  simp only [T2, tab', List.mem_map, List.mem_range] at hb
  obtain ⟨x, hx, rfl⟩ := hb
  rw [List.eq_replicate_iff]
  exact ⟨by simp, by simp⟩
def prm (P S : List Int) (i j : Nat) : Int := if j = i then 1 else if P.getD i 0 = j ∨ S.getD i 0 = j then -1 else 0
def f_prm (a b _ : List V) : List V := II true (T2 a.length (prm (unI a) (unI b)))
/-- the matrix as it is filled -/
def prs1 (P S : List Int) (i k : Nat) (a b : Nat) : Int := if a < i then prm P S a b else if a = i then (if b = i then 1 else if (b : Int) ∈ (proxs P S i).take k then -1 else 0) else 0
def prs0 (P S : List Int) (i : Nat) (a b : Nat) : Int := if a < i then prm P S a b else 0
theorem mem_proxs {P S Q : List Int} (h : ClP P S Q) {k b : Nat} (hk : k < P.length) : (b : Int) ∈ proxs P S k ↔ P.getD k 0 = b ∨ S.getD k 0 = b := by
  obtain ⟨l1, l2, l3, l4, l5, l6⟩ := h.low hk
  rw [proxs]
  by_cases h0 : k = 0
  · rw [if_pos h0]
    obtain ⟨h1, h2⟩ := l6 h0
    simp only [List.not_mem_nil, false_iff]
    omega
  · rw [if_neg h0]
    by_cases h1 : 0 ≤ S.getD k 0
    · rw [if_pos h1]
      simp only [List.cons_append, List.nil_append, List.mem_cons, List.not_mem_nil, or_false]
      omega
    · rw [if_neg h1]
      simp only [List.nil_append, List.mem_cons, List.not_mem_nil, or_false]
      omega
theorem proxs_in {P S Q : List Int} (h : ClP P S Q) {k : Nat} (hk : k < P.length) {x : Int} (hx : x ∈ proxs P S k) : 0 ≤ x ∧ x < k := by
  obtain ⟨l1, l2, l3, l4, l5, l6⟩ := h.low hk
  rw [proxs] at hx
  by_cases h0 : k = 0
  · rw [if_pos h0] at hx; simp at hx
  · rw [if_neg h0] at hx
    have h4 := l4 (by omega)
    have h5 := l5 (by omega)
    by_cases h1 : 0 ≤ S.getD k 0
    · rw [if_pos h1] at hx
      simp only [List.cons_append, List.nil_append, List.mem_cons, List.not_mem_nil, or_false] at hx
      omega
    · rw [if_neg h1] at hx
      simp only [List.nil_append, List.mem_cons, List.not_mem_nil, or_false] at hx
      omega
theorem proxs_len (P S : List Int) (k : Nat) : (proxs P S k).length ≤ 2 := by
  rw [proxs]
  split
  · simp
  · split <;> simp
theorem prs1_end {P S Q : List Int} (h : ClP P S Q) {k : Nat} (hk : k < P.length) : T2 P.length (prs1 P S k (proxs P S k).length) = T2 P.length (prs0 P S (k + 1)) := by
  refine T2_congr fun a b ha hb => ?_
  rw [prs1, prs0]
  by_cases h1 : a < k
  · rw [if_pos h1, if_pos (by omega)]
  · rw [if_neg h1]
    by_cases h2 : a = k
    · subst h2
      rw [if_pos rfl, if_pos (show a < a + 1 by omega), prm, List.take_length]
      by_cases h3 : b = a
      · rw [if_pos h3, if_pos h3]
      · rw [if_neg h3, if_neg h3]
        exact ifc (mem_proxs h hk)
    · rw [if_neg h2, if_neg (by omega)]
set_option maxRecDepth 100000 in
theorem s_impl_proximityMatrix : Sat Try.prog 173 (c_K_m f_prm q_Kv) := by
  intro args ps r h hp
  unfold c_K_m at h
  split at h
  · rename_i a0 a1 a2
    simp only [Option.some.injEq, Prod.mk.injEq] at h
    obtain ⟨rfl, rfl⟩ := h
    have hqv : q_Kv a0 a1 a2 := (alls_cons.1 hp).1
    obtain ⟨⟨⟨P, hP⟩, ⟨S, hS⟩, ⟨Q, hQ⟩⟩, hcl⟩ := id hqv
    rw [hP, hS, hQ, unI_I, unI_I, unI_I] at hcl
    have g0 : V.frzs a0 = a0 := by rw [hP, I_frzs]
    have g1 : V.frzs a1 = a1 := by rw [hS, I_frzs]
    have g2 : V.frzs a2 = a2 := by rw [hQ, I_frzs]
    have hpl : a0.length = P.length := by rw [hP, I_length]
    have hsl : a1.length = P.length := by rw [hS, I_length, hcl.sl]
    have hql : a2.length = P.length := by rw [hQ, I_length, hcl.ql]
    have gp : ∀ k, a0.getD k (.int .i64 0) = .int .i64 (P.getD k 0) := fun k => by rw [hP, I_getD]
    have gs : ∀ k, a1.getD k (.int .i64 0) = .int .i64 (S.getD k 0) := fun k => by rw [hS, I_getD]
    have gq : ∀ k, a2.getD k (.int .i64 0) = .int .i64 (Q.getD k 0) := fun k => by rw [hQ, I_getD]
    obtain ⟨n, hn⟩ : ∃ n : Int, n = P.length := ⟨_, rfl⟩
    have n1 := hcl.n1
    have n24 := hcl.n24
    have low := fun t ht => hcl.low (i := t) ht
    have hf0 : f_prm a0 a1 a2 = II true (T2 P.length (prm P S)) := by rw [f_prm, hpl, hP, hS, unI_I, unI_I]
    obtain ⟨vp, hvp⟩ : ∃ vp, vp = II true (cpx P S P.length P.length) := ⟨_, rfl⟩
    have hvpl : vp.length = P.length := by rw [hvp, II_length, cpx, tab_len]
    have gvp : ∀ j, vp.getD j (.slc true 2 (.int .i64 0) []) = .slc true 2 (.int .i64 0) (I ((cpx P S P.length P.length).getD j [])) := fun j => by rw [hvp, II_getD]
    generalize H_f0_square : f0_square = F_f0_square
    generalize H_q_n : q_n = F_q_n
    generalize H_f_cpx : f_cpx = F_f_cpx
    generalize H_q_Kv : q_Kv = F_q_Kv
    refine fnOk_ofI (T := tab) (B := [(103, c_n_ll F_f0_square F_q_n), (175, c_K_m F_f_cpx F_q_Kv)]) (Bi := []) [0, 1, 2, 3, 4, 5, 7, 13, 14, 15, 26, 27, 28] Try.func173 rfl rfl (by kernel_rfl) (Nat.le_of_ble_eq_true rfl) mixed tabOk (by subst H_f0_square H_q_n H_f_cpx H_q_Kv; exact (bookCons s_impl_square (bookCons s_impl_clusterProximates bookNil))) (by subst H_f0_square H_q_n H_f_cpx H_q_Kv; exact bookINil) (by kernel_rfl) ?_
    intro L lp rr hL hr hf hlp
    have Ep : F_f_cpx a0 a1 a2 = vp := by rw [← H_f_cpx, f_cpx, hpl, hP, hS, unI_I, unI_I, hvp]
    have hsq : F_f0_square n = II true (T2 P.length fun _ _ => 0) := by rw [← H_f0_square, f0_square, hn, Int.toNat_natCast, T2_zero]
    obtain ⟨s0, hs0⟩ : ∃ s0, s0 = II true (T2 P.length fun _ _ => 0) := ⟨_, rfl⟩
    conv => cbv
    simp only [stdEqs hL, imp_self, true_and, and_true, bif_or, bif_and, Bool.or_eq_true, Bool.or_eq_false_iff, Bool.and_eq_true, Bool.and_eq_false_iff, decide_eq_true_eq, decide_eq_false_iff_not, Bool.not_eq_true', Bool.not_eq_false', beq_iff_eq, beq_eq_false_iff_ne, ne_eq, toNat0, toNat1, ok_int, toI_int, I_frzs, I_length, I_getD, ok_ints, toL_slc, g0, g1, g2, hpl, ← hn, hsq, Ep, hvpl]
    rw [← hs0]
    refine ⟨by rw [← H_q_n]; exact ⟨by omega, by omega⟩, by rw [← H_q_Kv]; exact hqv, ?_⟩
    refine hlp (List V × Int) _ _ _ [3, 13, 14, 15] (fun x => [(3, none, .val (.slc true 27 (.slc true 2 (.int .i64 0) []) x.1)), (13, none, .val (.slc true 27 (.slc true 2 (.int .i64 0) []) vp)), (14, none, .val (.int .i64 n)), (15, none, .val (.int .i64 x.2))])
      (fun x => 0 ≤ x.2 ∧ x.2 ≤ n ∧ x.1 = II true (T2 P.length (prs0 P S x.2.toNat))) (fun x => (n - x.2).toNat) ((s0, 0)) (by subst hL; rw [hn, ← hvpl]; rfl) ?_ ?_
    · exact ⟨by simp, by simp only; omega, hs0⟩
    rintro ⟨ls, i⟩ ⟨i0, i1, hI⟩ hfx ag hag
    simp only at i0 i1 hI
    have hll : ls.length = P.length := by rw [hI, II_length, T2_len]
    have gls : ∀ j, ls.getD j (.slc true 2 (.int .i64 0) []) = .slc true 2 (.int .i64 0) (I ((T2 P.length (prs0 P S i.toNat)).getD j [])) := fun j => by rw [hI, II_getD]
    conv => cbv
    simp only [stdEqs hL, imp_self, true_and, and_true, bif_or, bif_and, Bool.or_eq_true, Bool.or_eq_false_iff, Bool.and_eq_true, Bool.and_eq_false_iff, decide_eq_true_eq, decide_eq_false_iff_not, Bool.not_eq_true', Bool.not_eq_false', beq_iff_eq, beq_eq_false_iff_ne, ne_eq, toNat0, toNat1, ok_int, toI_int, I_frzs, I_length, I_getD, ok_ints, toL_slc, hll, gls, hvpl, gvp]
    refine ⟨fun h2 => ?_, fun h2 => ?_⟩
    · obtain ⟨k, hk⟩ : ∃ k, k = i.toNat := ⟨_, rfl⟩
      have hkn : k < P.length := by omega
      have hki : (k : Int) = i := by omega
      have hip : i < (P.length : Int) := by omega
      rw [← hk] at hI
      have hrl : ((T2 P.length (prs0 P S k)).getD k []).length = P.length := by rw [T2_row _ hkn, tab_len]
      obtain ⟨px, hpx⟩ : ∃ px, px = proxs P S k := ⟨_, rfl⟩
      have hcp : (cpx P S P.length P.length).getD k [] = px := by rw [cpx, tab_get _ _ _ _ hkn, if_pos hkn, hpx]
      have hpl2 : px.length ≤ 2 := by rw [hpx]; exact proxs_len _ _ _
      obtain ⟨m, hm⟩ : ∃ m : Int, m = px.length := ⟨_, rfl⟩
      simp only [← hk, hrl, hcp, ← hm]
      refine ⟨i0, hip, hkn, i0, hip, hkn, hkn, i0, hip, hkn, hkn, hkn, ?_⟩
      obtain ⟨s1, hs1⟩ : ∃ s1, s1 = ls.set k (.slc true 2 (.int .i64 0) ((I ((T2 P.length (prs0 P S k)).getD k [])).set k (.int .i64 1))) := ⟨_, rfl⟩
      have hs11 : s1 = II true (T2 P.length (prs1 P S k 0)) := by
        rw [hs1, hI, I_set, II_set]
        congr 1
        refine T2_set hkn hkn ?_ (fun a b ha hb hab => ?_)
        · rw [prs1, if_neg (by omega), if_pos rfl, if_pos rfl]
        · rw [prs1, prs0]
          by_cases h1 : a < k
          · rw [if_pos h1, if_pos h1]
          · rw [if_neg h1, if_neg h1]
            by_cases h3 : a = k
            · rw [if_pos h3, if_neg (by omega), if_neg (by simp)]
            · rw [if_neg h3]
      rw [← hs1]
      refine hlp (List V × Int) _ _ _ [3, 4, 13, 14, 15, 26, 27, 28] (fun x => [(3, none, .val (.slc true 27 (.slc true 2 (.int .i64 0) []) x.1)), (4, none, .val (.int .i64 i)), (13, none, .val (.slc true 27 (.slc true 2 (.int .i64 0) []) vp)), (14, none, .val (.int .i64 n)), (15, none, .val (.int .i64 i)), (26, none, .rf 13 0 [k]), (27, none, .val (.int .i64 m)), (28, none, .val (.int .i64 x.2))])
        (fun x => 0 ≤ x.2 ∧ x.2 ≤ m ∧ x.1 = II true (T2 P.length (prs1 P S k x.2.toNat))) (fun x => (m - x.2).toNat) ((s1, 0)) (by subst hL; rfl) ?_ ?_
      · exact ⟨by simp, by simp only; omega, hs11⟩
      rintro ⟨rs, y⟩ ⟨y0, y1, hY⟩ hfx2 ag2 hag2
      simp only at y0 y1 hY
      have hrsl : rs.length = P.length := by rw [hY, II_length, T2_len]
      have grs : ∀ j, rs.getD j (.slc true 2 (.int .i64 0) []) = .slc true 2 (.int .i64 0) (I ((T2 P.length (prs1 P S k y.toNat)).getD j [])) := fun j => by rw [hY, II_getD]
      have hrl2 : ((T2 P.length (prs1 P S k y.toNat)).getD k []).length = P.length := by rw [T2_row _ hkn, tab_len]
      conv => cbv
      simp only [stdEqs hL, imp_self, true_and, and_true, bif_or, bif_and, Bool.or_eq_true, Bool.or_eq_false_iff, Bool.and_eq_true, Bool.and_eq_false_iff, decide_eq_true_eq, decide_eq_false_iff_not, Bool.not_eq_true', Bool.not_eq_false', beq_iff_eq, beq_eq_false_iff_ne, ne_eq, toNat0, toNat1, ok_int, toI_int, I_frzs, I_length, I_getD, ok_ints, toL_slc, hrsl, grs, hvpl, gvp, hcp, ← hk, hrl2]
      refine ⟨fun h3 => ?_, fun h3 => ?_⟩
      · have hyl : y.toNat < px.length := by omega
        have hin := proxs_in hcl hkn (x := px.getD y.toNat 0) (by rw [← hpx, List.getD_eq_getElem?_getD, List.getElem?_eq_getElem hyl]; exact List.getElem_mem _)
        obtain ⟨t, ht⟩ : ∃ t, t = (px.getD y.toNat 0).toNat := ⟨_, rfl⟩
        obtain ⟨tt, htt⟩ : ∃ tt, tt = px.getD y.toNat 0 := ⟨_, rfl⟩
        rw [← htt] at hin ht
        simp only [← htt, ← ht]
        rw [wrap_id (n := y + 1) (by omega) (by omega)]
        refine ⟨hkn, y0, by omega, hkn, hyl, i0, hip, hkn, hkn, hin.1, by omega, hkn, by omega, ?_⟩
        refine hag2 (_, y + 1) ⟨by simp only; omega, by simp only; omega, ?_⟩ (by simp only; omega)
        simp only [toNat_succ y0]
        rw [hY, I_set, II_set]
        congr 1
        have htk : (px.take (y.toNat + 1)) = px.take y.toNat ++ [tt] := by
          rw [List.take_succ, htt, List.getD_eq_getElem?_getD, List.getElem?_eq_getElem hyl]; rfl
        refine T2_set hkn (by omega) ?_ (fun a b ha hb hab => ?_)
        · rw [prs1, if_neg (by omega), if_pos rfl, if_neg (by omega), ← hpx, htk, if_pos (by simp; omega)]
        · rw [prs1, prs1]
          by_cases h1 : a < k
          · rw [if_pos h1, if_pos h1]
          · rw [if_neg h1, if_neg h1]
            by_cases h4 : a = k
            · rw [if_pos h4, if_pos h4]
              by_cases h5 : b = k
              · rw [if_pos h5, if_pos h5]
              · rw [if_neg h5, if_neg h5, ← hpx, htk]
                refine ifc ?_
                simp only [List.mem_append, List.mem_singleton]
                constructor
                · rintro (h | h)
                  · exact h
                  · omega
                · exact .inl
            · rw [if_neg h4, if_neg h4]
      · rw [wrap_id (n := i + 1) (by omega) (by omega)]
        refine hag (rs, i + 1) ⟨by simp only; omega, by simp only; omega, ?_⟩ (by simp only; omega)
        simp only [toNat_succ i0]
        rw [← hk, hY, show y.toNat = (proxs P S k).length by rw [← hpx]; omega, prs1_end hcl hkn]
    · rw [hr, hf0, hI, show i.toNat = P.length by omega, show T2 P.length (prs0 P S P.length) = T2 P.length (prm P S) from T2_congr fun a b ha hb => by rw [prs0, if_pos ha]]
  · cases h
/-! the intersection matrix -/
def mt (p : Nat → Nat → Int) (i k : Nat) : Nat → Int
  | 0 => 0
  | j + 1 => W (mt p i k j - W (p j i * p j k))
def exc (p : Nat → Nat → Int) (n i k : Nat) : Int := mt p i k n
def f_exc (a b _ : List V) : List V := II true (T2 a.length (exc (prm (unI a) (unI b)) a.length))
def mts (p : Nat → Nat → Int) (j i k : Nat) (a b : Nat) : Int := if a < i ∨ (a = i ∧ b < k) then mt p a b (j + 1) else mt p a b j
theorem mts_row (p : Nat → Nat → Int) (j i n : Nat) : T2 n (mts p j i n) = T2 n (mts p j (i + 1) 0) := T2_congr fun a b ha hb => by
  rw [mts, mts]
  exact ifc (by omega)
set_option maxRecDepth 100000 in
theorem s_impl_exceptionalMatrix : Sat Try.prog 139 (c_K_m f_exc q_Kv) := by
  intro args ps r h hp
  unfold c_K_m at h
  split at h
  · rename_i a0 a1 a2
    simp only [Option.some.injEq, Prod.mk.injEq] at h
    obtain ⟨rfl, rfl⟩ := h
    have hqv : q_Kv a0 a1 a2 := (alls_cons.1 hp).1
    obtain ⟨⟨⟨P, hP⟩, ⟨S, hS⟩, ⟨Q, hQ⟩⟩, hcl⟩ := id hqv
    rw [hP, hS, hQ, unI_I, unI_I, unI_I] at hcl
    have g0 : V.frzs a0 = a0 := by rw [hP, I_frzs]
    have g1 : V.frzs a1 = a1 := by rw [hS, I_frzs]
    have g2 : V.frzs a2 = a2 := by rw [hQ, I_frzs]
    have hpl : a0.length = P.length := by rw [hP, I_length]
    have hsl : a1.length = P.length := by rw [hS, I_length, hcl.sl]
    have hql : a2.length = P.length := by rw [hQ, I_length, hcl.ql]
    have gp : ∀ k, a0.getD k (.int .i64 0) = .int .i64 (P.getD k 0) := fun k => by rw [hP, I_getD]
    have gs : ∀ k, a1.getD k (.int .i64 0) = .int .i64 (S.getD k 0) := fun k => by rw [hS, I_getD]
    have gq : ∀ k, a2.getD k (.int .i64 0) = .int .i64 (Q.getD k 0) := fun k => by rw [hQ, I_getD]
    obtain ⟨n, hn⟩ : ∃ n : Int, n = P.length := ⟨_, rfl⟩
    have n1 := hcl.n1
    have n24 := hcl.n24
    have low := fun t ht => hcl.low (i := t) ht
    have hf0 : f_exc a0 a1 a2 = II true (T2 P.length (exc (prm P S) P.length)) := by rw [f_exc, hpl, hP, hS, unI_I, unI_I]
    obtain ⟨p, hp9⟩ : ∃ p, p = prm P S := ⟨_, rfl⟩
    rw [← hp9] at hf0
    obtain ⟨vp, hvp⟩ : ∃ vp, vp = II true (T2 P.length p) := ⟨_, rfl⟩
    have hvpl : vp.length = P.length := by rw [hvp, II_length, T2_len]
    have gvp : ∀ j, vp.getD j (.slc true 2 (.int .i64 0) []) = .slc true 2 (.int .i64 0) (I ((T2 P.length p).getD j [])) := fun j => by rw [hvp, II_getD]
    have grow : ∀ j, j < P.length → ((T2 P.length p).getD j []).length = P.length := fun j hj => by rw [T2_row _ hj, tab_len]
    have ggt : ∀ j k, j < P.length → k < P.length → ((T2 P.length p).getD j []).getD k 0 = p j k := fun j k hj hk => T2_get p hj hk
    generalize H_f0_square : f0_square = F_f0_square
    generalize H_q_n : q_n = F_q_n
    generalize H_f_prm : f_prm = F_f_prm
    generalize H_q_Kv : q_Kv = F_q_Kv
    refine fnOk_ofI (T := tab) (B := [(103, c_n_ll F_f0_square F_q_n), (173, c_K_m F_f_prm F_q_Kv)]) (Bi := []) [0, 1, 2, 3, 4, 6, 7, 8, 9, 10, 16, 17, 18, 22, 23, 24, 29, 30, 31] Try.func139 rfl rfl (by kernel_rfl) (Nat.le_of_ble_eq_true rfl) mixed tabOk (by subst H_f0_square H_q_n H_f_prm H_q_Kv; exact (bookCons s_impl_square (bookCons s_impl_proximityMatrix bookNil))) (by subst H_f0_square H_q_n H_f_prm H_q_Kv; exact bookINil) (by kernel_rfl) ?_
    intro L lp rr hL hr hf hlp
    have Ep : F_f_prm a0 a1 a2 = vp := by rw [← H_f_prm, f_prm, hpl, hP, hS, unI_I, unI_I, hvp, hp9]
    have hsq : F_f0_square n = II true (T2 P.length fun _ _ => 0) := by rw [← H_f0_square, f0_square, hn, Int.toNat_natCast, T2_zero]
    obtain ⟨s0, hs0⟩ : ∃ s0, s0 = II true (T2 P.length fun _ _ => 0) := ⟨_, rfl⟩
    conv => cbv
    simp only [stdEqs hL, imp_self, true_and, and_true, bif_or, bif_and, Bool.or_eq_true, Bool.or_eq_false_iff, Bool.and_eq_true, Bool.and_eq_false_iff, decide_eq_true_eq, decide_eq_false_iff_not, Bool.not_eq_true', Bool.not_eq_false', beq_iff_eq, beq_eq_false_iff_ne, ne_eq, toNat0, toNat1, ok_int, toI_int, I_frzs, I_length, I_getD, ok_ints, toL_slc, g0, g1, g2, hpl, Ep, hvpl, ← hn, hsq]
    rw [← hs0]
    refine ⟨by rw [← H_q_Kv]; exact hqv, by rw [← H_q_n]; exact ⟨by omega, by omega⟩, ?_⟩
    refine hlp (List V × Int) _ _ _ [3, 4, 16, 17, 18] (fun x => [(3, none, .val (.slc true 27 (.slc true 2 (.int .i64 0) []) vp)), (4, none, .val (.slc true 27 (.slc true 2 (.int .i64 0) []) x.1)), (16, none, .rf 3 0 []), (17, none, .val (.int .i64 n)), (18, none, .val (.int .i64 x.2))])
      (fun x => 0 ≤ x.2 ∧ x.2 ≤ n ∧ x.1 = II true (T2 P.length (mts p x.2.toNat 0 0))) (fun x => (n - x.2).toNat) ((s0, 0)) (by subst hL; rw [hn, ← hvpl]; rfl) ?_ ?_
    · exact ⟨by simp, by simp only; omega, by simp only; rw [hs0, show T2 P.length (mts p (Int.toNat 0) 0 0) = T2 P.length (fun _ _ => 0) from T2_congr fun a b _ _ => by rw [mts, if_neg (by omega)]; rfl]⟩
    rintro ⟨ls, j⟩ ⟨j0, j1, hJ⟩ hfx ag hag
    simp only at j0 j1 hJ
    conv => cbv
    simp only [stdEqs hL, imp_self, true_and, and_true, bif_or, bif_and, Bool.or_eq_true, Bool.or_eq_false_iff, Bool.and_eq_true, Bool.and_eq_false_iff, decide_eq_true_eq, decide_eq_false_iff_not, Bool.not_eq_true', Bool.not_eq_false', beq_iff_eq, beq_eq_false_iff_ne, ne_eq, toNat0, toNat1, ok_int, toI_int, I_frzs, I_length, I_getD, ok_ints, toL_slc, hvpl, gvp]
    refine ⟨fun h2 => ?_, fun h2 => ?_⟩
    · obtain ⟨jt, hjt⟩ : ∃ jt, jt = j.toNat := ⟨_, rfl⟩
      have hjn : jt < P.length := by omega
      have hjp : j < (P.length : Int) := by omega
      rw [← hjt] at hJ
      simp only [← hjt, grow _ hjn]
      refine ⟨j0, hjp, hjn, hjn, ?_⟩
      refine hlp (List V × Int) _ _ _ [3, 4, 6, 16, 17, 18, 22, 23, 24] (fun x => [(3, none, .val (.slc true 27 (.slc true 2 (.int .i64 0) []) vp)), (4, none, .val (.slc true 27 (.slc true 2 (.int .i64 0) []) x.1)), (6, none, .rf 3 0 [jt]), (16, none, .rf 3 0 []), (17, none, .val (.int .i64 n)), (18, none, .val (.int .i64 j)), (22, none, .rf 3 0 [jt]), (23, none, .val (.int .i64 n)), (24, none, .val (.int .i64 x.2))])
        (fun x => 0 ≤ x.2 ∧ x.2 ≤ n ∧ x.1 = II true (T2 P.length (mts p jt x.2.toNat 0))) (fun x => (n - x.2).toNat) ((ls, 0)) (by subst hL; rw [hn]; rfl) ?_ ?_
      · exact ⟨by simp, by simp only; omega, hJ⟩
      rintro ⟨ms, i⟩ ⟨i0, i1, hI⟩ hfx2 ag2 hag2
      simp only at i0 i1 hI
      conv => cbv
      simp only [stdEqs hL, imp_self, true_and, and_true, bif_or, bif_and, Bool.or_eq_true, Bool.or_eq_false_iff, Bool.and_eq_true, Bool.and_eq_false_iff, decide_eq_true_eq, decide_eq_false_iff_not, Bool.not_eq_true', Bool.not_eq_false', beq_iff_eq, beq_eq_false_iff_ne, ne_eq, toNat0, toNat1, ok_int, toI_int, I_frzs, I_length, I_getD, ok_ints, toL_slc, hvpl, gvp]
      refine ⟨fun h3 => ?_, fun h3 => ?_⟩
      · obtain ⟨it, hit⟩ : ∃ it, it = i.toNat := ⟨_, rfl⟩
        have hin : it < P.length := by omega
        have hip : i < (P.length : Int) := by omega
        rw [← hit] at hI
        obtain ⟨px, hx⟩ : ∃ px, px = p jt it := ⟨_, rfl⟩
        simp only [← hit, grow _ hjn, ggt _ _ hjn hin, ← hx]
        refine ⟨hjn, i0, hip, hjn, hin, hjn, ?_⟩
        refine hlp (List V × Int) _ _ _ [3, 4, 6, 7, 8, 16, 17, 18, 22, 23, 24, 29, 30, 31] (fun x => [(3, none, .val (.slc true 27 (.slc true 2 (.int .i64 0) []) vp)), (4, none, .val (.slc true 27 (.slc true 2 (.int .i64 0) []) x.1)), (6, none, .rf 3 0 [jt]), (7, none, .val (.int .i64 i)), (8, none, .val (.int .i64 px)), (16, none, .rf 3 0 []), (17, none, .val (.int .i64 n)), (18, none, .val (.int .i64 j)), (22, none, .rf 3 0 [jt]), (23, none, .val (.int .i64 n)), (24, none, .val (.int .i64 i)), (29, none, .rf 3 0 [jt]), (30, none, .val (.int .i64 n)), (31, none, .val (.int .i64 x.2))])
          (fun x => 0 ≤ x.2 ∧ x.2 ≤ n ∧ x.1 = II true (T2 P.length (mts p jt it x.2.toNat))) (fun x => (n - x.2).toNat) ((ms, 0)) (by subst hL; rw [hn]; rfl) ?_ ?_
        · exact ⟨by simp, by simp only; omega, hI⟩
        rintro ⟨rs, k⟩ ⟨k0, k1, hK⟩ hfx3 ag3 hag3
        simp only at k0 k1 hK
        have hrl : rs.length = P.length := by rw [hK, II_length, T2_len]
        have grs : ∀ j, rs.getD j (.slc true 2 (.int .i64 0) []) = .slc true 2 (.int .i64 0) (I ((T2 P.length (mts p jt it k.toNat)).getD j [])) := fun j => by rw [hK, II_getD]
        have hrl2 : ((T2 P.length (mts p jt it k.toNat)).getD it []).length = P.length := by rw [T2_row _ hin, tab_len]
        conv => cbv
        simp only [stdEqs hL, imp_self, true_and, and_true, bif_or, bif_and, Bool.or_eq_true, Bool.or_eq_false_iff, Bool.and_eq_true, Bool.and_eq_false_iff, decide_eq_true_eq, decide_eq_false_iff_not, Bool.not_eq_true', Bool.not_eq_false', beq_iff_eq, beq_eq_false_iff_ne, ne_eq, toNat0, toNat1, ok_int, toI_int, I_frzs, I_length, I_getD, ok_ints, toL_slc, hvpl, gvp, hrl, grs, ← hit, hrl2]
        refine ⟨fun h4 => ?_, fun h4 => ?_⟩
        · obtain ⟨kt, hkt⟩ : ∃ kt, kt = k.toNat := ⟨_, rfl⟩
          have hkn : kt < P.length := by omega
          have hkp : k < (P.length : Int) := by omega
          rw [← hkt] at hK
          have hgv : ((T2 P.length (mts p jt it kt)).getD it []).getD kt 0 = mt p it kt jt := by
            rw [T2_get _ hin hkn, mts, if_neg (by omega)]
          simp only [← hkt, grow _ hjn, ggt _ _ hjn hkn, hgv]
          rw [wrap_id (n := k + 1) (by omega) (by omega)]
          refine ⟨hjn, k0, hkp, hjn, hkn, i0, hip, hin, hin, k0, hkp, hin, hkn, hin, k0, hkp, hin, hkn, ?_⟩
          refine hag3 (_, k + 1) ⟨by simp only; omega, by simp only; omega, ?_⟩ (by simp only; omega)
          simp only [toNat_succ k0]
          rw [← hkt, hK, I_set, II_set]
          congr 1
          refine T2_set hin hkn ?_ (fun a b ha hb hab => ?_)
          · rw [mts, if_pos (by omega), mt, hx]
          · rw [mts, mts]
            exact ifc (by omega)
        · rw [wrap_id (n := i + 1) (by omega) (by omega)]
          refine hag2 (rs, i + 1) ⟨by simp only; omega, by simp only; omega, ?_⟩ (by simp only; omega)
          simp only [toNat_succ i0]
          rw [← hit, hK, show k.toNat = P.length by omega, mts_row]
      · rw [wrap_id (n := j + 1) (by omega) (by omega)]
        refine hag (ms, j + 1) ⟨by simp only; omega, by simp only; omega, ?_⟩ (by simp only; omega)
        simp only [toNat_succ j0]
        rw [← hjt, hI, show i.toNat = P.length by omega]
        congr 1
        refine T2_congr fun a b ha hb => ?_
        rw [mts, mts, if_pos (.inl ha), if_neg (by omega)]
    · rw [hr, hf0, hJ, show j.toNat = P.length by omega]
      rw [show T2 P.length (mts p P.length 0 0) = T2 P.length (exc p P.length) from T2_congr fun a b ha hb => by rw [mts, if_neg (by omega), exc]]
  · cases h
end Go.Ax
