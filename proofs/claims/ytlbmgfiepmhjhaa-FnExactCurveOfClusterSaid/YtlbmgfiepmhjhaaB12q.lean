import Derived.Test.YtlbmgfiepmhjhaaB10q
import Derived.Test.YtlbmgfiepmhjhaaB11q
import Derived.Test.YtlbmgfiepmhjhaaB07q
/-
  Proximity and intersection matrices of clusters, both sides. No conditions but those of the contracts.
-/
set_option linter.all false
namespace Go.Ax
open Go.Proofs

theorem ifc {a b : Prop} [Decidable a] [Decidable b] (h : a ↔ b) {x y : Int} : (if a then x else y) = if b then x else y := by
  by_cases ha : a
  · rw [if_pos ha, if_pos (h.1 ha)]
  · rw [if_neg ha, if_neg (fun hb => ha (h.2 hb))]
theorem ClP.low {P S Q : List Int} (h : ClP P S Q) {i : Nat} (hi : i < P.length) : -1 ≤ P.getD i 0 ∧ P.getD i 0 < i ∧ -1 ≤ S.getD i 0 ∧ (0 < i → S.getD i 0 < i) ∧ (0 < i → 0 ≤ P.getD i 0) ∧ (i = 0 → P.getD i 0 = -1 ∧ S.getD i 0 = -1) := by
  obtain ⟨h1, h2, h3, h4⟩ := place_low (i := i) (fun t ht => h.place t (by omega)) i (Nat.le_refl _)
  refine ⟨h1, h2, h3, h4, fun h0 => ?_, fun h0 => ?_⟩
  · exact ((placeB_s (by omega)).1 (h.place i hi)).1.1
  · subst h0; exact placeB_0.1 (h.place 0 hi)
def q_Kv (a b c : List V) : Prop := q_K a b c ∧ ClP (unI a) (unI b) (unI c)
theorem q_Kv_of {a b c : List V} (h : q_K a b c) (h2 : f_isCl a b c = true) : q_Kv a b c := ⟨h, isCl_iff.1 h2⟩
def proxs (P S : List Int) (i : Nat) : List Int := if i = 0 then [] else (if 0 ≤ S.getD i 0 then [S.getD i 0] else []) ++ [P.getD i 0]
def cpx (P S : List Int) (k n : Nat) : List (List Int) := tab' (fun i => if i < k then proxs P S i else []) n
def c_K_m (f : List V → List V → List V → List V) (q : List V → List V → List V → Prop) : Contract := fun
  | [.agg [.slc false 2 (.int .i64 0) a0, .slc false 2 (.int .i64 0) a1, .slc false 2 (.int .i64 0) a2]] => some ([q a0 a1 a2], .slc true 22 (.slc true 2 (.int .i64 0) []) (f a0 a1 a2))
  | _ => none
def f_cpx (a b _ : List V) : List V := II true (cpx (unI a) (unI b) a.length a.length)
theorem cpx_step {P S : List Int} {k n : Nat} (hk : k < n) (h0 : k ≠ 0) : (cpx P S k n).set k ((if 0 ≤ S.getD k 0 then [S.getD k 0] else []) ++ [P.getD k 0]) = cpx P S (k + 1) n := by
  rw [cpx, tab_setG _ _ hk, cpx]
  refine tab_congr fun j hj => ?_
  by_cases h : j = k
  · subst h
    rw [if_pos rfl, if_pos (show j < j + 1 by omega), proxs, if_neg h0]
  · rw [if_neg h]
    by_cases h2 : j < k
    · rw [if_pos h2, if_pos (by omega)]
    · rw [if_neg h2, if_neg (by omega)]
theorem cpx_at {P S : List Int} {k n : Nat} (hk : k < n) : (cpx P S k n).getD k [] = [] := by rw [cpx, tab_get _ _ _ _ hk, if_neg (Nat.lt_irrefl _)]
set_option maxHeartbeats 1000000 in
set_option maxRecDepth 100000 in
theorem s_impl_clusterProximates : Sat Try.prog 110 (c_K_m f_cpx q_Kv) := by
  intro args ps r h hp
  unfold c_K_m at h
  split at h
  · rename_i a0 a1 a2
    simp only [Option.some.injEq, Prod.mk.injEq] at h
    obtain ⟨rfl, rfl⟩ := h
    have hqv : q_Kv a0 a1 a2 := (alls_cons.1 hp).1
    obtain ⟨⟨⟨P, hP⟩, ⟨S, hS⟩, ⟨Q, hQ⟩⟩, hcl⟩ := id hqv
    rw [hP, hS, hQ, unI_I, unI_I, unI_I] at hcl
    have g0 : V.frzs a0 = a0 := by rw [hP, I_frzs]
    have g1 : V.frzs a1 = a1 := by rw [hS, I_frzs]
    have g2 : V.frzs a2 = a2 := by rw [hQ, I_frzs]
    have hpl : a0.length = P.length := by rw [hP, I_length]
    have hsl : a1.length = P.length := by rw [hS, I_length, hcl.sl]
    have hql : a2.length = P.length := by rw [hQ, I_length, hcl.ql]
    have gp : ∀ k, a0.getD k (.int .i64 0) = .int .i64 (P.getD k 0) := fun k => by rw [hP, I_getD]
    have gs : ∀ k, a1.getD k (.int .i64 0) = .int .i64 (S.getD k 0) := fun k => by rw [hS, I_getD]
    have gq : ∀ k, a2.getD k (.int .i64 0) = .int .i64 (Q.getD k 0) := fun k => by rw [hQ, I_getD]
    obtain ⟨n, hn⟩ : ∃ n : Int, n = P.length := ⟨_, rfl⟩
    have n1 := hcl.n1
    have n24 := hcl.n24
    have low := fun t ht => hcl.low (i := t) ht
    have hf0 : f_cpx a0 a1 a2 = II true (cpx P S P.length P.length) := by rw [f_cpx, hpl, hP, hS, unI_I, unI_I]
    refine fnOk_ofI (T := tab) (B := []) (Bi := []) [3000006000, 3000006001, 3000007000, 3000007001, 0, 1, 2, 3, 4] Try.func110 rfl rfl (by kernel_rfl) (Nat.le_of_ble_eq_true rfl) mixed tabOk (by exact bookNil) (by exact bookINil) (by kernel_rfl) ?_
    intro L lp rr hL hr hf hlp
    conv => cbv
    simp only [stdEqs hL, imp_self, true_and, and_true, bif_or, bif_and, Bool.or_eq_true, Bool.or_eq_false_iff, Bool.and_eq_true, Bool.and_eq_false_iff, decide_eq_true_eq, decide_eq_false_iff_not, Bool.not_eq_true', Bool.not_eq_false', beq_iff_eq, beq_eq_false_iff_ne, ne_eq, toNat0, toNat1, ok_int, toI_int, I_frzs, I_length, I_getD, ok_ints, toL_slc, hpl, ← hn]
    obtain ⟨s0, hs0⟩ : ∃ s0, s0 = List.replicate n.toNat (V.slc true 2 (V.int IntKind.i64 0) []) := ⟨_, rfl⟩
    have hs00 : s0 = II true (cpx P S 1 P.length) := by
      have e : cpx P S 1 P.length = List.replicate P.length [] := by
        rw [List.eq_replicate_iff]
        refine ⟨tab_len _ _, fun b hb => ?_⟩
        simp only [cpx, tab', List.mem_map, List.mem_range] at hb
        obtain ⟨x, hx, rfl⟩ := hb
        by_cases h : x < 1
        · rw [if_pos h, proxs, if_pos (by omega)]
        · rw [if_neg h]
      rw [hs0, e, II_replicate, hn, Int.toNat_natCast]
      rfl
    rw [← hs0]
    refine ⟨by omega, by omega, by omega, ?_⟩
    refine hlp (List V × Int) _ _ _ [1, 3, 4] (fun x => [(1, none, .val (.box 46 (.agg [.slc false 2 (.int .i64 0) a0, .slc false 2 (.int .i64 0) a1, .slc false 2 (.int .i64 0) a2]))), (3, none, .val (.slc true 22 (.slc true 2 (.int .i64 0) []) x.1)), (4, none, .val (.int .i64 x.2))])
      (fun x => 1 ≤ x.2 ∧ x.2 ≤ n ∧ x.1 = II true (cpx P S x.2.toNat P.length)) (fun x => (n - x.2).toNat) ((s0, 1)) (by subst hL; rfl) ?_ ?_
    · exact ⟨by simp, by simp only; omega, hs00⟩
    rintro ⟨ls, i⟩ ⟨i0, i1, hI⟩ hfx ag hag
    simp only at i0 i1 hI
    have hll : ls.length = P.length := by rw [hI, II_length, cpx, tab_len]
    have gls : ∀ j, ls.getD j (.slc true 2 (.int .i64 0) []) = .slc true 2 (.int .i64 0) (I ((cpx P S i.toNat P.length).getD j [])) := fun j => by rw [hI, II_getD]
    conv => cbv
    simp only [stdEqs hL, imp_self, true_and, and_true, bif_or, bif_and, Bool.or_eq_true, Bool.or_eq_false_iff, Bool.and_eq_true, Bool.and_eq_false_iff, decide_eq_true_eq, decide_eq_false_iff_not, Bool.not_eq_true', Bool.not_eq_false', beq_iff_eq, beq_eq_false_iff_ne, ne_eq, toNat0, toNat1, ok_int, toI_int, I_frzs, I_length, I_getD, ok_ints, toL_slc, hll, gls, gp, gs, hpl, hsl, ← hn]
    refine ⟨fun h2 => ?_, fun h2 => ?_⟩
    · have i0' : 0 ≤ i := by omega
      obtain ⟨k, hk⟩ : ∃ k, k = i.toNat := ⟨_, rfl⟩
      have hkn : k < P.length := by omega
      have hst := cpx_step (P := P) (S := S) hkn (by omega)
      have hat := cpx_at (P := P) (S := S) hkn
      have hs1 : ∀ x, (ls.set k x).getD k (.slc true 2 (.int .i64 0) []) = x := fun x => by rw [set_getD (by omega), if_pos rfl]
      have snoc : ∀ (xs : List Int) (x : Int), I xs ++ [V.int .i64 x] = I (xs ++ [x]) := fun xs x => by simp [I]
      have hole1 : OkS tab 22 (V.hole 1) := .inr ⟨_, rfl, rfl, rfl⟩
      have sol : ∀ n : Int, ∀ x : V, x ∈ [V.int .i64 n] → x.solid = true := fun n x hx => by
        simp only [List.mem_singleton] at hx
        subst hx; rfl
      rw [← hk] at hI
      simp only [← hk, hat, List.set_set, List.length_set, hs1, snoc, ok_ints, toL_slc, I_length, hll, true_and]
      rw [wrap_id (n := i + 1) (by omega) (by omega)]
      have q1 : ∀ v : V, (([] : List Int).length : Int) + ([v].length : Int) ≤ 2147483647 := fun v => by simp only [List.length_cons, List.length_nil]; omega
      have q2 : ∀ (x : Int) (v : V), (([] ++ [x] : List Int).length : Int) + ([v].length : Int) ≤ 2147483647 := fun x v => by simp only [List.nil_append, List.length_cons, List.length_nil]; omega
      have hip : i < (P.length : Int) := by omega
      have fin : ∀ l : List Int, l = (if 0 ≤ S.getD k 0 then [S.getD k 0] else []) ++ [P.getD k 0] → (1 ≤ i + 1 ∧ i + 1 ≤ n ∧ ls.set k (.slc true 2 (.int .i64 0) (I l)) = II true (cpx P S (i + 1).toNat P.length)) := fun l hl => by
        rw [toNat_succ i0', ← hk, hI, II_set, hl, hst]
        exact ⟨by omega, by omega, rfl⟩
      refine ⟨i0', h2, fun h3 => ?_, fun h3 => ?_⟩
      · exact ⟨i0', h2, hkn, i0', h2, hkn, rfl, q1 _, sol _, i0', hip, hkn, hole1, i0', hip, hkn, i0', h2, hkn, rfl, q2 _ _, sol _, i0', hip, hkn, hole1, hag (_, i + 1) (fin _ (by rw [if_pos h3]; rfl)) (by simp only; omega)⟩
      · exact ⟨i0', h2, hkn, i0', h2, hkn, rfl, q1 _, sol _, i0', hip, hkn, hole1, hag (_, i + 1) (fin _ (by rw [if_neg h3])) (by simp only; omega)⟩
    · rw [hr, hf0, hI, show i.toNat = P.length by omega]
  · cases h
def T2 (n : Nat) (f : Nat → Nat → Int) : List (List Int) := tab' (fun i => tab' (f i) n) n
theorem T2_len (n : Nat) (f : Nat → Nat → Int) : (T2 n f).length = n := tab_len _ _
theorem T2_row {n i : Nat} (f : Nat → Nat → Int) (h : i < n) : (T2 n f).getD i [] = tab' (f i) n := tab_get _ _ _ _ h
theorem T2_congr {n : Nat} {f g : Nat → Nat → Int} (h : ∀ i k, i < n → k < n → f i k = g i k) : T2 n f = T2 n g := tab_congr fun i hi => tab_congr fun k hk => h i k hi hk
theorem T2_set {n i k : Nat} {f g : Nat → Nat → Int} {v : Int} (h : i < n) (h2 : k < n) (hv : v = g i k) (hg : ∀ a b, a < n → b < n → (a ≠ i ∨ b ≠ k) → g a b = f a b) : (T2 n f).set i (((T2 n f).getD i []).set k v) = T2 n g := by
  rw [T2_row f h, tab_setG _ _ h2, T2, tab_setG _ _ h]
  refine tab_congr fun a ha => ?_
  by_cases e : a = i
  · subst e
    rw [if_pos rfl]
    refine tab_congr fun b hb => ?_
    by_cases e2 : b = k
    · subst e2; rw [if_pos rfl, hv]
    · rw [if_neg e2, hg a b ha hb (.inr e2)]
  · rw [if_neg e]
    exact tab_congr fun b hb => (hg a b ha hb (.inl e)).symm
theorem T2_zero (n : Nat) : List.replicate n (List.replicate n (0 : Int)) = T2 n fun _ _ => 0 := by
  rw [eq_comm, List.eq_replicate_iff]
  refine ⟨tab_len _ _, fun b hb => ?_⟩
  simp only [T2, tab', List.mem_map, List.mem_range] at hb
  obtain ⟨x, hx, rfl⟩ := hb
  rw [List.eq_replicate_iff]
  exact ⟨by simp, by simp⟩
theorem mem_proxs {P S Q : List Int} (h : ClP P S Q) {k b : Nat} (hk : k < P.length) : (b : Int) ∈ proxs P S k ↔ P.getD k 0 = b ∨ S.getD k 0 = b := by
  obtain ⟨l1, l2, l3, l4, l5, l6⟩ := h.low hk
  rw [proxs]
  by_cases h0 : k = 0
  · rw [if_pos h0]
    obtain ⟨h1, h2⟩ := l6 h0
    simp only [List.not_mem_nil, false_iff]
    omega
  · rw [if_neg h0]
    by_cases h1 : 0 ≤ S.getD k 0
    · rw [if_pos h1]
      simp only [List.cons_append, List.nil_append, List.mem_cons, List.not_mem_nil, or_false]
      omega
    · rw [if_neg h1]
      simp only [List.nil_append, List.mem_cons, List.not_mem_nil, or_false]
      omega
theorem proxs_in {P S Q : List Int} (h : ClP P S Q) {k : Nat} (hk : k < P.length) {x : Int} (hx : x ∈ proxs P S k) : 0 ≤ x ∧ x < k := by
  obtain ⟨l1, l2, l3, l4, l5, l6⟩ := h.low hk
  rw [proxs] at hx
  by_cases h0 : k = 0
  · rw [if_pos h0] at hx; simp at hx
  · rw [if_neg h0] at hx
    have h4 := l4 (by omega)
    have h5 := l5 (by omega)
    by_cases h1 : 0 ≤ S.getD k 0
    · rw [if_pos h1] at hx
      simp only [List.cons_append, List.nil_append, List.mem_cons, List.not_mem_nil, or_false] at hx
      omega
    · rw [if_neg h1] at hx
      simp only [List.nil_append, List.mem_cons, List.not_mem_nil, or_false] at hx
      omega
theorem proxs_len (P S : List Int) (k : Nat) : (proxs P S k).length ≤ 2 := by
  rw [proxs]
  split
  · simp
  · split <;> simp
end Go.Ax
/-
  Places of numbers in lists: spec.l01Index, spec.l01Has. No conditions but those of the contracts.
-/
set_option linter.all false
namespace Go.Ax
open Go.Proofs

theorem gAtD {l : List Int} {t : Nat} (h : t < l.length) : l.getD t 0 ∈ l := by
  rw [List.getD_eq_getElem?_getD, List.getElem?_eq_getElem h]; exact List.getElem_mem h
def c_lxi_i (f : List V → Int → Int) (q : List V → Int → Prop) : Contract := fun
  | [.slc false 2 (.int .i64 0) a0, .int .i64 a1] => some ([q a0 a1], .int .i64 (f a0 a1))
  | _ => none
def idx (ls : List Int) (x : Int) : Int := match (List.range ls.length).find? fun t => ls.getD t 0 == x with
  | some t => t
  | none => -1
theorem idx_has {ls : List Int} {x : Int} : decide (0 ≤ idx ls x) = ls.contains x := by
  rw [Bool.eq_iff_iff, decide_eq_true_eq, List.contains_iff_mem, idx]
  cases hf : (List.range ls.length).find? fun t => ls.getD t 0 == x with
  | some t =>
    rw [List.find?_range_eq_some] at hf
    simp only [beq_iff_eq, List.mem_range] at hf
    exact ⟨fun _ => by rw [← hf.1]; exact gAtD hf.2.1, fun _ => by simp only; omega⟩
  | none =>
    rw [List.find?_eq_none] at hf
    refine ⟨fun h => by simp only at h; omega, fun h => ?_⟩
    obtain ⟨t, ht, he⟩ := List.mem_iff_getElem.1 h
    refine absurd ?_ (hf t (by simpa using ht))
    rw [List.getD_eq_getElem?_getD, List.getElem?_eq_getElem ht]
    simpa using he
def f_idx (a : List V) (x : Int) : Int := idx (unI a) x
def q_lI (a : List V) (_ : Int) : Prop := IsIs a
set_option maxHeartbeats 1000000 in
set_option maxRecDepth 100000 in
theorem s_spec_l01Index : Sat Try.prog 77 (c_lxi_i f_idx q_lI) := by
  intro args ps r h hp
  unfold c_lxi_i at h
  split at h
  · rename_i a0 a1
    simp only [Option.some.injEq, Prod.mk.injEq] at h
    obtain ⟨rfl, rfl⟩ := h
    obtain ⟨⟨ls, hls⟩, hll⟩ : q_lI a0 a1 := (alls_cons.1 hp).1
    have hal : a0.length = ls.length := by rw [hls, I_length]
    rw [hal] at hll
    have gl : ∀ k, a0.getD k (.int .i64 0) = .int .i64 (ls.getD k 0) := fun k => by rw [hls, I_getD]
    have hf0 : f_idx a0 a1 = idx ls a1 := by rw [f_idx, hls, unI_I]
    refine fnOk_ofI (T := tab) (B := []) (Bi := []) [0, 1, 4, 5] Try.func77 rfl rfl (by kernel_rfl) (Nat.le_of_ble_eq_true rfl) mixed tabOk (by exact bookNil) (by exact bookINil) (by kernel_rfl) ?_
    intro L lp rr hL hr hf hlp
    conv => cbv
    refine hlp (Int) _ _ _ [0, 1, 5] (fun x => [(0, none, .val (.slc false 2 (.int .i64 0) a0)), (1, none, .val (.int .i64 a1)), (5, none, .val (.int .i64 x))])
      (fun x => 0 ≤ x ∧ x ≤ ls.length ∧ ∀ t, t < x.toNat → ls.getD t 0 ≠ a1) (fun x => (ls.length - x).toNat) (0) (by subst hL; rfl) ?_ ?_
    · exact ⟨by simp, by simp, fun t ht => by simp at ht⟩
    rintro i ⟨i0, i1, hI⟩ hfx ag hag
    conv => cbv
    simp only [stdEqs hL, imp_self, true_and, and_true, bif_or, bif_and, Bool.or_eq_true, Bool.or_eq_false_iff, Bool.and_eq_true, Bool.and_eq_false_iff, decide_eq_true_eq, decide_eq_false_iff_not, Bool.not_eq_true', Bool.not_eq_false', beq_iff_eq, beq_eq_false_iff_ne, ne_eq, toNat0, toNat1, ok_int, toI_int, I_frzs, I_length, I_getD, ok_ints, toL_slc, hal, gl]
    refine ⟨fun h2 => ⟨i0, by omega, fun h3 => ?_, fun h3 => ?_⟩, fun h2 => ?_⟩
    · have hfi : ((List.range ls.length).find? fun t => ls.getD t 0 == a1) = some i.toNat := by
        rw [List.find?_range_eq_some]
        refine ⟨by simpa using h3, by simp only [List.mem_range]; omega, fun t ht => ?_⟩
        have := hI t ht
        simpa using this
      rw [hr, hf0, idx, hfi]
      simp only
      rw [show ((i.toNat : Nat) : Int) = i by omega]
    · rw [wrap_id (n := i + 1) (by omega) (by omega)]
      refine hag (i + 1) ⟨by omega, by omega, fun t ht => ?_⟩ (by omega)
      by_cases hti : t = i.toNat
      · rw [hti]; exact h3
      · exact hI t (by omega)
    · have hfi : ((List.range ls.length).find? fun t => ls.getD t 0 == a1) = none := by
        rw [List.find?_eq_none]
        intro t ht
        simp only [List.mem_range] at ht
        have := hI t (by omega)
        simpa using this
      rw [hr, hf0, idx, hfi]
  · cases h
def c_lxi_b (f : List V → Int → Bool) (q : List V → Int → Prop) : Contract := fun
  | [.slc false 2 (.int .i64 0) a0, .int .i64 a1] => some ([q a0 a1], .bool (f a0 a1))
  | _ => none
def f_has (a : List V) (x : Int) : Bool := (unI a).contains x
set_option maxHeartbeats 1000000 in
set_option maxRecDepth 100000 in
theorem s_spec_l01Has : Sat Try.prog 41 (c_lxi_b f_has q_lI) := by
  intro args ps r h hp
  unfold c_lxi_b at h
  split at h
  · rename_i a0 a1
    simp only [Option.some.injEq, Prod.mk.injEq] at h
    obtain ⟨rfl, rfl⟩ := h
    have hq : q_lI a0 a1 := (alls_cons.1 hp).1
    have g0 : V.frzs a0 = a0 := by obtain ⟨⟨ls, hls⟩, _⟩ := hq; rw [hls, I_frzs]
    generalize H_f_idx : f_idx = F_f_idx
    generalize H_q_lI : q_lI = F_q_lI
    refine fnOk_ofI (T := tab) (B := [(77, c_lxi_i F_f_idx F_q_lI)]) (Bi := []) [0, 1, 4] Try.func41 rfl rfl (by kernel_rfl) (Nat.le_of_ble_eq_true rfl) mixed tabOk (by subst H_f_idx H_q_lI; exact (bookCons s_spec_l01Index bookNil)) (by subst H_f_idx H_q_lI; exact bookINil) (by kernel_rfl) ?_
    intro L lp rr hL hr hf hlp
    conv => cbv
    simp only [stdEqs hL, imp_self, true_and, and_true, bif_or, bif_and, Bool.or_eq_true, Bool.or_eq_false_iff, Bool.and_eq_true, Bool.and_eq_false_iff, decide_eq_true_eq, decide_eq_false_iff_not, Bool.not_eq_true', Bool.not_eq_false', beq_iff_eq, beq_eq_false_iff_ne, ne_eq, toNat0, toNat1, ok_int, toI_int, I_frzs, I_length, I_getD, ok_ints, toL_slc, g0]
    subst H_f_idx H_q_lI
    exact ⟨hq, by rw [hr, f_has, ← idx_has]; rfl⟩
  · cases h
end Go.Ax
