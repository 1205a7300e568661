/-
  Tangents of curves. No conditions but those of the contracts.
-/
import Derived.Test.YtpbkkbjgmlfloaaGcp
set_option linter.all false
namespace Go.Ax
open Go.Proofs

def tk (ms : List (List Int)) (i : Nat) : Option Nat := (List.range i).find? fun k => decide (2 ≤ mm ms i k)
theorem tk_some {ms : List (List Int)} {i k : Nat} (hk : k < i) (hb : ∀ t, t < k → ¬ 2 ≤ mm ms i t) (hd : 2 ≤ mm ms i k) : tk ms i = some k := by
  rw [tk, List.find?_range_eq_some]
  refine ⟨by simpa using hd, by simpa using hk, fun j hj => ?_⟩
  simpa using hb j hj
theorem tk_none {ms : List (List Int)} {i : Nat} (hb : ∀ t, t < i → ¬ 2 ≤ mm ms i t) : tk ms i = none := by
  rw [tk, List.find?_eq_none]
  intro t ht
  simpa using hb t (by simpa using ht)
def tanS (ms : List (List Int)) : Nat → List Int × Int
  | 0 => ([], 0)
  | i + 1 => match tk ms i with
    | some k => ((tanS ms i).1 ++ [(tanS ms i).1.getD k 0], (tanS ms i).2)
    | none => ((tanS ms i).1 ++ [(tanS ms i).2], (tanS ms i).2 + 1)
theorem tk_lt {ms : List (List Int)} {i k : Nat} (h : tk ms i = some k) : k < i := by
  rw [tk, List.find?_range_eq_some] at h
  simpa using h.2.1
theorem tanS_in (ms : List (List Int)) : ∀ i, (tanS ms i).1.length = i ∧ 0 ≤ (tanS ms i).2 ∧ (tanS ms i).2 ≤ i ∧ ∀ k, k < i → 0 ≤ (tanS ms i).1.getD k 0 ∧ (tanS ms i).1.getD k 0 < (tanS ms i).2
  | 0 => by simp [tanS]
  | i + 1 => by
    obtain ⟨h1, h2, h3, h4⟩ := tanS_in ms i
    have key : ∀ (x : Int) (k : Nat), k < i + 1 → ((tanS ms i).1 ++ [x]).getD k 0 = if k = i then x else (tanS ms i).1.getD k 0 := fun x k hk => by
      simp only [List.getD_eq_getElem?_getD]
      by_cases hki : k = i
      · rw [hki, if_pos rfl, List.getElem?_append_right (by omega), h1]
        simp
      · rw [if_neg hki, List.getElem?_append_left (by omega)]
    cases ht : tk ms i with
    | some k =>
      have hk := tk_lt ht
      have h5 := h4 k hk
      refine ⟨by simp [tanS, ht, h1], by simp only [tanS, ht]; omega, by simp only [tanS, ht]; omega, fun k' hk' => ?_⟩
      simp only [tanS, ht]
      rw [key _ _ hk']
      split
      · exact h5
      · exact h4 k' (by omega)
    | none =>
      refine ⟨by simp [tanS, ht, h1], by simp only [tanS, ht]; omega, by simp only [tanS, ht]; omega, fun k' hk' => ?_⟩
      simp only [tanS, ht]
      rw [key _ _ hk']
      split
      · omega
      · have := h4 k' (by omega)
        omega
def f_tan (a b : List V) : List V := I (tanS (unII b) a.length).1
set_option maxRecDepth 100000 in
theorem s_impl_tangents : Sat Try.prog 50 (c_C_l f_tan q_cv) := by
  intro args ps r h hp
  unfold c_C_l at h
  split at h
  · rename_i a0 a1
    simp only [Option.some.injEq, Prod.mk.injEq] at h
    obtain ⟨rfl, rfl⟩ := h
    obtain ⟨⟨⟨bs, hbs, hb1, hb2⟩, ⟨ms, hms, hm1, hm2⟩⟩, hcv⟩ := (alls_cons.1 hp).1
    rw [hbs, hms, unBB_BB, unII_II] at hcv
    have g1 : V.frzs a0 = a0 := by rw [hbs, BB_frzs]
    have g2 : V.frzs a1 = a1 := by rw [hms, II_frzs]
    have hbl : a0.length = bs.length := by rw [hbs, BB_length]
    have hml : a1.length = ms.length := by rw [hms, II_length]
    have gb : ∀ k, a0.getD k (.agg [.slc false 2 (.int .i64 0) []]) = .agg [.slc false 2 (.int .i64 0) (I (bs.getD k []))] := fun k => by rw [hbs, BB_getD]
    have gm : ∀ k, a1.getD k (.slc false 2 (.int .i64 0) []) = .slc false 2 (.int .i64 0) (I (ms.getD k [])) := fun k => by rw [hms, II_getD]
    have hm0 : ∀ x y : Nat, (ms.getD x []).getD y 0 = mm ms x y := fun _ _ => rfl
    obtain ⟨n, hn⟩ : ∃ n : Int, n = bs.length := ⟨_, rfl⟩
    have n1 := hcv.n1
    have n6 := hcv.n6
    have hmn : ms.length = bs.length := hcv.tab.len
    have hbr : ∀ i, i < bs.length → Br (bs.getD i []) := fun i hi => br_of (hcv.br i hi)
    have rl : ∀ k, k < bs.length → (ms.getD k []).length = bs.length := fun k hk => (hcv.tab.row k hk).1
    have mmr : ∀ i k, i < bs.length → k < bs.length → 0 ≤ mm ms i k ∧ mm ms i k ≤ 200 := fun i k hi hk => hcv.tab.range hi hk
    have mmo : ∀ i k, i < bs.length → k < bs.length → i ≠ k → 1 ≤ mm ms i k ∧ mm ms i k ≤ 200 := fun i k hi hk hne => ((hcv.tab.row i hi).2 k hk).2 hne
    have hf0 : f_tan a0 a1 = I (tanS ms bs.length).1 := by rw [f_tan, hbl, hms, unII_II]
    refine fnOk_ofI (T := tab) (B := []) (Bi := []) [0, 1, 2, 3, 4, 5, 6, 7, 11, 12, 16, 17] Try.func50 rfl rfl (by kernel_rfl) (Nat.le_of_ble_eq_true rfl) mixed tabOk (by exact bookNil) (by exact bookINil) (by kernel_rfl) ?_
    intro L lp rr hL hr hf hlp
    conv => cbv
    refine hlp (List V × Int × Int) _ _ _ [1, 3, 4, 11, 12] (fun x => [(1, none, .val (.box 31 (.agg [.slc false 58 (.agg [.slc false 2 (.int .i64 0) []]) a0, .slc false 53 (.slc false 2 (.int .i64 0) []) a1]))), (3, none, .val (.slc true 2 (.int .i64 0) x.1)), (4, none, .val (.int .i64 x.2.1)), (11, none, .val (.int .i64 n)), (12, none, .val (.int .i64 x.2.2))])
      (fun x => 0 ≤ x.2.2 ∧ x.2.2 ≤ n ∧ x.1 = I (tanS ms x.2.2.toNat).1 ∧ x.2.1 = (tanS ms x.2.2.toNat).2) (fun x => (n - x.2.2).toNat) (([], 0, 0)) (by subst hL; rw [hn, ← hbl]; rfl) ?_ ?_
    · exact ⟨by simp, by simp only; omega, rfl, rfl⟩
    rintro ⟨es, nx, i⟩ ⟨i0, i1, hI, hN⟩ hfx ag hag
    simp only at i0 i1 hI hN
    conv => cbv
    simp only [stdEqs hL, imp_self, true_and, and_true, bif_or, bif_and, Bool.or_eq_true, Bool.or_eq_false_iff, Bool.and_eq_true, Bool.and_eq_false_iff, decide_eq_true_eq, decide_eq_false_iff_not, Bool.not_eq_true', Bool.not_eq_false', beq_iff_eq, beq_eq_false_iff_ne, ne_eq, toNat0, toNat1, ok_int, toI_int, I_frzs, I_length, I_getD, ok_ints, toL_slc,]
    refine ⟨fun h2 => ?_, fun h2 => ?_⟩
    · have hri := rl i.toNat (by omega)
      obtain ⟨t1, t2, t3, t4⟩ := tanS_in ms i.toNat
      have hel : es.length = i.toNat := by rw [hI, I_length, t1]
      have ge : ∀ k, es.getD k (.int .i64 0) = .int .i64 ((tanS ms i.toNat).1.getD k 0) := fun k => by rw [hI, I_getD]
      rw [← hN] at t2 t3 t4
      have fin : ∀ v nx', tanS ms (i.toNat + 1) = ((tanS ms i.toNat).1 ++ [v], nx') → ag [(1, none, .val (.box 31 (.agg [.slc false 58 (.agg [.slc false 2 (.int .i64 0) []]) a0, .slc false 53 (.slc false 2 (.int .i64 0) []) a1]))), (3, none, .val (.slc true 2 (.int .i64 0) (es ++ [V.int .i64 v]))), (4, none, .val (.int .i64 nx')), (11, none, .val (.int .i64 n)), (12, none, .val (.int .i64 (i + 1)))] := fun v nx' he =>
        hag (_, nx', i + 1) ⟨by simp only; omega, by simp only; omega, by simp only [toNat_succ i0]; rw [he, hI, ← I_append]; rfl, by simp only [toNat_succ i0]; rw [he]⟩ (by simp only; omega)
      refine hlp (Int) _ _ _ [1, 3, 4, 5, 6, 11, 12, 16, 17] (fun x => [(1, none, .val (.box 31 (.agg [.slc false 58 (.agg [.slc false 2 (.int .i64 0) []]) a0, .slc false 53 (.slc false 2 (.int .i64 0) []) a1]))), (3, none, .val (.slc true 2 (.int .i64 0) es)), (4, none, .val (.int .i64 nx)), (5, none, .val (.int .i64 i)), (6, none, .val (.int .i64 nx)), (11, none, .val (.int .i64 n)), (12, none, .val (.int .i64 i)), (16, none, .val (.int .i64 i)), (17, none, .val (.int .i64 x))])
        (fun x => 0 ≤ x ∧ x ≤ i ∧ ∀ t : Nat, t < x.toNat → ¬ 2 ≤ mm ms i.toNat t) (fun x => (i - x).toNat) (0) (by subst hL; rfl) ?_ ?_
      · exact ⟨by omega, by omega, fun t ht => by simp at ht⟩
      rintro k ⟨k0, k1, hK⟩ hfx2 ag2 hag2
      conv => cbv
      simp only [stdEqs hL, imp_self, true_and, and_true, bif_or, bif_and, Bool.or_eq_true, Bool.or_eq_false_iff, Bool.and_eq_true, Bool.and_eq_false_iff, decide_eq_true_eq, decide_eq_false_iff_not, Bool.not_eq_true', Bool.not_eq_false', beq_iff_eq, beq_eq_false_iff_ne, ne_eq, toNat0, toNat1, ok_int, toI_int, I_frzs, I_length, I_getD, ok_ints, toL_slc, gm, hml, hm0, hri, ge, hel]
      refine ⟨fun h3 => ⟨i0, by omega, k0, by omega, fun h4 => ⟨k0, by omega, by omega, fun h5 => ?_, fun h5 => ?_⟩, fun h4 => ?_⟩, fun h3 => ⟨fun _ => ?_, fun h => absurd trivial h⟩⟩
      · have := t4 k.toNat (by omega)
        omega
      · have hs : tk ms i.toNat = some k.toNat := tk_some (by omega) hK h4
        rw [wrap_id (n := i + 1) (by omega) (by omega)]
        (repeat' first | (exact solid_one _) | (exact solid1 rfl) | (exact noown_one _) | (apply And.intro) | (intro _)) <;> (try first | exact True.intro | omega | rfl | (simp only [List.length_cons, List.length_nil, I_length]; omega))
        refine fin _ _ ?_
        simp only [tanS, hs, hN]
      · rw [wrap_id (n := k + 1) (by omega) (by omega)]
        refine hag2 (k + 1) ⟨by omega, by omega, fun t ht => ?_⟩ (by omega)
        by_cases htk : t = k.toNat
        · rw [htk]; exact h4
        · exact hK t (by omega)
      · have hs : tk ms i.toNat = none := tk_none (fun t ht => hK t (by omega))
        rw [wrap_id (n := i + 1) (by omega) (by omega), wrap_id (n := nx + 1) (by omega) (by omega)]
        (repeat' first | (exact solid_one _) | (exact solid1 rfl) | (exact noown_one _) | (apply And.intro) | (intro _)) <;> (try first | exact True.intro | omega | rfl | (simp only [List.length_cons, List.length_nil, I_length]; omega))
        refine fin _ _ ?_
        simp only [tanS, hs, hN]
    · rw [hr, hf0, hI, show i.toNat = bs.length by omega]
  · cases h
def Own (ms : List (List Int)) (L : List Int) (i : Nat) (own : Int) (k : Nat) : Prop := (own = -1 ∧ ∀ t, t < k → ¬ 2 ≤ mm ms i t) ∨ ∃ c, tk ms i = some c ∧ own = L.getD c 0
set_option maxRecDepth 100000 in
theorem s_spec_l10Tangents : Sat Try.prog 37 (c_C_l f_tan q_cv) := by
  intro args ps r h hp
  unfold c_C_l at h
  split at h
  · rename_i a0 a1
    simp only [Option.some.injEq, Prod.mk.injEq] at h
    obtain ⟨rfl, rfl⟩ := h
    obtain ⟨⟨⟨bs, hbs, hb1, hb2⟩, ⟨ms, hms, hm1, hm2⟩⟩, hcv⟩ := (alls_cons.1 hp).1
    rw [hbs, hms, unBB_BB, unII_II] at hcv
    have g1 : V.frzs a0 = a0 := by rw [hbs, BB_frzs]
    have g2 : V.frzs a1 = a1 := by rw [hms, II_frzs]
    have hbl : a0.length = bs.length := by rw [hbs, BB_length]
    have hml : a1.length = ms.length := by rw [hms, II_length]
    have gb : ∀ k, a0.getD k (.agg [.slc false 2 (.int .i64 0) []]) = .agg [.slc false 2 (.int .i64 0) (I (bs.getD k []))] := fun k => by rw [hbs, BB_getD]
    have gm : ∀ k, a1.getD k (.slc false 2 (.int .i64 0) []) = .slc false 2 (.int .i64 0) (I (ms.getD k [])) := fun k => by rw [hms, II_getD]
    have hm0 : ∀ x y : Nat, (ms.getD x []).getD y 0 = mm ms x y := fun _ _ => rfl
    obtain ⟨n, hn⟩ : ∃ n : Int, n = bs.length := ⟨_, rfl⟩
    have n1 := hcv.n1
    have n6 := hcv.n6
    have hmn : ms.length = bs.length := hcv.tab.len
    have hbr : ∀ i, i < bs.length → Br (bs.getD i []) := fun i hi => br_of (hcv.br i hi)
    have rl : ∀ k, k < bs.length → (ms.getD k []).length = bs.length := fun k hk => (hcv.tab.row k hk).1
    have mmr : ∀ i k, i < bs.length → k < bs.length → 0 ≤ mm ms i k ∧ mm ms i k ≤ 200 := fun i k hi hk => hcv.tab.range hi hk
    have mmo : ∀ i k, i < bs.length → k < bs.length → i ≠ k → 1 ≤ mm ms i k ∧ mm ms i k ≤ 200 := fun i k hi hk hne => ((hcv.tab.row i hi).2 k hk).2 hne
    have hf0 : f_tan a0 a1 = I (tanS ms bs.length).1 := by rw [f_tan, hbl, hms, unII_II]
    refine fnOk_ofI (T := tab) (B := []) (Bi := []) [0, 1, 2, 3, 4, 5, 6, 7] Try.func37 rfl rfl (by kernel_rfl) (Nat.le_of_ble_eq_true rfl) mixed tabOk (by exact bookNil) (by exact bookINil) (by kernel_rfl) ?_
    intro L lp rr hL hr hf hlp
    conv => cbv
    refine hlp (List V × Int × Int) _ _ _ [1, 3, 4, 5] (fun x => [(1, none, .val (.box 31 (.agg [.slc false 58 (.agg [.slc false 2 (.int .i64 0) []]) a0, .slc false 53 (.slc false 2 (.int .i64 0) []) a1]))), (3, none, .val (.slc true 2 (.int .i64 0) x.1)), (4, none, .val (.int .i64 x.2.1)), (5, none, .val (.int .i64 x.2.2))])
      (fun x => 0 ≤ x.2.2 ∧ x.2.2 ≤ n ∧ x.1 = I (tanS ms x.2.2.toNat).1 ∧ x.2.1 = (tanS ms x.2.2.toNat).2) (fun x => (n - x.2.2).toNat) (([], 0, 0)) (by subst hL; rfl) ?_ ?_
    · exact ⟨by simp, by simp only; omega, rfl, rfl⟩
    rintro ⟨es, nx, i⟩ ⟨i0, i1, hI, hN⟩ hfx ag hag
    simp only at i0 i1 hI hN
    conv => cbv
    simp only [stdEqs hL, imp_self, true_and, and_true, bif_or, bif_and, Bool.or_eq_true, Bool.or_eq_false_iff, Bool.and_eq_true, Bool.and_eq_false_iff, decide_eq_true_eq, decide_eq_false_iff_not, Bool.not_eq_true', Bool.not_eq_false', beq_iff_eq, beq_eq_false_iff_ne, ne_eq, toNat0, toNat1, ok_int, toI_int, I_frzs, I_length, I_getD, ok_ints, toL_slc, hbl, ← hn]
    refine ⟨fun h2 => ?_, fun h2 => ?_⟩
    · have hri := rl i.toNat (by omega)
      obtain ⟨t1, t2, t3, t4⟩ := tanS_in ms i.toNat
      have hel : es.length = i.toNat := by rw [hI, I_length, t1]
      have ge : ∀ k, es.getD k (.int .i64 0) = .int .i64 ((tanS ms i.toNat).1.getD k 0) := fun k => by rw [hI, I_getD]
      rw [← hN] at t2 t3 t4
      have fin : ∀ v nx', tanS ms (i.toNat + 1) = ((tanS ms i.toNat).1 ++ [v], nx') → ag [(1, none, .val (.box 31 (.agg [.slc false 58 (.agg [.slc false 2 (.int .i64 0) []]) a0, .slc false 53 (.slc false 2 (.int .i64 0) []) a1]))), (3, none, .val (.slc true 2 (.int .i64 0) (es ++ [V.int .i64 v]))), (4, none, .val (.int .i64 nx')), (5, none, .val (.int .i64 (i + 1)))] := fun v nx' he =>
        hag (_, nx', i + 1) ⟨by simp only; omega, by simp only; omega, by simp only [toNat_succ i0]; rw [he, hI, ← I_append]; rfl, by simp only [toNat_succ i0]; rw [he]⟩ (by simp only; omega)
      refine hlp (Int × Int) _ _ _ [1, 3, 4, 5, 6, 7] (fun x => [(1, none, .val (.box 31 (.agg [.slc false 58 (.agg [.slc false 2 (.int .i64 0) []]) a0, .slc false 53 (.slc false 2 (.int .i64 0) []) a1]))), (3, none, .val (.slc true 2 (.int .i64 0) es)), (4, none, .val (.int .i64 nx)), (5, none, .val (.int .i64 i)), (6, none, .val (.int .i64 x.1)), (7, none, .val (.int .i64 x.2))])
        (fun x => 0 ≤ x.2 ∧ x.2 ≤ i ∧ Own ms (tanS ms i.toNat).1 i.toNat x.1 x.2.toNat) (fun x => (i - x.2).toNat) ((-1, 0)) (by subst hL; rfl) ?_ ?_
      · exact ⟨by simp, by simp only; omega, .inl ⟨rfl, fun t ht => by simp at ht⟩⟩
      rintro ⟨own, k⟩ ⟨k0, k1, hK⟩ hfx2 ag2 hag2
      simp only at k0 k1 hK
      conv => cbv
      simp only [stdEqs hL, imp_self, true_and, and_true, bif_or, bif_and, Bool.or_eq_true, Bool.or_eq_false_iff, Bool.and_eq_true, Bool.and_eq_false_iff, decide_eq_true_eq, decide_eq_false_iff_not, Bool.not_eq_true', Bool.not_eq_false', beq_iff_eq, beq_eq_false_iff_ne, ne_eq, toNat0, toNat1, ok_int, toI_int, I_frzs, I_length, I_getD, ok_ints, toL_slc, gm, hml, hm0, hri, ge, hel]
      refine ⟨fun h3 => ⟨i0, by omega, k0, by omega, fun h4 => ?_, fun h4 => ?_⟩, fun h3 => ⟨fun h4 => ?_, fun h4 => ?_⟩⟩
      · have hno : own = -1 ∧ ∀ t, t < k.toNat → ¬ 2 ≤ mm ms i.toNat t := by
          rcases hK with h | ⟨c, hc, ho⟩
          · exact h
          · have := t4 c (tk_lt hc)
            omega
        rw [wrap_id (n := k + 1) (by omega) (by omega)]
        (repeat' first | (exact solid_one _) | (exact solid1 rfl) | (exact noown_one _) | (apply And.intro) | (intro _)) <;> (try first | exact True.intro | omega | rfl | (simp only [List.length_cons, List.length_nil, I_length]; omega))
        refine hag2 (_, k + 1) ⟨by simp only; omega, by simp only; omega, .inr ⟨k.toNat, tk_some (by omega) hno.2 h4, rfl⟩⟩ (by simp only; omega)
      · have hno : own = -1 ∧ ∀ t, t < k.toNat → ¬ 2 ≤ mm ms i.toNat t := by
          rcases hK with h | ⟨c, hc, ho⟩
          · exact h
          · have := t4 c (tk_lt hc)
            omega
        rw [wrap_id (n := k + 1) (by omega) (by omega)]
        refine hag2 (own, k + 1) ⟨by simp only; omega, by simp only; omega, .inl ⟨hno.1, fun t ht => ?_⟩⟩ (by simp only; omega)
        simp only at ht
        by_cases htk : t = k.toNat
        · rw [htk]; exact h4
        · exact hno.2 t (by omega)
      · have hs : tk ms i.toNat = none := by
          rcases hK with h | ⟨c, hc, ho⟩
          · exact tk_none (fun t ht => h.2 t (by omega))
          · have := t4 c (tk_lt hc)
            omega
        rw [wrap_id (n := i + 1) (by omega) (by omega), wrap_id (n := nx + 1) (by omega) (by omega)]
        (repeat' first | (exact solid_one _) | (exact solid1 rfl) | (exact noown_one _) | (apply And.intro) | (intro _)) <;> (try first | exact True.intro | omega | rfl | (simp only [List.length_cons, List.length_nil, I_length]; omega))
        refine fin _ _ ?_
        simp only [tanS, hs, hN]
      · obtain ⟨c, hc, ho⟩ : ∃ c, tk ms i.toNat = some c ∧ own = (tanS ms i.toNat).1.getD c 0 := by
          rcases hK with h | h
          · omega
          · exact h
        rw [wrap_id (n := i + 1) (by omega) (by omega)]
        (repeat' first | (exact solid_one _) | (exact solid1 rfl) | (exact noown_one _) | (apply And.intro) | (intro _)) <;> (try first | exact True.intro | omega | rfl | (simp only [List.length_cons, List.length_nil, I_length]; omega))
        refine fin _ _ ?_
        simp only [tanS, hc, hN, ho]
    · rw [hr, hf0, hI, show i.toNat = bs.length by omega]
  · cases h
end Go.Ax
