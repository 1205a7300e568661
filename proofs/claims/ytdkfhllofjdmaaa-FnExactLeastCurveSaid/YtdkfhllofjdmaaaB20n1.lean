import Derived.Test.YtdkfhllofjdmaaaB19n1
import Derived.Test.YtdkfhllofjdmaaaB14n1
import Derived.Test.YtdkfhllofjdmaaaB11n1
/-
  CurveEquality, the program's side. No conditions but those of the contracts.
-/
set_option linter.all false
namespace Go.Ax
open Go.Proofs
set_option maxHeartbeats 2000000

def f_fp0 (n : Int) : List V := I (iota n.toNat)
def q_fp0 (n : Int) : Prop := 0 ≤ n ∧ n ≤ 1000000
def c_i_lp (f : Int → List V) (q : Int → Prop) : Contract := fun
  | [.int .i64 a0] => some ([q a0], .slc true 2 (.int .i64 0) (f a0))
  | _ => none
set_option maxHeartbeats 1000000 in
set_option maxRecDepth 100000 in
theorem s_firstPerm : Sat Try.prog 25 (c_i_lp f_fp0 q_fp0) := by
  intro args ps r h hp
  unfold c_i_lp at h
  split at h
  · rename_i m
    simp only [Option.some.injEq, Prod.mk.injEq] at h
    obtain ⟨rfl, rfl⟩ := h
    obtain ⟨m0, m1⟩ : q_fp0 m := (alls_cons.1 hp).1
    refine fnOk_ofI (T := tab) (B := []) (Bi := []) [0, 2, 3, 4, 6, 7] Try.func25 rfl rfl (by kernel_rfl) (Nat.le_of_ble_eq_true rfl) mixed tabOk (by exact bookNil) (by exact bookINil) (by kernel_rfl) ?_
    intro L lp rr hL hr hf hlp
    conv => cbv
    refine hlp (List V × Int) _ _ _ [3, 6, 7] (fun x => [(3, none, .val (.slc true 2 (.int .i64 0) x.1)), (6, none, .val (.int .i64 m)), (7, none, .val (.int .i64 x.2))])
      (fun x => 0 ≤ x.2 ∧ x.2 ≤ m ∧ x.1 = I (iota x.2.toNat)) (fun x => (m - x.2).toNat) (([], 0)) (by subst hL; rfl) ?_ ?_
    · exact ⟨by simp, m0, rfl⟩
    rintro ⟨os, i⟩ ⟨i0, i1, hO⟩ hfx ag hag
    simp only at i0 i1 hO
    have hol : os.length = i.toNat := by rw [hO, I_length, iota_len]
    conv => cbv
    simp only [stdEqs hL, imp_self, true_and, and_true, bif_or, bif_and, Bool.or_eq_true, Bool.or_eq_false_iff, Bool.and_eq_true, Bool.and_eq_false_iff, decide_eq_true_eq, decide_eq_false_iff_not, Bool.not_eq_true', Bool.not_eq_false', beq_iff_eq, beq_eq_false_iff_ne, ne_eq, toNat0, toNat1, ok_int, toI_int, I_frzs, I_length, I_getD, ok_ints, toL_slc, hol]
    rw [wrap_id (n := i + 1) (by omega) (by omega)]
    refine ⟨fun h2 => ⟨rfl, by simp only [List.length_singleton]; omega, solid_one _, ?_⟩, fun h2 => ?_⟩
    · refine hag (_, i + 1) ⟨by simp only; omega, by simp only; omega, ?_⟩ (by simp only; omega)
      simp only [toNat_succ i0]
      rw [hO, show iota (i.toNat + 1) = iota i.toNat ++ [((i.toNat : Nat) : Int)] from tab_succ _ _, ← I_append, show ((i.toNat : Nat) : Int) = i by omega]
      rfl
    · rw [hr, hO, f_fp0, show i.toNat = m.toNat by omega]
  · cases h
structure KcP (bs ms : List (List Int)) : Prop where
  b6 : bs.length ≤ 6
  m6 : ms.length ≤ 6
  bl : ∀ i, i < bs.length → (bs.getD i []).length ≤ 1000
  ml : ∀ i, i < ms.length → (ms.getD i []).length ≤ 6
def f_key (a b : List V) : List V := I (keyC (unBB a) (unII b))
def q_key (a b : List V) : Prop := ∃ bs ms, a = BB false bs ∧ b = II false ms ∧ KcP bs ms
def c_C_lk (f : List V → List V → List V) (q : List V → List V → Prop) : Contract := fun
  | [.agg [.slc false 61 (.agg [.slc false 2 (.int .i64 0) []]) a0, .slc false 27 (.slc false 2 (.int .i64 0) []) a1]] => some ([q a0 a1], .slc true 2 (.int .i64 0) (f a0 a1))
  | _ => none
def keyT (bs : List (List Int)) (k : Nat) : List Int := keyB (bs.take k)
def rowT (ms : List (List Int)) (k : Nat) : List Int := (ms.take k).flatten
theorem keyT_succ {bs : List (List Int)} {k : Nat} (h : k < bs.length) : keyT bs (k + 1) = keyT bs k ++ [((bs.getD k []).length : Int)] ++ bs.getD k [] := by
  rw [keyT, List.take_succ_eq_append_getElem h, keyB, List.map_append, List.flatten_append, List.getD_eq_getElem?_getD, List.getElem?_eq_getElem h]
  simp [keyT, keyB]
theorem keyT_len {bs : List (List Int)} (hb : ∀ i, i < bs.length → (bs.getD i []).length ≤ 1000) : ∀ k, k ≤ bs.length → (keyT bs k).length ≤ k * 1001
  | 0, _ => by simp [keyT, keyB]
  | k + 1, h => by
    have h1 := keyT_len hb k (by omega)
    have h2 := hb k (by omega)
    rw [keyT_succ (by omega), List.length_append, List.length_append]
    simp only [List.length_cons, List.length_nil]
    omega
theorem rowT_succ {ms : List (List Int)} {k : Nat} (h : k < ms.length) : rowT ms (k + 1) = rowT ms k ++ ms.getD k [] := by
  rw [rowT, List.take_succ_eq_append_getElem h, List.flatten_append, List.getD_eq_getElem?_getD, List.getElem?_eq_getElem h]
  simp [rowT]
theorem rowT_len {ms : List (List Int)} (hb : ∀ i, i < ms.length → (ms.getD i []).length ≤ 6) : ∀ k, k ≤ ms.length → (rowT ms k).length ≤ k * 6
  | 0, _ => by simp [rowT]
  | k + 1, h => by
    have h1 := rowT_len hb k (by omega)
    have h2 := hb k (by omega)
    rw [rowT_succ (by omega), List.length_append]
    omega
theorem key_full (bs ms : List (List Int)) : keyT bs bs.length ++ rowT ms ms.length = keyC bs ms := by
  rw [keyT, rowT, List.take_length, List.take_length, keyC]
set_option maxHeartbeats 1000000 in
set_option maxRecDepth 100000 in
theorem s_impl_keyOf : Sat Try.prog 24 (c_C_lk f_key q_key) := by
  intro args ps r h hp
  unfold c_C_lk at h
  split at h
  · rename_i a0 a1
    simp only [Option.some.injEq, Prod.mk.injEq] at h
    obtain ⟨rfl, rfl⟩ := h
    obtain ⟨bs, ms, hbs, hms, hk⟩ : q_key a0 a1 := (alls_cons.1 hp).1
    have g0 : V.frzs a0 = a0 := by rw [hbs, BB_frzs]
    have g1 : V.frzs a1 = a1 := by rw [hms, II_frzs]
    have hbl : a0.length = bs.length := by rw [hbs, BB_length]
    have hml : a1.length = ms.length := by rw [hms, II_length]
    have gb : ∀ k, a0.getD k (.agg [.slc false 2 (.int .i64 0) []]) = .agg [.slc false 2 (.int .i64 0) (I (bs.getD k []))] := fun k => by rw [hbs, BB_getD]
    have gm : ∀ k, a1.getD k (.slc false 2 (.int .i64 0) []) = .slc false 2 (.int .i64 0) (I (ms.getD k [])) := fun k => by rw [hms, II_getD]
    have hf0 : f_key a0 a1 = I (keyT bs bs.length ++ rowT ms ms.length) := by rw [f_key, hbs, hms, unBB_BB, unII_II, key_full]
    obtain ⟨n, hn⟩ : ∃ n : Int, n = bs.length := ⟨_, rfl⟩
    obtain ⟨m, hm⟩ : ∃ m : Int, m = ms.length := ⟨_, rfl⟩
    have b6 := hk.b6
    have m6 := hk.m6
    refine fnOk_ofI (T := tab) (B := []) (Bi := []) [0, 1, 2, 3, 5, 7, 10, 11, 12, 28, 29, 30] Try.func24 rfl rfl (by kernel_rfl) (Nat.le_of_ble_eq_true rfl) mixed tabOk (by exact bookNil) (by exact bookINil) (by kernel_rfl) ?_
    intro L lp rr hL hr hf hlp
    conv => cbv
    simp only [stdEqs hL, imp_self, true_and, and_true, bif_or, bif_and, Bool.or_eq_true, Bool.or_eq_false_iff, Bool.and_eq_true, Bool.and_eq_false_iff, decide_eq_true_eq, decide_eq_false_iff_not, Bool.not_eq_true', Bool.not_eq_false', beq_iff_eq, beq_eq_false_iff_ne, ne_eq, toNat0, toNat1, ok_int, toI_int, I_frzs, I_length, I_getD, ok_ints, toL_slc, g0, g1]
    refine hlp (List V × Int) _ _ _ [1, 3, 10, 11, 12] (fun x => [(1, none, .val (.box 32 (.agg [.slc false 61 (.agg [.slc false 2 (.int .i64 0) []]) a0, .slc false 27 (.slc false 2 (.int .i64 0) []) a1]))), (3, none, .val (.slc true 2 (.int .i64 0) x.1)), (10, none, .val (.slc false 61 (.agg [.slc false 2 (.int .i64 0) []]) a0)), (11, none, .val (.int .i64 n)), (12, none, .val (.int .i64 x.2))])
      (fun x => 0 ≤ x.2 ∧ x.2 ≤ n ∧ x.1 = I (keyT bs x.2.toNat)) (fun x => (n - x.2).toNat) (([], 0)) (by subst hL; rw [hn, ← hbl]; rfl) ?_ ?_
    · exact ⟨by simp, by simp only; omega, rfl⟩
    rintro ⟨os, i⟩ ⟨i0, i1, hO⟩ hfx ag hag
    simp only at i0 i1 hO
    conv => cbv
    simp only [stdEqs hL, imp_self, true_and, and_true, bif_or, bif_and, Bool.or_eq_true, Bool.or_eq_false_iff, Bool.and_eq_true, Bool.and_eq_false_iff, decide_eq_true_eq, decide_eq_false_iff_not, Bool.not_eq_true', Bool.not_eq_false', beq_iff_eq, beq_eq_false_iff_ne, ne_eq, toNat0, toNat1, ok_int, toI_int, I_frzs, I_length, I_getD, ok_ints, toL_slc, hbl, hml, gb, toL_bran, fld_bran]
    refine ⟨fun h2 => ?_, fun h2 => ?_⟩
    · have hin : i.toNat < bs.length := by omega
      have l1 := keyT_len hk.bl i.toNat (by omega)
      have l2 := hk.bl i.toNat hin
      have l3 : os.length ≤ 6006 := by rw [hO, I_length]; omega
      rw [wrap_id (n := i + 1) (by omega) (by omega)]
      refine ⟨i0, by omega, ok_bran _ _ _, rfl, by first | omega | (simp only [List.length_cons, List.length_nil]; omega), solid_one _, I_owneds _, by rw [List.length_append]; simp only [List.length_cons, List.length_nil]; omega, I_solid _, ?_⟩
      refine hag (_, i + 1) ⟨by simp only; omega, by simp only; omega, ?_⟩ (by simp only; omega)
      simp only [toNat_succ i0]
      rw [hO, keyT_succ hin, ← I_append, ← I_append]
      rfl
    · refine hlp (List V × Int) _ _ _ [3, 28, 29, 30] (fun y => [(3, none, .val (.slc true 2 (.int .i64 0) y.1)), (28, none, .val (.slc false 27 (.slc false 2 (.int .i64 0) []) a1)), (29, none, .val (.int .i64 m)), (30, none, .val (.int .i64 y.2))])
        (fun y => 0 ≤ y.2 ∧ y.2 ≤ m ∧ y.1 = I (keyT bs bs.length ++ rowT ms y.2.toNat)) (fun y => (m - y.2).toNat) ((os, 0)) (by subst hL; rw [hm, ← hml]; rfl) ?_ ?_
      · refine ⟨by simp, by simp only; omega, ?_⟩
        simp only
        rw [hO, show i.toNat = bs.length by omega]
        simp [rowT]
      rintro ⟨ks, j⟩ ⟨j0, j1, hK⟩ hfx2 ag2 hag2
      simp only at j0 j1 hK
      have l1 := keyT_len hk.bl bs.length (Nat.le_refl _)
      conv => cbv
      simp only [stdEqs hL, imp_self, true_and, and_true, bif_or, bif_and, Bool.or_eq_true, Bool.or_eq_false_iff, Bool.and_eq_true, Bool.and_eq_false_iff, decide_eq_true_eq, decide_eq_false_iff_not, Bool.not_eq_true', Bool.not_eq_false', beq_iff_eq, beq_eq_false_iff_ne, ne_eq, toNat0, toNat1, ok_int, toI_int, I_frzs, I_length, I_getD, ok_ints, toL_slc, hbl, hml, gm]
      refine ⟨fun h3 => ?_, fun h3 => ?_⟩
      · have hjm : j.toNat < ms.length := by omega
        have l4 := rowT_len hk.ml j.toNat (by omega)
        have l5 := hk.ml j.toNat hjm
        have l6 : ks.length ≤ 6100 := by rw [hK, I_length, List.length_append]; omega
        rw [wrap_id (n := j + 1) (by omega) (by omega)]
        refine ⟨j0, by omega, I_owneds _, by omega, I_solid _, ?_⟩
        refine hag2 (_, j + 1) ⟨by simp only; omega, by simp only; omega, ?_⟩ (by simp only; omega)
        simp only [toNat_succ j0]
        rw [hK, rowT_succ hjm, ← I_append, ← List.append_assoc, ← I_append, ← I_append]
      · rw [hr, hf0, hK, show j.toNat = ms.length by omega]
  · cases h
def q_cpC1 (a b : List V) : Prop := ∃ bs ms, a = BB false bs ∧ b = II false ms ∧ KcP bs ms
def f_cpC1 (a b : List V) : List V × List V := (BB true (unBB a), II true (unII b))
def c_C_Ck (f : List V → List V → List V × List V) (q : List V → List V → Prop) : Contract := fun
  | [.agg [.slc false 61 (.agg [.slc false 2 (.int .i64 0) []]) a0, .slc false 27 (.slc false 2 (.int .i64 0) []) a1]] => some ([q a0 a1], .agg [.slc true 61 (.agg [.slc true 2 (.int .i64 0) []]) ((f a0 a1).1), .slc true 27 (.slc true 2 (.int .i64 0) []) ((f a0 a1).2)])
  | _ => none
set_option maxHeartbeats 1000000 in
set_option maxRecDepth 100000 in
theorem s_impl_copyCurve : Sat Try.prog 60 (c_C_Ck f_cpC1 q_cpC1) := by
  intro args ps r h hp
  unfold c_C_Ck at h
  split at h
  · rename_i a0 a1
    simp only [Option.some.injEq, Prod.mk.injEq] at h
    obtain ⟨rfl, rfl⟩ := h
    obtain ⟨bs, ms, hbs, hms, hk⟩ : q_cpC1 a0 a1 := (alls_cons.1 hp).1
    have g0 : V.frzs a0 = a0 := by rw [hbs, BB_frzs]
    have g1 : V.frzs a1 = a1 := by rw [hms, II_frzs]
    have hbl : a0.length = bs.length := by rw [hbs, BB_length]
    have gb : ∀ k, a0.getD k (.agg [.slc false 2 (.int .i64 0) []]) = .agg [.slc false 2 (.int .i64 0) (I (bs.getD k []))] := fun k => by rw [hbs, BB_getD]
    have hf0 : f_cpC1 a0 a1 = (BB true bs, II true ms) := by rw [f_cpC1, hbs, hms, unBB_BB, unII_II]
    obtain ⟨n, hn⟩ : ∃ n : Int, n = bs.length := ⟨_, rfl⟩
    obtain ⟨vm, hvm⟩ : ∃ vm, vm = II true ms := ⟨_, rfl⟩
    have b6 := hk.b6
    have hqm : IsIIs a1 := ⟨ms, hms, by have := hk.m6; omega, fun e he => by
      obtain ⟨i, hi, rfl⟩ := List.mem_iff_getElem.1 he
      have := hk.ml i hi
      rw [List.getD_eq_getElem?_getD, List.getElem?_eq_getElem hi] at this
      have h2 : ms[i].length ≤ 6 := this
      omega⟩
    generalize H_same : same = F_same
    generalize H_IsIs : IsIs = F_IsIs
    generalize H_f_cpSS : f_cpSS = F_f_cpSS
    generalize H_IsIIs : IsIIs = F_IsIIs
    refine fnOk_ofI (T := tab) (B := [(54, c_b_b F_same F_IsIs), (72, c_m_m F_f_cpSS F_IsIIs)]) (Bi := []) [2000005021, 0, 1, 2, 3, 5, 12, 13, 14] Try.func60 rfl rfl (by kernel_rfl) (Nat.le_of_ble_eq_true rfl) mixed tabOk (by subst H_same H_IsIs H_f_cpSS H_IsIIs; exact (bookCons s_impl_copyBranch (bookCons s_impl_copyLists bookNil))) (by subst H_same H_IsIs H_f_cpSS H_IsIIs; exact bookINil) (by kernel_rfl) ?_
    intro L lp rr hL hr hf hlp
    have qcp : ∀ x : List Int, x.length ≤ 1000 → F_IsIs (I x) := fun x hx => by rw [← H_IsIs]; exact ⟨⟨_, rfl⟩, by rw [I_length]; omega⟩
    have ecp : ∀ x, F_same (I x) = I x := fun x => by rw [← H_same]; rfl
    have Em : F_f_cpSS a1 = vm := by rw [← H_f_cpSS, f_cpSS, hms, unII_II, hvm]
    conv => cbv
    simp only [stdEqs hL, imp_self, true_and, and_true, bif_or, bif_and, Bool.or_eq_true, Bool.or_eq_false_iff, Bool.and_eq_true, Bool.and_eq_false_iff, decide_eq_true_eq, decide_eq_false_iff_not, Bool.not_eq_true', Bool.not_eq_false', beq_iff_eq, beq_eq_false_iff_ne, ne_eq, toNat0, toNat1, ok_int, toI_int, I_frzs, I_length, I_getD, ok_ints, toL_slc, g0, g1, Em]
    refine ⟨by rw [← H_IsIIs]; exact hqm, ?_⟩
    refine hlp (List V × Int) _ _ _ [1, 2, 3, 12, 13, 14] (fun x => [(1, none, .val (.box 32 (.agg [.slc false 61 (.agg [.slc false 2 (.int .i64 0) []]) a0, .slc false 27 (.slc false 2 (.int .i64 0) []) a1]))), (2, none, .val (.box 32 (.agg [.slc true 61 (.agg [.slc true 2 (.int .i64 0) []]) [], .slc true 27 (.slc true 2 (.int .i64 0) []) []]))), (3, none, .val (.box 32 (.agg [.slc true 61 (.agg [.slc true 2 (.int .i64 0) []]) x.1, .slc true 27 (.slc true 2 (.int .i64 0) []) vm]))), (12, none, .val (.slc false 61 (.agg [.slc false 2 (.int .i64 0) []]) a0)), (13, none, .val (.int .i64 n)), (14, none, .val (.int .i64 x.2))])
      (fun x => 0 ≤ x.2 ∧ x.2 ≤ n ∧ x.1 = BB true (bs.take x.2.toNat)) (fun x => (n - x.2).toNat) (([], 0)) (by subst hL; rw [hn, ← hbl]; rfl) ?_ ?_
    · exact ⟨by simp, by simp only; omega, rfl⟩
    rintro ⟨fs, i⟩ ⟨i0, i1, hF⟩ hfx ag hag
    simp only at i0 i1 hF
    have hfl : fs.length ≤ 6 := by rw [hF, BB_length, List.length_take]; omega
    conv => cbv
    simp only [stdEqs hL, imp_self, true_and, and_true, bif_or, bif_and, Bool.or_eq_true, Bool.or_eq_false_iff, Bool.and_eq_true, Bool.and_eq_false_iff, decide_eq_true_eq, decide_eq_false_iff_not, Bool.not_eq_true', Bool.not_eq_false', beq_iff_eq, beq_eq_false_iff_ne, ne_eq, toNat0, toNat1, ok_int, toI_int, I_frzs, I_length, I_getD, ok_ints, toL_slc, hbl, gb, toL_bran, fld_bran, ecp]
    refine ⟨fun h2 => ?_, fun h2 => ?_⟩
    · have hin : i.toNat < bs.length := by omega
      rw [wrap_id (n := i + 1) (by omega) (by omega)]
      refine ⟨i0, by omega, ok_bran _ _ _, qcp _ (hk.bl _ hin), by first | omega | (simp only [List.length_cons, List.length_nil]; omega), solid1 (by simp [V.solid, V.solids]), ?_⟩
      refine hag (_, i + 1) ⟨by simp only; omega, by simp only; omega, ?_⟩ (by simp only; omega)
      simp only [toNat_succ i0]
      rw [hF, show bs.take (i.toNat + 1) = bs.take i.toNat ++ [bs.getD i.toNat []] by rw [List.take_succ_eq_append_getElem hin, List.getD_eq_getElem?_getD, List.getElem?_eq_getElem hin]; rfl, BB, BB, List.map_append]
      rfl
    · rw [hr, hf0, hF, hvm, show i.toNat = bs.length by omega, List.take_length]
  · cases h
end Go.Ax
/-
  CurveEquality, the program's side. No conditions but those of the contracts.
-/
set_option linter.all false
namespace Go.Ax
open Go.Proofs
set_option maxHeartbeats 2000000

theorem kc_of {bs ms : List (List Int)} (h : CvP bs ms) : KcP bs ms where
  b6 := h.n6
  m6 := by have := h.tab.len; have := h.n6; omega
  bl := fun i hi => by have := (br_of (h.br i hi)).len; omega
  ml := fun i hi => by
    have h1 := h.tab.len
    have h2 := (h.tab.row i (by omega)).1
    have := h.n6
    omega
theorem kc_part {bs ms : List (List Int)} (h : CvP bs ms) {q : List Int} (hq : q.Perm (iota bs.length)) : KcP (partB bs q) (partM ms q) where
  b6 := by rw [partB_len, hq.length_eq, iota_len]; exact h.n6
  m6 := by rw [partM_len, hq.length_eq, iota_len]; exact h.n6
  bl := fun i hi => by
    rw [partB_len] at hi
    rw [partB_get hi]
    obtain ⟨hp, hl⟩ := iota_pm hq
    have h1 := hp.inr i hi
    rw [hl] at h1
    have := (br_of (h.br (q.getD i 0).toNat (by omega))).len
    omega
  ml := fun i hi => by
    have h1 : ((partM ms q).getD i []).length = q.length := by
      refine partM_row (ms := ms) (l := q) ?_
      rw [List.getD_eq_getElem?_getD, List.getElem?_eq_getElem hi]
      exact List.getElem_mem _
    rw [h1, hq.length_eq, iota_len]
    exact h.n6
theorem ord_perm {n : Nat} {q : List Int} (h : q.Perm (iota n)) : (ordP q).Perm (iota n) := by
  obtain ⟨k1, k2⟩ := iota_pm h
  exact pm_iota (ordP_pm k1) (by rw [ordP_len, k2])
end Go.Ax
/-
  Places of numbers in lists: spec.l01Index, spec.l01Has. No conditions but those of the contracts.
-/
set_option linter.all false
namespace Go.Ax
open Go.Proofs

theorem gAtD {l : List Int} {t : Nat} (h : t < l.length) : l.getD t 0 ∈ l := by
  rw [List.getD_eq_getElem?_getD, List.getElem?_eq_getElem h]; exact List.getElem_mem h
def c_lxi_i (f : List V → Int → Int) (q : List V → Int → Prop) : Contract := fun
  | [.slc false 2 (.int .i64 0) a0, .int .i64 a1] => some ([q a0 a1], .int .i64 (f a0 a1))
  | _ => none
def idx (ls : List Int) (x : Int) : Int := match (List.range ls.length).find? fun t => ls.getD t 0 == x with
  | some t => t
  | none => -1
theorem idx_has {ls : List Int} {x : Int} : decide (0 ≤ idx ls x) = ls.contains x := by
  rw [Bool.eq_iff_iff, decide_eq_true_eq, List.contains_iff_mem, idx]
  cases hf : (List.range ls.length).find? fun t => ls.getD t 0 == x with
  | some t =>
    rw [List.find?_range_eq_some] at hf
    simp only [beq_iff_eq, List.mem_range] at hf
    exact ⟨fun _ => by rw [← hf.1]; exact gAtD hf.2.1, fun _ => by simp only; omega⟩
  | none =>
    rw [List.find?_eq_none] at hf
    refine ⟨fun h => by simp only at h; omega, fun h => ?_⟩
    obtain ⟨t, ht, he⟩ := List.mem_iff_getElem.1 h
    refine absurd ?_ (hf t (by simpa using ht))
    rw [List.getD_eq_getElem?_getD, List.getElem?_eq_getElem ht]
    simpa using he
def f_idx (a : List V) (x : Int) : Int := idx (unI a) x
def q_lI (a : List V) (_ : Int) : Prop := IsIs a
set_option maxHeartbeats 1000000 in
set_option maxRecDepth 100000 in
theorem s_spec_l01Index : Sat Try.prog 64 (c_lxi_i f_idx q_lI) := by
  intro args ps r h hp
  unfold c_lxi_i at h
  split at h
  · rename_i a0 a1
    simp only [Option.some.injEq, Prod.mk.injEq] at h
    obtain ⟨rfl, rfl⟩ := h
    obtain ⟨⟨ls, hls⟩, hll⟩ : q_lI a0 a1 := (alls_cons.1 hp).1
    have hal : a0.length = ls.length := by rw [hls, I_length]
    rw [hal] at hll
    have gl : ∀ k, a0.getD k (.int .i64 0) = .int .i64 (ls.getD k 0) := fun k => by rw [hls, I_getD]
    have hf0 : f_idx a0 a1 = idx ls a1 := by rw [f_idx, hls, unI_I]
    refine fnOk_ofI (T := tab) (B := []) (Bi := []) [0, 1, 4, 5] Try.func64 rfl rfl (by kernel_rfl) (Nat.le_of_ble_eq_true rfl) mixed tabOk (by exact bookNil) (by exact bookINil) (by kernel_rfl) ?_
    intro L lp rr hL hr hf hlp
    conv => cbv
    refine hlp (Int) _ _ _ [0, 1, 5] (fun x => [(0, none, .val (.slc false 2 (.int .i64 0) a0)), (1, none, .val (.int .i64 a1)), (5, none, .val (.int .i64 x))])
      (fun x => 0 ≤ x ∧ x ≤ ls.length ∧ ∀ t, t < x.toNat → ls.getD t 0 ≠ a1) (fun x => (ls.length - x).toNat) (0) (by subst hL; rfl) ?_ ?_
    · exact ⟨by simp, by simp, fun t ht => by simp at ht⟩
    rintro i ⟨i0, i1, hI⟩ hfx ag hag
    conv => cbv
    simp only [stdEqs hL, imp_self, true_and, and_true, bif_or, bif_and, Bool.or_eq_true, Bool.or_eq_false_iff, Bool.and_eq_true, Bool.and_eq_false_iff, decide_eq_true_eq, decide_eq_false_iff_not, Bool.not_eq_true', Bool.not_eq_false', beq_iff_eq, beq_eq_false_iff_ne, ne_eq, toNat0, toNat1, ok_int, toI_int, I_frzs, I_length, I_getD, ok_ints, toL_slc, hal, gl]
    refine ⟨fun h2 => ⟨i0, by omega, fun h3 => ?_, fun h3 => ?_⟩, fun h2 => ?_⟩
    · have hfi : ((List.range ls.length).find? fun t => ls.getD t 0 == a1) = some i.toNat := by
        rw [List.find?_range_eq_some]
        refine ⟨by simpa using h3, by simp only [List.mem_range]; omega, fun t ht => ?_⟩
        have := hI t ht
        simpa using this
      rw [hr, hf0, idx, hfi]
      simp only
      rw [show ((i.toNat : Nat) : Int) = i by omega]
    · rw [wrap_id (n := i + 1) (by omega) (by omega)]
      refine hag (i + 1) ⟨by omega, by omega, fun t ht => ?_⟩ (by omega)
      by_cases hti : t = i.toNat
      · rw [hti]; exact h3
      · exact hI t (by omega)
    · have hfi : ((List.range ls.length).find? fun t => ls.getD t 0 == a1) = none := by
        rw [List.find?_eq_none]
        intro t ht
        simp only [List.mem_range] at ht
        have := hI t (by omega)
        simpa using this
      rw [hr, hf0, idx, hfi]
  · cases h
def c_lxi_b (f : List V → Int → Bool) (q : List V → Int → Prop) : Contract := fun
  | [.slc false 2 (.int .i64 0) a0, .int .i64 a1] => some ([q a0 a1], .bool (f a0 a1))
  | _ => none
def f_has (a : List V) (x : Int) : Bool := (unI a).contains x
set_option maxHeartbeats 1000000 in
set_option maxRecDepth 100000 in
theorem s_spec_l01Has : Sat Try.prog 43 (c_lxi_b f_has q_lI) := by
  intro args ps r h hp
  unfold c_lxi_b at h
  split at h
  · rename_i a0 a1
    simp only [Option.some.injEq, Prod.mk.injEq] at h
    obtain ⟨rfl, rfl⟩ := h
    have hq : q_lI a0 a1 := (alls_cons.1 hp).1
    have g0 : V.frzs a0 = a0 := by obtain ⟨⟨ls, hls⟩, _⟩ := hq; rw [hls, I_frzs]
    generalize H_f_idx : f_idx = F_f_idx
    generalize H_q_lI : q_lI = F_q_lI
    refine fnOk_ofI (T := tab) (B := [(64, c_lxi_i F_f_idx F_q_lI)]) (Bi := []) [0, 1, 4] Try.func43 rfl rfl (by kernel_rfl) (Nat.le_of_ble_eq_true rfl) mixed tabOk (by subst H_f_idx H_q_lI; exact (bookCons s_spec_l01Index bookNil)) (by subst H_f_idx H_q_lI; exact bookINil) (by kernel_rfl) ?_
    intro L lp rr hL hr hf hlp
    conv => cbv
    simp only [stdEqs hL, imp_self, true_and, and_true, bif_or, bif_and, Bool.or_eq_true, Bool.or_eq_false_iff, Bool.and_eq_true, Bool.and_eq_false_iff, decide_eq_true_eq, decide_eq_false_iff_not, Bool.not_eq_true', Bool.not_eq_false', beq_iff_eq, beq_eq_false_iff_ne, ne_eq, toNat0, toNat1, ok_int, toI_int, I_frzs, I_length, I_getD, ok_ints, toL_slc, g0]
    subst H_f_idx H_q_lI
    exact ⟨hq, by rw [hr, f_has, ← idx_has]; rfl⟩
  · cases h
end Go.Ax
