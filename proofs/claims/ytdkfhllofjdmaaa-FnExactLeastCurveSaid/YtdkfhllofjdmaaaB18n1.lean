import Derived.Test.YtdkfhllofjdmaaaB17n1
import Derived.Test.YtdkfhllofjdmaaaB09n1
/-
  Polar numbers, parts of curves. No conditions but those of the contracts.
-/
set_option linter.all false
namespace Go.Ax
open Go.Proofs

theorem gAt {l : List Int} {k : Nat} (h : k < l.length) : l[k] = l.getD k 0 := by
  rw [List.getD_eq_getElem?_getD, List.getElem?_eq_getElem h]; rfl
def partB (bs : List (List Int)) (l : List Int) : List (List Int) := l.map fun i => bs.getD i.toNat []
def partM (ms : List (List Int)) (l : List Int) : List (List Int) := l.map fun i => l.map fun k => mm ms i.toNat k.toNat
def c_Cl_C (f : List V → List V → List V → List V × List V) (q : List V → List V → List V → Prop) : Contract := fun
  | [.agg [.slc false 61 (.agg [.slc false 2 (.int .i64 0) []]) a0, .slc false 27 (.slc false 2 (.int .i64 0) []) a1], .slc false 2 (.int .i64 0) a2] => some ([q a0 a1 a2], .agg [.slc true 61 (.agg [.slc true 2 (.int .i64 0) []]) ((f a0 a1 a2).1), .slc true 27 (.slc true 2 (.int .i64 0) []) ((f a0 a1 a2).2)])
  | _ => none
def f_part (a b l : List V) : List V × List V := (BB true (partB (unBB a) (unI l)), II true (partM (unII b) (unI l)))
def InL (n : Nat) (l : List Int) : Prop := ∀ k, k < l.length → 0 ≤ l.getD k 0 ∧ l.getD k 0 < n
def q_part (a b l : List V) : Prop := q_cv a b ∧ ∃ xs, l = I xs ∧ InL a.length xs ∧ xs.length ≤ 1000
theorem partB_step (bs : List (List Int)) (l : List Int) (i : Nat) (h : i < l.length) : partB bs (l.take (i + 1)) = partB bs (l.take i) ++ [bs.getD (l.getD i 0).toNat []] := by
  rw [partB, List.take_succ_eq_append_getElem h, List.map_append, gAt h]
  rfl
def rowM (ms : List (List Int)) (l : List Int) (i : Int) : List Int := l.map fun k => mm ms i.toNat k.toNat
theorem rowM_step (ms : List (List Int)) (l : List Int) (x : Int) (i : Nat) (h : i < l.length) : rowM ms (l.take (i + 1)) x = rowM ms (l.take i) x ++ [mm ms x.toNat (l.getD i 0).toNat] := by
  rw [rowM, List.take_succ_eq_append_getElem h, List.map_append, gAt h]
  rfl
def partM' (ms : List (List Int)) (l : List Int) (n : Nat) : List (List Int) := (l.take n).map (rowM ms l)
theorem partM_step (ms : List (List Int)) (l : List Int) (i : Nat) (h : i < l.length) : partM' ms l (i + 1) = partM' ms l i ++ [rowM ms l (l.getD i 0)] := by
  rw [partM', List.take_succ_eq_append_getElem h, List.map_append, gAt h]
  rfl
theorem partM_full (ms : List (List Int)) (l : List Int) {n : Nat} (h : l.length ≤ n) : partM' ms l n = partM ms l := by
  rw [partM', List.take_of_length_le h]; rfl
theorem InL.take {n : Nat} {l : List Int} (h : InL n l) (k : Nat) : InL n (l.take k) := fun i hi => by
  rw [List.length_take] at hi
  rw [List.getD_eq_getElem?_getD, List.getElem?_take, if_pos (by omega), ← List.getD_eq_getElem?_getD]
  exact h i (by omega)
theorem partB_len (bs : List (List Int)) (l : List Int) : (partB bs l).length = l.length := by simp [partB]
theorem rowM_len (ms : List (List Int)) (l : List Int) (x : Int) : (rowM ms l x).length = l.length := by simp [rowM]
set_option maxHeartbeats 1000000 in
set_option maxRecDepth 100000 in
theorem s_spec_l09Part : Sat Try.prog 34 (c_Cl_C f_part q_part) := by
  intro args ps r h hp
  unfold c_Cl_C at h
  split at h
  · rename_i a0 a1 a2
    simp only [Option.some.injEq, Prod.mk.injEq] at h
    obtain ⟨rfl, rfl⟩ := h
    obtain ⟨⟨⟨⟨bs, hbs, hb1, hb2⟩, ⟨ms, hms, hm1, hm2⟩⟩, hcv⟩, ⟨ls,hls,hin,hll⟩⟩ := (alls_cons.1 hp).1
    rw [hbs, hms, unBB_BB, unII_II] at hcv
    have g1 : V.frzs a0 = a0 := by rw [hbs, BB_frzs]
    have g2 : V.frzs a1 = a1 := by rw [hms, II_frzs]
    have hbl : a0.length = bs.length := by rw [hbs, BB_length]
    have hml : a1.length = ms.length := by rw [hms, II_length]
    have gb : ∀ k, a0.getD k (.agg [.slc false 2 (.int .i64 0) []]) = .agg [.slc false 2 (.int .i64 0) (I (bs.getD k []))] := fun k => by rw [hbs, BB_getD]
    have gm : ∀ k, a1.getD k (.slc false 2 (.int .i64 0) []) = .slc false 2 (.int .i64 0) (I (ms.getD k [])) := fun k => by rw [hms, II_getD]
    have hm0 : ∀ x y : Nat, (ms.getD x []).getD y 0 = mm ms x y := fun _ _ => rfl
    obtain ⟨n, hn⟩ : ∃ n : Int, n = bs.length := ⟨_, rfl⟩
    have n1 := hcv.n1
    have n6 := hcv.n6
    have hmn : ms.length = bs.length := hcv.tab.len
    have hbr : ∀ i, i < bs.length → Br (bs.getD i []) := fun i hi => br_of (hcv.br i hi)
    have rl : ∀ k, k < bs.length → (ms.getD k []).length = bs.length := fun k hk => (hcv.tab.row k hk).1
    have mmr : ∀ i k, i < bs.length → k < bs.length → 0 ≤ mm ms i k ∧ mm ms i k ≤ 200 := fun i k hi hk => hcv.tab.range hi hk
    have mmo : ∀ i k, i < bs.length → k < bs.length → i ≠ k → 1 ≤ mm ms i k ∧ mm ms i k ≤ 200 := fun i k hi hk hne => ((hcv.tab.row i hi).2 k hk).2 hne
    rw [hbl] at hin
    have hf0 : f_part a0 a1 a2 = (BB true (partB bs ls), II true (partM ms ls)) := by rw [f_part, hbs, hms, hls, unBB_BB, unII_II, unI_I]
    have hal : a2.length = ls.length := by rw [hls, I_length]
    have gl : ∀ k, a2.getD k (.int .i64 0) = .int .i64 (ls.getD k 0) := fun k => by rw [hls, I_getD]
    obtain ⟨m, hm⟩ : ∃ m : Int, m = ls.length := ⟨_, rfl⟩
    generalize H_same : same = F_same
    generalize H_IsIs : IsIs = F_IsIs
    refine fnOk_ofI (T := tab) (B := [(59, c_b_b F_same F_IsIs)]) (Bi := []) [2000010050, 0, 1, 2, 4, 5, 6, 7, 8] Try.func34 rfl rfl (by kernel_rfl) (Nat.le_of_ble_eq_true rfl) mixed tabOk (by subst H_same H_IsIs; exact (bookCons s_spec_l09Own bookNil)) (by subst H_same H_IsIs; exact bookINil) (by kernel_rfl) ?_
    intro L lp rr hL hr hf hlp
    have qcp : ∀ x, Br x → F_IsIs (I x) := fun x hx => by rw [← H_IsIs]; exact ⟨⟨_, rfl⟩, by rw [I_length]; have := hx.len; omega⟩
    have ecp : ∀ x, F_same (I x) = I x := fun x => by rw [← H_same]; rfl
    conv => cbv
    refine hlp ((List V × List V) × Int) _ _ _ [1, 2, 4, 5, 6] (fun x => [(1, none, .val (.slc false 2 (.int .i64 0) a2)), (2, none, .val (.box 32 (.agg [.slc false 61 (.agg [.slc false 2 (.int .i64 0) []]) a0, .slc false 27 (.slc false 2 (.int .i64 0) []) a1]))), (4, none, .val (.box 32 (.agg [.slc true 61 (.agg [.slc true 2 (.int .i64 0) []]) [], .slc true 27 (.slc true 2 (.int .i64 0) []) []]))), (5, none, .val (.box 32 (.agg [.slc true 61 (.agg [.slc true 2 (.int .i64 0) []]) x.1.1, .slc true 27 (.slc true 2 (.int .i64 0) []) x.1.2]))), (6, none, .val (.int .i64 x.2))])
      (fun x => 0 ≤ x.2 ∧ x.2 ≤ m ∧ x.1.1 = BB true (partB bs (ls.take x.2.toNat)) ∧ x.1.2 = II true (partM' ms ls x.2.toNat)) (fun x => (m - x.2).toNat) ((([], []), 0)) (by subst hL; rfl) ?_ ?_
    · exact ⟨by simp, by simp only; omega, rfl, rfl⟩
    rintro ⟨⟨fs, gs⟩, i⟩ ⟨i0, i1, hI, hJ⟩ hfx ag hag
    simp only at i0 i1 hI hJ
    conv => cbv
    simp only [stdEqs hL, imp_self, true_and, and_true, bif_or, bif_and, Bool.or_eq_true, Bool.or_eq_false_iff, Bool.and_eq_true, Bool.and_eq_false_iff, decide_eq_true_eq, decide_eq_false_iff_not, Bool.not_eq_true', Bool.not_eq_false', beq_iff_eq, beq_eq_false_iff_ne, ne_eq, toNat0, toNat1, ok_int, toI_int, I_frzs, I_length, I_getD, ok_ints, toL_slc, hal, gl, ← hm]
    refine ⟨fun h2 => ?_, fun h2 => ?_⟩
    · have hil : i.toNat < ls.length := by omega
      have hxi := hin _ hil
      obtain ⟨x, hx⟩ : ∃ x, x = ls.getD i.toNat 0 := ⟨_, rfl⟩
      rw [← hx] at hxi
      have hbx := hbr x.toNat (by omega)
      have hrx := rl x.toNat (by omega)
      have hfl : fs.length ≤ 1000 := by rw [hI, BB_length, partB_len, List.length_take]; omega
      have hgl : gs.length ≤ 1000 := by rw [hJ, II_length, partM', List.length_map, List.length_take]; omega
      have qx := qcp _ hbx
      refine hlp (List V × Int) _ _ _ [1, 2, 4, 5, 6, 7, 8] (fun y => [(1, none, .val (.slc false 2 (.int .i64 0) a2)), (2, none, .val (.box 32 (.agg [.slc false 61 (.agg [.slc false 2 (.int .i64 0) []]) a0, .slc false 27 (.slc false 2 (.int .i64 0) []) a1]))), (4, none, .val (.box 32 (.agg [.slc true 61 (.agg [.slc true 2 (.int .i64 0) []]) [], .slc true 27 (.slc true 2 (.int .i64 0) []) []]))), (5, none, .val (.box 32 (.agg [.slc true 61 (.agg [.slc true 2 (.int .i64 0) []]) fs, .slc true 27 (.slc true 2 (.int .i64 0) []) gs]))), (6, none, .val (.int .i64 i)), (7, none, .val (.slc true 2 (.int .i64 0) y.1)), (8, none, .val (.int .i64 y.2))])
        (fun y => 0 ≤ y.2 ∧ y.2 ≤ m ∧ y.1 = I (rowM ms (ls.take y.2.toNat) x)) (fun y => (m - y.2).toNat) (([], 0)) (by subst hL; rfl) ?_ ?_
      · exact ⟨by simp, by simp only; omega, rfl⟩
      rintro ⟨rs, k⟩ ⟨k0, k1, hK⟩ hfx2 ag2 hag2
      simp only at k0 k1 hK
      conv => cbv
      simp only [stdEqs hL, imp_self, true_and, and_true, bif_or, bif_and, Bool.or_eq_true, Bool.or_eq_false_iff, Bool.and_eq_true, Bool.and_eq_false_iff, decide_eq_true_eq, decide_eq_false_iff_not, Bool.not_eq_true', Bool.not_eq_false', beq_iff_eq, beq_eq_false_iff_ne, ne_eq, toNat0, toNat1, ok_int, toI_int, I_frzs, I_length, I_getD, ok_ints, toL_slc, hal, gl, gm, hml, hm0, ← hx, hrx, ← hm, hbl, gb, ok_bran, toL_bran, fld_bran, ecp]
      refine ⟨fun h3 => ?_, fun h3 => ?_⟩
      · have hkl : k.toNat < ls.length := by omega
        have hyk := hin _ hkl
        have hrs : rs.length ≤ 1000 := by rw [hK, I_length, rowM_len, List.length_take]; omega
        rw [wrap_id (n := k + 1) (by omega) (by omega)]
        (repeat' first | (exact solid_one _) | (exact solid1 rfl) | (exact noown_one _) | (apply And.intro) | (intro _)) <;> (try first | exact True.intro | omega | rfl | (simp only [List.length_cons, List.length_nil, I_length]; omega))
        refine hag2 (_, k + 1) ⟨by simp only; omega, by simp only; omega, ?_⟩ (by simp only; omega)
        simp only [toNat_succ k0]
        rw [rowM_step _ _ _ _ hkl, hK, ← I_append]
        rfl
      · have hrs : rs = I (rowM ms ls x) := by rw [hK, List.take_of_length_le (by omega)]
        obtain ⟨fs', hfs'⟩ : ∃ fs', fs' = fs ++ [V.agg [.slc true 2 (.int .i64 0) (I (bs.getD x.toNat []))]] := ⟨_, rfl⟩
        rw [wrap_id (n := i + 1) (by omega) (by omega), ← hfs']
        have hff : fs' = BB true (partB bs (ls.take (i.toNat + 1))) := by
          rw [partB_step _ _ _ hil, hfs', hI, ← hx]
          simp [BB]
        have hgg : gs ++ [V.slc true 2 (.int .i64 0) rs] = II true (partM' ms ls (i.toNat + 1)) := by
          rw [partM_step _ _ _ hil, II_append, hJ, hrs, ← hx]
          rfl
        refine ⟨i0, h2, hxi.1, hxi.2, qx, by simp only [List.length_cons, List.length_nil]; omega, solid1 rfl, by simp only [List.length_cons, List.length_nil]; omega, solid1 rfl, hag ((fs', _), i + 1) ⟨by simp only; omega, by simp only; omega, ?_, ?_⟩ (by simp only; omega)⟩
        · simp only [toNat_succ i0]; exact hff
        · simp only [toNat_succ i0]; exact hgg
    · rw [hr, hf0, hI, hJ, List.take_of_length_le (by omega), partM_full _ _ (by omega)]
  · cases h
def okp (n : Nat) (l : List Int) : Bool := !(l.length == 0) && asc l && within l 0 ((n : Int) - 1)
theorem tot_le : ∀ (l : List (List Int)) (c : Nat), (∀ x ∈ l, x.length ≤ c) → tot l ≤ l.length * c
  | [], _, _ => by simp [tot]
  | x :: l, c, h => by
    have h1 := tot_le l c (fun y hy => h y (by simp [hy]))
    have h2 := h x (by simp)
    simp only [tot, List.length_cons, Nat.add_mul]
    omega
theorem part_tot {bs ms : List (List Int)} (hcv : CvP bs ms) {ls : List Int} (hin : InL bs.length ls) (hl : ls.length ≤ 6) : tot (partB bs ls) + tot (partM ms ls) ≤ 4611686018427387904 := by
  have h1 := tot_le (partB bs ls) 64 (fun x hx => by
    simp only [partB, List.mem_map] at hx
    obtain ⟨i, hi, rfl⟩ := hx
    obtain ⟨k, hk, rfl⟩ := List.mem_iff_getElem.1 hi
    rw [gAt hk]
    have := hin k hk
    exact (br_of (hcv.br _ (by omega))).len)
  have h2 := tot_le (partM ms ls) 6 (fun x hx => by
    simp only [partM, List.mem_map] at hx
    obtain ⟨i, hi, rfl⟩ := hx
    rw [List.length_map]; exact hl)
  rw [partB_len] at h1
  have e : (partM ms ls).length = ls.length := by simp [partM]
  rw [e] at h2
  omega
end Go.Ax
/-
  Curves renumbered. No conditions but those of the contracts.
-/
set_option linter.all false
namespace Go.Ax
open Go.Proofs
set_option maxHeartbeats 1000000

def f_rnm (a b l : List V) : List V × List V := f_part a b (I (ordP (unI l)))
def q_rnm (a b l : List V) : Prop := q_cv a b ∧ ∃ xs, l = I xs ∧ PmP xs ∧ xs.length = a.length
def rowK (ms : List (List Int)) (ls : List Int) (i : Nat) : List Int := putK ls (fun k => mm ms i k) 0 ls.length ls.length
set_option maxHeartbeats 1000000 in
set_option maxRecDepth 100000 in
theorem s_impl_renumbered : Sat Try.prog 27 (c_Cl_C f_rnm q_rnm) := by
  intro args ps r h hp
  unfold c_Cl_C at h
  split at h
  · rename_i a0 a1 a2
    simp only [Option.some.injEq, Prod.mk.injEq] at h
    obtain ⟨rfl, rfl⟩ := h
    obtain ⟨⟨⟨⟨bs, hbs, hb1, hb2⟩, ⟨ms, hms, hm1, hm2⟩⟩, hcv⟩, ⟨ls,hls,hpm,hll⟩⟩ := (alls_cons.1 hp).1
    rw [hbs, hms, unBB_BB, unII_II] at hcv
    have g1 : V.frzs a0 = a0 := by rw [hbs, BB_frzs]
    have g2 : V.frzs a1 = a1 := by rw [hms, II_frzs]
    have hbl : a0.length = bs.length := by rw [hbs, BB_length]
    have hml : a1.length = ms.length := by rw [hms, II_length]
    have gb : ∀ k, a0.getD k (.agg [.slc false 2 (.int .i64 0) []]) = .agg [.slc false 2 (.int .i64 0) (I (bs.getD k []))] := fun k => by rw [hbs, BB_getD]
    have gm : ∀ k, a1.getD k (.slc false 2 (.int .i64 0) []) = .slc false 2 (.int .i64 0) (I (ms.getD k [])) := fun k => by rw [hms, II_getD]
    have hm0 : ∀ x y : Nat, (ms.getD x []).getD y 0 = mm ms x y := fun _ _ => rfl
    obtain ⟨n, hn⟩ : ∃ n : Int, n = bs.length := ⟨_, rfl⟩
    have n1 := hcv.n1
    have n6 := hcv.n6
    have hmn : ms.length = bs.length := hcv.tab.len
    have hbr : ∀ i, i < bs.length → Br (bs.getD i []) := fun i hi => br_of (hcv.br i hi)
    have rl : ∀ k, k < bs.length → (ms.getD k []).length = bs.length := fun k hk => (hcv.tab.row k hk).1
    have mmr : ∀ i k, i < bs.length → k < bs.length → 0 ≤ mm ms i k ∧ mm ms i k ≤ 200 := fun i k hi hk => hcv.tab.range hi hk
    have mmo : ∀ i k, i < bs.length → k < bs.length → i ≠ k → 1 ≤ mm ms i k ∧ mm ms i k ≤ 200 := fun i k hi hk hne => ((hcv.tab.row i hi).2 k hk).2 hne
    rw [hbl] at hll
    have hf0 : f_rnm a0 a1 a2 = (BB true (partB bs (ordP ls)), II true (partM ms (ordP ls))) := by rw [f_rnm, f_part, hbs, hms, hls, unBB_BB, unII_II, unI_I, unI_I]
    have hal : a2.length = ls.length := by rw [hls, I_length]
    have gl : ∀ k, a2.getD k (.int .i64 0) = .int .i64 (ls.getD k 0) := fun k => by rw [hls, I_getD]
    have hin := hpm.inr
    obtain ⟨m, hm⟩ : ∃ m : Int, m = ls.length := ⟨_, rfl⟩
    generalize H_same : same = F_same
    generalize H_IsIs : IsIs = F_IsIs
    generalize H_f0_square : f0_square = F_f0_square
    generalize H_q_n : q_n = F_q_n
    refine fnOk_ofI (T := tab) (B := [(54, c_b_b F_same F_IsIs), (53, c_n_ll F_f0_square F_q_n)]) (Bi := []) [2000001012, 2000001015, 0, 1, 2, 4, 5, 6, 7, 8, 9, 18, 19, 20, 38, 39, 40] Try.func27 rfl rfl (by kernel_rfl) (Nat.le_of_ble_eq_true rfl) mixed tabOk (by subst H_same H_IsIs H_f0_square H_q_n; exact (bookCons s_impl_copyBranch (bookCons s_impl_square bookNil))) (by subst H_same H_IsIs H_f0_square H_q_n; exact bookINil) (by kernel_rfl) ?_
    intro L lp rr hL hr hf hlp
    have qcp : ∀ x, Br x → F_IsIs (I x) := fun x hx => by rw [← H_IsIs]; exact ⟨⟨_, rfl⟩, by rw [I_length]; have := hx.len; omega⟩
    have ecp : ∀ x, F_same (I x) = I x := fun x => by rw [← H_same]; rfl
    have Esq : F_f0_square m = II true (List.replicate ls.length (List.replicate ls.length 0)) := by rw [← H_f0_square, f0_square, hm, Int.toNat_natCast]
    conv => cbv
    simp only [stdEqs hL, imp_self, true_and, and_true, bif_or, bif_and, Bool.or_eq_true, Bool.or_eq_false_iff, Bool.and_eq_true, Bool.and_eq_false_iff, decide_eq_true_eq, decide_eq_false_iff_not, Bool.not_eq_true', Bool.not_eq_false', beq_iff_eq, beq_eq_false_iff_ne, ne_eq, toNat0, toNat1, ok_int, toI_int, I_frzs, I_length, I_getD, ok_ints, toL_slc, hal, ← hm, Esq]
    obtain ⟨fs0, hfs0⟩ : ∃ fs0, fs0 = List.replicate m.toNat (V.agg [V.slc true 2 (V.int IntKind.i64 0) []]) := ⟨_, rfl⟩
    obtain ⟨gs0, hgs0⟩ : ∃ gs0, gs0 = II true (List.replicate ls.length (List.replicate ls.length 0)) := ⟨_, rfl⟩
    have hF0 : fs0 = BB true (putK ls (fun i => bs.getD i []) [] ls.length 0) := by
      rw [hfs0, putK, BB_replicate, hm, Int.toNat_natCast]; rfl
    have hG0 : gs0 = II true (putK ls (rowK ms ls) (List.replicate ls.length 0) ls.length 0) := by rw [hgs0, putK]
    rw [← hfs0, ← hgs0]
    refine ⟨by omega, by omega, by omega, by rw [← H_q_n]; exact ⟨by omega, by omega⟩, ?_⟩
    refine hlp ((List V × List V) × Int) _ _ _ [1, 2, 4, 5, 18, 19, 20] (fun x => [(1, none, .val (.slc false 2 (.int .i64 0) a2)), (2, none, .val (.box 32 (.agg [.slc false 61 (.agg [.slc false 2 (.int .i64 0) []]) a0, .slc false 27 (.slc false 2 (.int .i64 0) []) a1]))), (4, none, .val (.box 32 (.agg [.slc true 61 (.agg [.slc true 2 (.int .i64 0) []]) [], .slc true 27 (.slc true 2 (.int .i64 0) []) []]))), (5, none, .val (.box 32 (.agg [.slc true 61 (.agg [.slc true 2 (.int .i64 0) []]) x.1.1, .slc true 27 (.slc true 2 (.int .i64 0) []) x.1.2]))), (18, none, .val (.slc false 61 (.agg [.slc false 2 (.int .i64 0) []]) a0)), (19, none, .val (.int .i64 n)), (20, none, .val (.int .i64 x.2))])
      (fun x => 0 ≤ x.2 ∧ x.2 ≤ n ∧ x.1.1 = BB true (putK ls (fun i => bs.getD i []) [] ls.length x.2.toNat) ∧ x.1.2 = II true (putK ls (rowK ms ls) (List.replicate ls.length 0) ls.length x.2.toNat)) (fun x => (n - x.2).toNat) (((fs0, gs0), 0)) (by subst hL; rw [hn, ← hbl]; rfl) ?_ ?_
    · exact ⟨by simp, by simp only; omega, hF0, hG0⟩
    rintro ⟨⟨fs, gs⟩, i⟩ ⟨i0, i1, hI, hJ⟩ hfx ag hag
    simp only at i0 i1 hI hJ
    have hfl : fs.length = ls.length := by rw [hI, BB_length, putK_len]
    have hgl : gs.length = ls.length := by rw [hJ, II_length, putK_len]
    obtain ⟨fsg, hfsg⟩ : ∃ fsg : Nat → List Int, ∀ k, fs.getD k (V.agg [V.slc true 2 (V.int IntKind.i64 0) []]) = V.agg [V.slc true 2 (V.int IntKind.i64 0) (I (fsg k))] := ⟨fun k => (putK ls (fun i => bs.getD i []) [] ls.length i.toNat).getD k [], fun k => by rw [hI, BB_getD]⟩
    conv => cbv
    simp only [stdEqs hL, imp_self, true_and, and_true, bif_or, bif_and, Bool.or_eq_true, Bool.or_eq_false_iff, Bool.and_eq_true, Bool.and_eq_false_iff, decide_eq_true_eq, decide_eq_false_iff_not, Bool.not_eq_true', Bool.not_eq_false', beq_iff_eq, beq_eq_false_iff_ne, ne_eq, toNat0, toNat1, ok_int, toI_int, I_frzs, I_length, I_getD, ok_ints, toL_slc, hbl, hml, gb, gm, ok_bran, toL_bran, fld_bran, hal, gl, ecp, hfl, hgl, hfsg, ← hn]
    refine ⟨fun h2 => ?_, fun h2 => ?_⟩
    · have hil : i.toNat < ls.length := by omega
      have hxi := hin _ hil
      have hbx := hbr i.toNat (by omega)
      have hrx := rl i.toNat (by omega)
      have qx := qcp _ hbx
      obtain ⟨fs', hfs'⟩ : ∃ fs', fs' = fs.set (ls.getD i.toNat 0).toNat (V.agg [.slc true 2 (.int .i64 0) (I (bs.getD i.toNat []))]) := ⟨_, rfl⟩
      obtain ⟨vr, hvr⟩ : ∃ vr, vr = I (ms.getD i.toNat []) := ⟨_, rfl⟩
      have hvl : vr.length = ls.length := by rw [hvr, I_length]; omega
      have gv : ∀ k, vr.getD k (.int .i64 0) = .int .i64 (mm ms i.toNat k) := fun k => by rw [hvr, I_getD, hm0]
      obtain ⟨r, hrr⟩ : ∃ r : Int, r = (ms.getD i.toNat []).length := ⟨_, rfl⟩
      have hrn : r = n := by omega
      obtain ⟨G, hG⟩ : ∃ G, G = putK ls (rowK ms ls) (List.replicate ls.length 0) ls.length i.toNat := ⟨_, rfl⟩
      have hGl : G.length = ls.length := by rw [hG, putK_len]
      rw [← hG] at hJ
      rw [← hfs', ← hvr]
      refine ⟨i0, h2, i0, by omega, qx, hxi.1, hxi.2, by omega, .inl (ok_bran _ _ _), i0, by omega, ?_⟩
      obtain ⟨x, hx⟩ : ∃ x, x = ls.getD i.toNat 0 := ⟨_, rfl⟩
      refine hlp (List V × Int) _ _ _ [1, 2, 4, 5, 6, 18, 19, 20, 38, 39, 40] (fun y => [(1, none, .val (.slc false 2 (.int .i64 0) a2)), (2, none, .val (.box 32 (.agg [.slc false 61 (.agg [.slc false 2 (.int .i64 0) []]) a0, .slc false 27 (.slc false 2 (.int .i64 0) []) a1]))), (4, none, .val (.box 32 (.agg [.slc true 61 (.agg [.slc true 2 (.int .i64 0) []]) [], .slc true 27 (.slc true 2 (.int .i64 0) []) []]))), (5, none, .val (.box 32 (.agg [.slc true 61 (.agg [.slc true 2 (.int .i64 0) []]) fs', .slc true 27 (.slc true 2 (.int .i64 0) []) y.1]))), (6, none, .val (.int .i64 i)), (18, none, .val (.slc false 61 (.agg [.slc false 2 (.int .i64 0) []]) a0)), (19, none, .val (.int .i64 n)), (20, none, .val (.int .i64 i)), (38, none, .val (.slc false 2 (.int .i64 0) vr)), (39, none, .val (.int .i64 r)), (40, none, .val (.int .i64 y.2))])
        (fun y => 0 ≤ y.2 ∧ y.2 ≤ n ∧ y.1 = II true (G.set x.toNat (putK ls (fun k => mm ms i.toNat k) 0 ls.length y.2.toNat))) (fun y => (n - y.2).toNat) ((gs, 0)) (by subst hL; rw [hrr]; rfl) ?_ ?_
      · refine ⟨by simp, by simp only; omega, ?_⟩
        simp only
        have e0 : putK ls (fun k => mm ms i.toNat k) 0 ls.length (0 : Int).toNat = List.replicate ls.length 0 := rfl
        rw [hJ, e0, hG, hx, putK_same hpm _ _ hil]
      rintro ⟨ks, k⟩ ⟨k0, k1, hK⟩ hfx2 ag2 hag2
      simp only at k0 k1 hK
      have hln : (ls.length : Int) = n := by omega
      have hn6 : n ≤ 6 := by omega
      have hxn : x.toNat < ls.length := by omega
      have hx0 : 0 ≤ x ∧ x < ls.length := by rw [hx]; exact hxi
      clear hb1 hm1 hb2 hm2 hll n1 n6 hmn hbl hml hn hm hfl hgl hrr hrx hcv mmr mmo hbx rl hbr hxi
      have hkl : ks.length = ls.length := by rw [hK, II_length, List.length_set, hGl]
      obtain ⟨R, hR⟩ : ∃ R, R = putK ls (fun k => mm ms i.toNat k) 0 ls.length k.toNat := ⟨_, rfl⟩
      have hRl : R.length = ls.length := by rw [hR, putK_len]
      rw [← hR] at hK
      have gk : ks.getD x.toNat (.slc true 2 (.int .i64 0) []) = .slc true 2 (.int .i64 0) (I R) := by
        rw [hK, II_getD, set_getD (by omega), if_pos rfl]
      conv => cbv
      simp only [stdEqs hL, imp_self, true_and, and_true, bif_or, bif_and, Bool.or_eq_true, Bool.or_eq_false_iff, Bool.and_eq_true, Bool.and_eq_false_iff, decide_eq_true_eq, decide_eq_false_iff_not, Bool.not_eq_true', Bool.not_eq_false', beq_iff_eq, beq_eq_false_iff_ne, ne_eq, toNat0, toNat1, ok_int, toI_int, I_frzs, I_length, I_getD, ok_ints, toL_slc, hvl, gv, hal, gl, ← hx, hkl, gk]
      refine ⟨fun h3 => ?_, fun h3 => ?_⟩
      · have hkl2 : k.toNat < ls.length := by omega
        have hyk := hin _ hkl2
        rw [wrap_id (n := k + 1) (by omega) (by omega)]
        (repeat' first | (exact solid_one _) | (exact solid1 rfl) | (exact noown_one _) | (apply And.intro) | (intro _)) <;> (try first | exact True.intro | omega | rfl | (simp only [List.length_cons, List.length_nil, I_length]; omega))
        refine hag2 (_, k + 1) ⟨by simp only; omega, by simp only; omega, ?_⟩ (by simp only; omega)
        simp only [toNat_succ k0]
        rw [hK, I_set, II_set, List.set_set, hR, putK]
      · rw [wrap_id (n := i + 1) (by omega) (by omega)]
        refine hag ((fs', ks), i + 1) ⟨by simp only; omega, by simp only; omega, ?_, ?_⟩ (by simp only; omega)
        · simp only [toNat_succ i0]
          rw [hfs', hI, BB_set, putK]
        · simp only [toNat_succ i0]
          rw [hK, hR, putK, ← hG, show k.toNat = ls.length by omega, ← hx]
          rfl
    · rw [hr, hf0, hI, hJ, show i.toNat = ls.length by omega, putK_full hpm, putK_full hpm]
      rw [show (rowK ms ls) = fun i => (ordP ls).map fun k => mm ms i k.toNat from funext fun i => putK_full hpm _ _]
      rfl
  · cases h
end Go.Ax
