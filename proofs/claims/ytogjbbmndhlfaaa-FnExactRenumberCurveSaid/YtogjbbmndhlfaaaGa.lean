/-
  Numbers of curves: multiplicity, intersection numbers. No conditions but those of the contracts.
-/
import Derived.Test.YtogjbbmndhlfaaaFy
import Derived.Test.YtogjbbmndhlfaaaFz
set_option linter.all false
namespace Go.Ax
open Go.Proofs

theorem TabP.range {ms : List (List Int)} {n : Nat} (h : TabP ms n) {i k : Nat} (hi : i < n) (hk : k < n) : 0 ≤ mm ms i k ∧ mm ms i k ≤ 200 := by
  have hE := (h.row i hi).2 k hk
  by_cases he : i = k
  · have := hE.1 he; omega
  · have := hE.2 he; omega
/-- curves -/
def q_cv (a b : List V) : Prop := q_C a b ∧ CvP (unBB a) (unII b)
theorem q_cv_of {a b : List V} (h : q_C a b) (hc : f_isCv a b = true) : q_cv a b := ⟨h, isCv_iff.1 hc⟩
/-! multiplicity -/
def multN (bs : List (List Int)) : Nat → Int
  | 0 => 0
  | n + 1 => multN bs n + (bs.getD n []).getD 0 0
theorem multN_in {bs : List (List Int)} (h : ∀ i, i < bs.length → Br (bs.getD i [])) : ∀ n, n ≤ bs.length → 0 ≤ multN bs n ∧ multN bs n ≤ 64 * n
  | 0, _ => by simp [multN]
  | n + 1, hn => by
    have h1 := multN_in h n (by omega)
    have h2 := (h n (by omega)).first
    have h3 := (h n (by omega)).low 0 (h n (by omega)).pos
    simp only [multN]; omega
def c_C_i (f : List V → List V → Int) (q : List V → List V → Prop) : Contract := fun
  | [.agg [.slc false 28 (.agg [.slc false 2 (.int .i64 0) []]) a0, .slc false 22 (.slc false 2 (.int .i64 0) []) a1]] => some ([q a0 a1], .int .i64 (f a0 a1))
  | _ => none
def f_mult (a _ : List V) : Int := multN (unBB a) a.length
set_option maxRecDepth 100000 in
theorem s_impl_multiplicity : Sat Try.prog 72 (c_C_i f_mult q_cv) := by
  intro args ps r h hp
  unfold c_C_i at h
  split at h
  · rename_i a0 a1
    simp only [Option.some.injEq, Prod.mk.injEq] at h
    obtain ⟨rfl, rfl⟩ := h
    obtain ⟨⟨⟨bs, hbs, hb1, hb2⟩, ⟨ms, hms, hm1, hm2⟩⟩, hcv⟩ := (alls_cons.1 hp).1
    rw [hbs, hms, unBB_BB, unII_II] at hcv
    have g1 : V.frzs a0 = a0 := by rw [hbs, BB_frzs]
    have g2 : V.frzs a1 = a1 := by rw [hms, II_frzs]
    have hbl : a0.length = bs.length := by rw [hbs, BB_length]
    have hml : a1.length = ms.length := by rw [hms, II_length]
    have gb : ∀ k, a0.getD k (.agg [.slc false 2 (.int .i64 0) []]) = .agg [.slc false 2 (.int .i64 0) (I (bs.getD k []))] := fun k => by rw [hbs, BB_getD]
    have gm : ∀ k, a1.getD k (.slc false 2 (.int .i64 0) []) = .slc false 2 (.int .i64 0) (I (ms.getD k [])) := fun k => by rw [hms, II_getD]
    have hm0 : ∀ x y : Nat, (ms.getD x []).getD y 0 = mm ms x y := fun _ _ => rfl
    obtain ⟨n, hn⟩ : ∃ n : Int, n = bs.length := ⟨_, rfl⟩
    have n1 := hcv.n1
    have n6 := hcv.n6
    have hmn : ms.length = bs.length := hcv.tab.len
    have hbr : ∀ i, i < bs.length → Br (bs.getD i []) := fun i hi => br_of (hcv.br i hi)
    have rl : ∀ k, k < bs.length → (ms.getD k []).length = bs.length := fun k hk => (hcv.tab.row k hk).1
    have mmr : ∀ i k, i < bs.length → k < bs.length → 0 ≤ mm ms i k ∧ mm ms i k ≤ 200 := fun i k hi hk => hcv.tab.range hi hk
    have mmo : ∀ i k, i < bs.length → k < bs.length → i ≠ k → 1 ≤ mm ms i k ∧ mm ms i k ≤ 200 := fun i k hi hk hne => ((hcv.tab.row i hi).2 k hk).2 hne
    have hf0 : f_mult a0 a1 = multN bs bs.length := by rw [f_mult, hbl, hbs, unBB_BB]
    refine fnOk_ofI (T := tab) (B := []) (Bi := []) [0, 1, 2, 3, 5, 7, 8, 9] Try.func72 rfl rfl (by kernel_rfl) (Nat.le_of_ble_eq_true rfl) mixed tabOk (by exact bookNil) (by exact bookINil) (by kernel_rfl) ?_
    intro L lp rr hL hr hf hlp
    conv => cbv
    refine hlp (Int × Int) _ _ _ [3, 7, 8, 9] (fun x => [(3, none, .val (.int .i64 x.1)), (7, none, .val (.slc false 28 (.agg [.slc false 2 (.int .i64 0) []]) a0)), (8, none, .val (.int .i64 n)), (9, none, .val (.int .i64 x.2))])
      (fun x => 0 ≤ x.2 ∧ x.2 ≤ n ∧ x.1 = multN bs x.2.toNat) (fun x => (n - x.2).toNat) ((0, 0)) (by subst hL; rw [hn, ← hbl]; rfl) ?_ ?_
    · exact ⟨by simp, by simp only; omega, rfl⟩
    rintro ⟨s, i⟩ ⟨i0, i1, hI⟩ hfx ag hag
    simp only at i0 i1 hI
    conv => cbv
    simp only [stdEqs hL, imp_self, true_and, and_true, bif_or, bif_and, Bool.or_eq_true, Bool.or_eq_false_iff, Bool.and_eq_true, Bool.and_eq_false_iff, decide_eq_true_eq, decide_eq_false_iff_not, Bool.not_eq_true', Bool.not_eq_false', beq_iff_eq, beq_eq_false_iff_ne, ne_eq, toNat0, toNat1, ok_int, toI_int, I_frzs, I_length, I_getD, ok_ints, toL_slc, hbl, gb, ok_bran, toL_bran, fld_bran]
    refine ⟨fun h2 => ?_, fun h2 => ?_⟩
    · have hb := hbr i.toNat (by omega)
      have hp := hb.pos
      have h64 := hb.first
      have hlow := hb.low 0 hp
      have hmu := multN_in hbr i.toNat (by omega)
      rw [wrap_id (n := s + (bs.getD i.toNat []).getD 0 0) (by omega) (by omega), wrap_id (n := i + 1) (by omega) (by omega)]
      (repeat' first | (exact solid_one _) | (exact solid1 rfl) | (exact noown_one _) | (apply And.intro) | (intro _)) <;> (try first | exact True.intro | omega | rfl | (simp only [List.length_cons, List.length_nil, I_length]; omega))
      refine hag (_, i + 1) ⟨by simp only; omega, by simp only; omega, ?_⟩ (by simp only; omega)
      simp only [toNat_succ i0]
      rw [multN, hI]
    · rw [hr, hf0, hI, show i.toNat = bs.length by omega]
  · cases h
def c_C_ii (f : List V → List V → Int × Int) (q : List V → List V → Prop) : Contract := fun
  | [.agg [.slc false 28 (.agg [.slc false 2 (.int .i64 0) []]) a0, .slc false 22 (.slc false 2 (.int .i64 0) []) a1]] => some ([q a0 a1], .tup [.int .i64 ((f a0 a1).1), .int .i64 ((f a0 a1).2)])
  | _ => none
noncomputable def f_cm (a b : List V) : Int × Int := bif f_isCv a b then (f_mult a b, 0) else (0, 1)
set_option maxRecDepth 100000 in
theorem s_spec_CurveMultiplicity : Sat Try.prog 66 (c_C_ii f_cm q_C) := by
  intro args ps r h hp
  unfold c_C_ii at h
  split at h
  · rename_i a0 a1
    simp only [Option.some.injEq, Prod.mk.injEq] at h
    obtain ⟨rfl, rfl⟩ := h
    have hq : q_C a0 a1 := (alls_cons.1 hp).1
    obtain ⟨⟨bs, hbs, hb1, hb2⟩, ⟨ms, hms, hm1, hm2⟩⟩ := id hq
    have g1 : V.frzs a0 = a0 := by rw [hbs, BB_frzs]
    have g2 : V.frzs a1 = a1 := by rw [hms, II_frzs]
    have hbl : a0.length = bs.length := by rw [hbs, BB_length]
    have gb : ∀ k, a0.getD k (.agg [.slc false 2 (.int .i64 0) []]) = .agg [.slc false 2 (.int .i64 0) (I (bs.getD k []))] := fun k => by rw [hbs, BB_getD]
    obtain ⟨n, hn⟩ : ∃ n : Int, n = bs.length := ⟨_, rfl⟩
    have hf0 : f_mult a0 a1 = multN bs bs.length := by rw [f_mult, hbl, hbs, unBB_BB]
    have hf1 : f_isCv a0 a1 = true → CvP bs ms := fun h => by rw [f_isCv, hbs, hms, unBB_BB, unII_II] at h; exact isCv_iff.1 h
    generalize H_f_isCv : f_isCv = F_f_isCv
    generalize H_q_C : q_C = F_q_C
    refine fnOk_ofI (T := tab) (B := [(75, c_C_b F_f_isCv F_q_C)]) (Bi := []) [0, 1, 2, 3, 4, 5] Try.func66 rfl rfl (by kernel_rfl) (Nat.le_of_ble_eq_true rfl) mixed tabOk (by subst H_f_isCv H_q_C; exact (bookCons s_spec_l09Is bookNil)) (by subst H_f_isCv H_q_C; exact bookINil) (by kernel_rfl) ?_
    intro L lp rr hL hr hf hlp
    conv => cbv
    simp only [stdEqs hL, imp_self, true_and, and_true, bif_or, bif_and, Bool.or_eq_true, Bool.or_eq_false_iff, Bool.and_eq_true, Bool.and_eq_false_iff, decide_eq_true_eq, decide_eq_false_iff_not, Bool.not_eq_true', Bool.not_eq_false', beq_iff_eq, beq_eq_false_iff_ne, ne_eq, toNat0, toNat1, ok_int, toI_int, I_frzs, I_length, I_getD, ok_ints, toL_slc, g1, g2]
    subst H_f_isCv H_q_C
    refine ⟨hq, fun h => ?_, fun h => ?_⟩
    · rw [hr, f_cm, h]; rfl
    have hbr : ∀ i, i < bs.length → Br (bs.getD i []) := fun i hi => br_of ((hf1 h).br i hi)
    have n6 := (hf1 h).n6
    refine hlp (Int × Int) _ _ _ [1, 4, 5] (fun x => [(1, none, .val (.box 44 (.agg [.slc false 28 (.agg [.slc false 2 (.int .i64 0) []]) a0, .slc false 22 (.slc false 2 (.int .i64 0) []) a1]))), (4, none, .val (.int .i64 x.1)), (5, none, .val (.int .i64 x.2))])
      (fun x => 0 ≤ x.2 ∧ x.2 ≤ n ∧ x.1 = multN bs x.2.toNat) (fun x => (n - x.2).toNat) ((0, 0)) (by subst hL; rfl) ?_ ?_
    · exact ⟨by simp, by simp only; omega, rfl⟩
    rintro ⟨s, i⟩ ⟨i0, i1, hI⟩ hfx ag hag
    simp only at i0 i1 hI
    conv => cbv
    simp only [stdEqs hL, imp_self, true_and, and_true, bif_or, bif_and, Bool.or_eq_true, Bool.or_eq_false_iff, Bool.and_eq_true, Bool.and_eq_false_iff, decide_eq_true_eq, decide_eq_false_iff_not, Bool.not_eq_true', Bool.not_eq_false', beq_iff_eq, beq_eq_false_iff_ne, ne_eq, toNat0, toNat1, ok_int, toI_int, I_frzs, I_length, I_getD, ok_ints, toL_slc, hbl, gb, ok_bran, toL_bran, fld_bran, ← hn]
    refine ⟨fun h2 => ?_, fun h2 => ?_⟩
    · have hb := hbr i.toNat (by omega)
      have hp := hb.pos
      have h64 := hb.first
      have hlow := hb.low 0 hp
      have hmu := multN_in hbr i.toNat (by omega)
      rw [wrap_id (n := s + (bs.getD i.toNat []).getD 0 0) (by omega) (by omega), wrap_id (n := i + 1) (by omega) (by omega)]
      (repeat' first | (exact solid_one _) | (exact solid1 rfl) | (exact noown_one _) | (apply And.intro) | (intro _)) <;> (try first | exact True.intro | omega | rfl | (simp only [List.length_cons, List.length_nil, I_length]; omega))
      refine hag (_, i + 1) ⟨by simp only; omega, by simp only; omega, ?_⟩ (by simp only; omega)
      simp only [toNat_succ i0]
      rw [multN, hI]
    · rw [hr, f_cm, h, cond_true, hf0, hI, show i.toNat = bs.length by omega]
  · cases h
/-! intersection numbers -/
def meetC (bs ms : List (List Int)) (i k : Nat) : Int := meet (bs.getD i []) (bs.getD k []) (mm ms i k).toNat
def c_Cii_i (f : List V → List V → Int → Int → Int) (q : List V → List V → Int → Int → Prop) : Contract := fun
  | [.agg [.slc false 28 (.agg [.slc false 2 (.int .i64 0) []]) a0, .slc false 22 (.slc false 2 (.int .i64 0) []) a1], .int .i64 a2, .int .i64 a3] => some ([q a0 a1 a2 a3], .int .i64 (f a0 a1 a2 a3))
  | _ => none
def f_mt (a b : List V) (i k : Int) : Int := meetC (unBB a) (unII b) i.toNat k.toNat
def q_mt (a b : List V) (i k : Int) : Prop := q_cv a b ∧ 0 ≤ i ∧ i < a.length ∧ 0 ≤ k ∧ k < a.length ∧ i ≠ k
set_option maxRecDepth 100000 in
theorem s_impl_meeting : Sat Try.prog 146 (c_Cii_i f_mt q_mt) := by
  intro args ps r h hp
  unfold c_Cii_i at h
  split at h
  · rename_i a0 a1 a2 a3
    simp only [Option.some.injEq, Prod.mk.injEq] at h
    obtain ⟨rfl, rfl⟩ := h
    obtain ⟨⟨⟨⟨bs, hbs, hb1, hb2⟩, ⟨ms, hms, hm1, hm2⟩⟩, hcv⟩, ⟨x0,x1,x2,x3,x4⟩⟩ := (alls_cons.1 hp).1
    rw [hbs, hms, unBB_BB, unII_II] at hcv
    have g1 : V.frzs a0 = a0 := by rw [hbs, BB_frzs]
    have g2 : V.frzs a1 = a1 := by rw [hms, II_frzs]
    have hbl : a0.length = bs.length := by rw [hbs, BB_length]
    have hml : a1.length = ms.length := by rw [hms, II_length]
    have gb : ∀ k, a0.getD k (.agg [.slc false 2 (.int .i64 0) []]) = .agg [.slc false 2 (.int .i64 0) (I (bs.getD k []))] := fun k => by rw [hbs, BB_getD]
    have gm : ∀ k, a1.getD k (.slc false 2 (.int .i64 0) []) = .slc false 2 (.int .i64 0) (I (ms.getD k [])) := fun k => by rw [hms, II_getD]
    have hm0 : ∀ x y : Nat, (ms.getD x []).getD y 0 = mm ms x y := fun _ _ => rfl
    obtain ⟨n, hn⟩ : ∃ n : Int, n = bs.length := ⟨_, rfl⟩
    have n1 := hcv.n1
    have n6 := hcv.n6
    have hmn : ms.length = bs.length := hcv.tab.len
    have hbr : ∀ i, i < bs.length → Br (bs.getD i []) := fun i hi => br_of (hcv.br i hi)
    have rl : ∀ k, k < bs.length → (ms.getD k []).length = bs.length := fun k hk => (hcv.tab.row k hk).1
    have mmr : ∀ i k, i < bs.length → k < bs.length → 0 ≤ mm ms i k ∧ mm ms i k ≤ 200 := fun i k hi hk => hcv.tab.range hi hk
    have mmo : ∀ i k, i < bs.length → k < bs.length → i ≠ k → 1 ≤ mm ms i k ∧ mm ms i k ≤ 200 := fun i k hi hk hne => ((hcv.tab.row i hi).2 k hk).2 hne
    rw [hbl] at x1 x3
    have hf0 : f_mt a0 a1 a2 a3 = meetC bs ms a2.toNat a3.toNat := by rw [f_mt, hbs, hms, unBB_BB, unII_II]
    have h1 := hbr a2.toNat (by omega)
    have h2 := hbr a3.toNat (by omega)
    have h3 := mmo a2.toNat a3.toNat (by omega) (by omega) (by omega)
    have h4 := rl a2.toNat (by omega)
    obtain ⟨u, hu⟩ : ∃ u, u = bs.getD a2.toNat [] := ⟨_, rfl⟩
    obtain ⟨v, hv⟩ : ∃ v, v = bs.getD a3.toNat [] := ⟨_, rfl⟩
    rw [← hu] at h1
    rw [← hv] at h2
    rw [meetC, ← hu, ← hv] at hf0
    obtain ⟨c, hc⟩ : ∃ c, c = mm ms a2.toNat a3.toNat := ⟨_, rfl⟩
    rw [← hc] at h3 hf0
    have hqm : q_meet (I u) (I v) c := ⟨⟨_, rfl, h1⟩, ⟨_, rfl, h2⟩, by omega, by omega⟩
    have hfm : f_meet (I u) (I v) c = meet u v c.toNat := by rw [f_meet, unI_I, unI_I]
    generalize H_f_meet : f_meet = F_f_meet
    generalize H_q_meet : q_meet = F_q_meet
    refine fnOk_ofI (T := tab) (B := [(63, c_BBi_i F_f_meet F_q_meet)]) (Bi := []) [0, 1, 2, 3, 6] Try.func146 rfl rfl (by kernel_rfl) (Nat.le_of_ble_eq_true rfl) mixed tabOk (by subst H_f_meet H_q_meet; exact (bookCons s_impl_intersection bookNil)) (by subst H_f_meet H_q_meet; exact bookINil) (by kernel_rfl) ?_
    intro L lp rr hL hr hf hlp
    conv => cbv
    simp only [stdEqs hL, imp_self, true_and, and_true, bif_or, bif_and, Bool.or_eq_true, Bool.or_eq_false_iff, Bool.and_eq_true, Bool.and_eq_false_iff, decide_eq_true_eq, decide_eq_false_iff_not, Bool.not_eq_true', Bool.not_eq_false', beq_iff_eq, beq_eq_false_iff_ne, ne_eq, toNat0, toNat1, ok_int, toI_int, I_frzs, I_length, I_getD, ok_ints, toL_slc, hbl, gb, ok_bran, toL_bran, fld_bran, ← hu, ← hv, gm, hml, h4, hm0, ← hc]
    subst H_f_meet H_q_meet
    rw [hr, hf0, hfm]
    (repeat' first | (exact solid_one _) | (exact solid1 rfl) | (exact noown_one _) | (apply And.intro) | (intro _)) <;> (try first | exact True.intro | omega | rfl | (simp only [List.length_cons, List.length_nil, I_length]; omega))
    all_goals first | exact hqm.1 | exact hqm.2.1 | skip
  · cases h
def dvd0 : Nat := 0
/-- the numbers of branches -/
def isOf (n : Nat) (i : Int) : Bool := inRange i 0 ((n : Int) - 1)
def c_Ci_b (f : List V → List V → Int → Bool) (q : List V → List V → Int → Prop) : Contract := fun
  | [.agg [.slc false 28 (.agg [.slc false 2 (.int .i64 0) []]) a0, .slc false 22 (.slc false 2 (.int .i64 0) []) a1], .int .i64 a2] => some ([q a0 a1 a2], .bool (f a0 a1 a2))
  | _ => none
def f_of (a _ : List V) (i : Int) : Bool := isOf a.length i
def q_of (a b : List V) (_ : Int) : Prop := q_cv a b
def c_Cii_ii (f : List V → List V → Int → Int → Int × Int) (q : List V → List V → Int → Int → Prop) : Contract := fun
  | [.agg [.slc false 28 (.agg [.slc false 2 (.int .i64 0) []]) a0, .slc false 22 (.slc false 2 (.int .i64 0) []) a1], .int .i64 a2, .int .i64 a3] => some ([q a0 a1 a2 a3], .tup [.int .i64 ((f a0 a1 a2 a3).1), .int .i64 ((f a0 a1 a2 a3).2)])
  | _ => none
noncomputable def f_in (a b : List V) (i k : Int) : Int × Int := bif f_isCv a b then (bif isOf a.length i && isOf a.length k && !(i == k) then (f_mt a b i k, 0) else (0, 2)) else (0, 1)
def q_Cii (a b : List V) (_ _ : Int) : Prop := q_C a b
theorem isOf_iff {n : Nat} {i : Int} : isOf n i = true ↔ 0 ≤ i ∧ i < n := by
  simp only [isOf, inRange, Bool.and_eq_true, decide_eq_true_eq]
  omega
def c_law_Dii (f : List V → List V → Int → Int → Bool) (q : List V → List V → Int → Int → Prop) : Contract := fun
  | [.agg [.slc false 24 (.agg [.slc false 2 (.int .i64 0) []]) a0, .slc false 22 (.slc false 2 (.int .i64 0) []) a1], .int .i64 a2, .int .i64 a3] => some ([q a0 a1 a2 a3], .bool (f a0 a1 a2 a3))
  | _ => none
def q_law_Dii : List V → List V → Int → Int → Prop := fun x y _ _ => q_C' x y
def yesCii (_ _ : List V) (_ _ : Int) : Bool := true
/-! sums of intersection numbers -/
def totN (bs ms : List (List Int)) (i : Nat) : Nat → Int
  | 0 => 0
  | k + 1 => if k = i then totN bs ms i k else W (totN bs ms i k + meetC bs ms i k)
def c_Ci_ii (f : List V → List V → Int → Int × Int) (q : List V → List V → Int → Prop) : Contract := fun
  | [.agg [.slc false 28 (.agg [.slc false 2 (.int .i64 0) []]) a0, .slc false 22 (.slc false 2 (.int .i64 0) []) a1], .int .i64 a2] => some ([q a0 a1 a2], .tup [.int .i64 ((f a0 a1 a2).1), .int .i64 ((f a0 a1 a2).2)])
  | _ => none
noncomputable def f_tot (a b : List V) (i : Int) : Int × Int := bif f_isCv a b then (bif isOf a.length i then (totN (unBB a) (unII b) i.toNat a.length, 0) else (0, 2)) else (0, 1)
def q_Ci (a b : List V) (_ : Int) : Prop := q_C a b
def c_law_Di (f : List V → List V → Int → Bool) (q : List V → List V → Int → Prop) : Contract := fun
  | [.agg [.slc false 24 (.agg [.slc false 2 (.int .i64 0) []]) a0, .slc false 22 (.slc false 2 (.int .i64 0) []) a1], .int .i64 a2] => some ([q a0 a1 a2], .bool (f a0 a1 a2))
  | _ => none
def q_law_Di : List V → List V → Int → Prop := fun x y _ => q_C' x y
def yesCi (_ _ : List V) (_ : Int) : Bool := true
end Go.Ax
