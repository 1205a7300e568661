import Derived.Test.YtdibahknjbgdkaaB02p2
/-
  What a branch is; cuts of branches; semiroots. No conditions but those of the contracts.
-/
set_option linter.all false
namespace Go.Ax
open Go.Proofs

def isBr (xs : List Int) : Bool :=
  bif (bif (bif (bif decide (0 < (xs.length : Int)) then inRange (xs.getD 0 0) 1 64 else false) then asc xs else false) then within xs 1 2000 else false) then dec (dv xs) else false
def brGo (p e : Int) : List Int → Bool
  | [] => e == 1
  | t :: l => bif !inRange t (IntKind.wrap .i64 (p + 1)) 2000 then false else bif gcdW e t == e then false else brGo t (gcdW e t) l

theorem brGo_eq : ∀ (l : List Int) (p e : Int), 1 ≤ p → p ≤ 2000 → 1 ≤ e → brGo p e l = (asc (p :: l) && within l 1 2000 && dec (e :: dvGo e l))
  | [], p, e, _, _, _ => by simp [brGo, asc, within, dvGo, dec]
  | t :: l, p, e, h1, h2, h3 => by
    have ew : IntKind.wrap .i64 (p + 1) = p + 1 := wrap_id (by omega) (by omega)
    simp only [brGo, ew]
    by_cases hr : p + 1 ≤ t ∧ t ≤ 2000
    · have e1 : inRange t (p + 1) 2000 = true := by simp [inRange, hr]
      have e2 : asc (p :: t :: l) = asc (t :: l) := by simp [asc]; omega
      have e3 : within (t :: l) 1 2000 = within l 1 2000 := by simp [within, inRange]; omega
      obtain ⟨g1, g2, _⟩ := gcdW_le (a := e) (b := t) (by omega) (by omega)
      rw [e1, e2, e3]
      simp only [Bool.not_true, cond_false, dvGo, dec]
      by_cases hg : gcdW e t = e
      · simp [hg]
      · have e4 : decide (e ≤ gcdW e t) = false := by simp; omega
        have e5 : (gcdW e t == e) = false := by simpa using hg
        rw [e4, e5]
        simp only [cond_false]
        exact brGo_eq l t (gcdW e t) (by omega) (by omega) (by omega)
    · have e1 : inRange t (p + 1) 2000 = false := by
        simp only [inRange, Bool.and_eq_false_iff, decide_eq_false_iff_not]
        omega
      rw [e1]
      simp only [Bool.not_false, cond_true]
      by_cases hp : t ≤ p
      · simp [asc, hp]
      · have : within (t :: l) 1 2000 = false := by
          have : inRange t 1 2000 = false := by
            simp only [inRange, Bool.and_eq_false_iff, decide_eq_false_iff_not]
            omega
          simp [within, this]
        simp [this]

def isBrS (xs : List Int) : Bool := bif (bif ((xs.length : Int) == 0) then true else !inRange (xs.getD 0 0) 1 64) then false else brGo (xs.getD 0 0) (xs.getD 0 0) (xs.drop 1)
theorem isBrS_eq (xs : List Int) : isBrS xs = isBr xs := by
  cases xs with
  | nil => rfl
  | cons t l =>
    have e0 : (((t :: l).length : Int) == 0) = false := by
      rw [beq_eq_false_iff_ne]
      simp only [List.length_cons]
      omega
    have e1 : decide (0 < ((t :: l).length : Int)) = true := by
      rw [decide_eq_true_eq]
      simp only [List.length_cons]
      omega
    simp only [isBrS, isBr, e0, e1, cond_true, cond_false, List.getD_cons_zero, List.drop_succ_cons, List.drop_zero]
    cases hr : inRange t 1 64 with
    | false => simp
    | true =>
      simp only [inRange, Bool.and_eq_true, decide_eq_true_eq] at hr
      rw [brGo_eq l t t (by omega) (by omega) (by omega)]
      have e2 : dv (t :: l) = t :: dvGo t l := by simp only [dv, dvGo]; rw [gcdW_zero (by omega)]
      have e3 : within (t :: l) 1 2000 = within l 1 2000 := by simp [within, inRange]; omega
      rw [e2, e3]
      cases asc (t :: l) <;> cases within l 1 2000 <;> simp

theorem bif3 {A B C D : Bool} (h : (bif (bif (bif D then A else false) then B else false) then C else false) = true) : D = true := by
  cases D <;> simp_all
def c_b_bool (f0 : List V → Bool) (q : List V → Prop) : Contract := fun
  | [.agg [.slc false 2 (.int .i64 0) a0]] => some ([q a0], .bool (f0 a0))
  | _ => none
def f0_isBr (es : List V) : Bool := isBr (unI es)

set_option maxHeartbeats 1000000 in
set_option maxRecDepth 100000 in
theorem s_impl_IsBranch : Sat Try.prog 28 (c_b_bool f0_isBr IsIs) := by
  intro args ps r h hp
  unfold c_b_bool at h
  split at h
  · rename_i a0
    simp only [Option.some.injEq, Prod.mk.injEq] at h
    obtain ⟨rfl, rfl⟩ := h
    obtain ⟨⟨xs, hxs⟩, hlen⟩ : IsIs a0 := (alls_cons.1 hp).1
    have hxl : a0.length = xs.length := by rw [hxs, I_length]
    have hg : a0.getD (Int.toNat 0) (.int .i64 0) = .int .i64 (xs.getD 0 0) := by rw [hxs, I_getD]; rfl
    have hrr0 : f0_isBr a0 = isBr xs := by rw [f0_isBr, hxs, unI_I]
    have q1 : IsI (V.frzs a0) := by rw [hxs, I_frzs]; exact ⟨xs, rfl⟩
    have q2 : xs ≠ [] → q_falls (V.frzs a0) := by
      intro h
      rw [hxs, I_frzs]
      refine ⟨⟨⟨xs, rfl⟩, by rw [← hxs]; exact hlen⟩, ?_⟩
      cases xs with
      | nil => exact absurd rfl h
      | cons x l => simp [I]
    have g1 : f0_asc (V.frzs a0) = asc xs := by rw [hxs, I_frzs, f0_asc, unI_I]
    have g2 : f_within (V.frzs a0) 1 2000 = within xs 1 2000 := by rw [hxs, I_frzs, f_within, unI_I]
    have g3 : f0_falls (V.frzs a0) = dec (dv xs) := by rw [hxs, I_frzs, f0_falls, unI_I]
    generalize H_inRange : inRange = F_inRange
    generalize H_f0_asc : f0_asc = F_f0_asc
    generalize H_IsI : IsI = F_IsI
    generalize H_f_within : f_within = F_f_within
    generalize H_f0_falls : f0_falls = F_f0_falls
    generalize H_q_falls : q_falls = F_q_falls
    refine fnOk_ofI (T := tab) (B := [(50, c_impl_inRange F_inRange), (58, c_l_bool F_f0_asc F_IsI), (59, c_impl_within F_f_within F_IsI), (60, c_l_bool F_f0_falls F_q_falls)]) (Bi := []) [0, 1, 2, 3] Try.func28 rfl rfl (by kernel_rfl) (Nat.le_of_ble_eq_true rfl) mixed tabOk (by subst H_inRange H_f0_asc H_IsI H_f_within H_f0_falls H_q_falls; exact (bookCons s_impl_inRange (bookCons s_impl_ascends (bookCons s_impl_within (bookCons s_impl_falls bookNil))))) (by subst H_inRange H_f0_asc H_IsI H_f_within H_f0_falls H_q_falls; exact bookINil) (by kernel_rfl) ?_
    intro L lp rr hL hr hf hlp
    conv => cbv
    simp only [stdEqs hL, hxl, hg, ok_int, toI_int, imp_self, true_and, and_true]
    subst H_inRange H_f0_asc H_IsI H_f_within H_f0_falls H_q_falls
    simp only [g1, g2, g3, q1, implies_true, true_and]
    have hne : decide (0 < (xs.length : Int)) = true → xs ≠ [] := by
      rintro h rfl
      simp at h
    (repeat' first | (intro _) | (apply And.intro)) <;> try (first | omega | assumption | trivial)
    · rename_i h; simpa using h
    · rename_i h; exact (q2 (hne (bif3 h))).1.2
    · rename_i h h'; exact (q2 (hne (bif3 h))).2 h'
    · rw [hr, hrr0, isBr]
  · cases h

set_option maxHeartbeats 1000000 in
set_option maxRecDepth 100000 in
theorem s_spec_l03Is : Sat Try.prog 32 (c_b_bool f0_isBr IsIs) := by
  intro args ps r h hp
  unfold c_b_bool at h
  split at h
  · rename_i a0
    simp only [Option.some.injEq, Prod.mk.injEq] at h
    obtain ⟨rfl, rfl⟩ := h
    obtain ⟨⟨xs, hxs⟩, hlen⟩ : IsIs a0 := (alls_cons.1 hp).1
    have hxl : a0.length = xs.length := by rw [hxs, I_length]
    have hg0 : a0.getD (Int.toNat 0) (.int .i64 0) = .int .i64 (xs.getD 0 0) := by rw [hxs, I_getD]; rfl
    have hrr0 : f0_isBr a0 = isBrS xs := by rw [f0_isBr, hxs, unI_I, isBrS_eq]
    rw [hxl] at hlen
    generalize H_inRange : inRange = F_inRange
    generalize H_gcdW : gcdW = F_gcdW
    generalize H_always : always = F_always
    refine fnOk_ofI (T := tab) (B := [(53, c_impl_inRange F_inRange), (62, c_ii_i F_gcdW F_always)]) (Bi := []) [0, 1, 2, 3, 4, 5, 6] Try.func32 rfl rfl (by kernel_rfl) (Nat.le_of_ble_eq_true rfl) mixed tabOk (by subst H_inRange H_gcdW H_always; exact (bookCons s_spec_l01In (bookCons s_spec_l01Gcd bookNil))) (by subst H_inRange H_gcdW H_always; exact bookINil) (by kernel_rfl) ?_
    intro L lp rr hL hr hf hlp
    have hrr : rr = .bool (isBrS xs) := by rw [hr, hrr0]
    conv => cbv
    simp only [stdEqs hL, hxl, hg0, ok_int, toI_int, imp_self, true_and, and_true]
    (repeat' first | (intro _) | (apply And.intro)) <;> try (first | omega | assumption | trivial)
    · rename_i h
      cases xs with
      | nil => simp at h
      | cons x l => simp
    · rename_i h
      subst H_inRange
      rw [hrr, isBrS, h]
      rfl
    · rename_i h
      cases xs with
      | nil => simp at h
      | cons x l => simp
    · rename_i h
      have hpos : 0 < xs.length := by
        cases xs with
        | nil => simp at h
        | cons x l => simp
      have hgo : isBrS xs = brGo (xs.getD 0 0) (xs.getD 0 0) (xs.drop 1) := by
        subst H_inRange
        rw [isBrS, h]
        rfl
      refine hlp (Int × Int) _ _ _ [3, 4, 5] (fun x => [(3, none, .val (.slc false 2 (.int .i64 0) a0)), (4, none, .val (.int .i64 x.1)), (5, none, .val (.int .i64 x.2))])
        (fun x => 0 < x.2 ∧ x.2 ≤ xs.length ∧ isBrS xs = brGo (xs.getD (x.2.toNat - 1) 0) x.1 (xs.drop x.2.toNat)) (fun x => (xs.length - x.2).toNat) (xs.getD 0 0, 1) (by subst hL; simp only [stdEqs rfl, hg0, toI_int]; rfl) ⟨by simp, by simp only; omega, hgo⟩ ?_
      rintro ⟨e, i⟩ ⟨i0, i1, h2⟩ hfx ag hag
      conv => cbv
      simp only at i0 i1 h2
      have hg : a0.getD i.toNat (.int .i64 0) = .int .i64 (xs.getD i.toNat 0) := by rw [hxs, I_getD]
      have hg' : a0.getD (i - 1).toNat (.int .i64 0) = .int .i64 (xs.getD (i.toNat - 1) 0) := by rw [hxs, I_getD, show (i - 1).toNat = i.toNat - 1 by omega]
      have ew : IntKind.wrap .i64 (i - 1) = i - 1 := wrap_id (by omega) (by omega)
      simp only [stdEqs hL, hxl, hg, hg', ew, ok_int, toI_int, imp_self, true_and, and_true, decide_eq_true_eq, decide_eq_false_iff_not]
      refine ⟨fun hb => ?_, fun hb => ?_⟩
      · have e1 : xs.drop i.toNat = xs.getD i.toNat 0 :: xs.drop (i.toNat + 1) := drop_cons 0 (by omega)
        rw [e1, brGo] at h2
        (repeat' first | (intro _) | (apply And.intro)) <;> try (first | omega | assumption | trivial)
        · rename_i h4
          subst H_inRange
          rw [hrr, h2, h4]
          rfl
        · subst H_always; trivial
        · rename_i h4 h5
          subst H_inRange H_gcdW
          rw [hrr, h2, h4, h5]
          rfl
        · rename_i h4 h5
          subst H_inRange H_gcdW
          rw [wrap_id (n := i + 1) (by omega) (by omega)]
          refine hag (gcdW e (xs.getD i.toNat 0), i + 1) ⟨by simp only; omega, by simp only; omega, ?_⟩ (by simp only; omega)
          rw [h2, h4, h5]
          simp only [cond_false, toNat_succ (Int.le_of_lt i0), Nat.add_sub_cancel]
      · have e1 : xs.drop i.toNat = [] := List.drop_eq_nil_of_le (by omega)
        rw [hrr, h2, e1]
        rfl
  · cases h

def c_b_i (f0 : List V → Int) : Contract := fun
  | [.agg [.slc false 2 (.int .i64 0) a0]] => some ([], .int .i64 (f0 a0))
  | _ => none
def f0_pairs (es : List V) : Int := IntKind.wrap .i64 ((es.length : Int) - 1)
set_option maxHeartbeats 1000000 in
set_option maxRecDepth 100000 in
theorem s_impl_pairsOf : Sat Try.prog 51 (c_b_i f0_pairs) := by
  intro args ps r h hp
  unfold c_b_i at h
  split at h
  · rename_i a0
    simp only [Option.some.injEq, Prod.mk.injEq] at h
    obtain ⟨rfl, rfl⟩ := h
    refine fnOk_ofI (T := tab) (B := []) (Bi := []) [0, 1, 2] Try.func51 rfl rfl (by kernel_rfl) (Nat.le_of_ble_eq_true rfl) mixed tabOk (by exact bookNil) (by exact bookINil) (by kernel_rfl) ?_
    intro L lp rr hL hr hf hlp
    conv => cbv
    simp only [stdEqs hL]
    exact hr.symm
  · cases h

def cut (xs : List Int) (k : Int) : List Int := (xs.take (k.toNat + 1)).map fun t => IntKind.wrap .i64 (t.tdiv ((dv xs).getD k.toNat 0))
def c_bi_b (f0 : List V → Int → List V) (q : List V → Int → Prop) : Contract := fun
  | [.agg [.slc false 2 (.int .i64 0) a0], .int .i64 a1] => some ([q a0 a1], .agg [.slc true 2 (.int .i64 0) (f0 a0 a1)])
  | _ => none
def f0_cut (es : List V) (k : Int) : List V := I (cut (unI es) k)
def q_cut (es : List V) (k : Int) : Prop := IsP es ∧ 0 ≤ k ∧ k < es.length ∧ (dv (unI es)).getD k.toNat 0 ≠ 0
theorem IsP.isIs {es : List V} (h : IsP es) : IsIs es := by
  obtain ⟨t, l, rfl, _, hl⟩ := h
  exact ⟨⟨_, rfl⟩, by simp; omega⟩

set_option maxHeartbeats 1000000 in
set_option maxRecDepth 100000 in
theorem s_spec_l03Cut : Sat Try.prog 54 (c_bi_b f0_cut q_cut) := by
  intro args ps r h hp
  unfold c_bi_b at h
  split at h
  · rename_i a0 a1
    simp only [Option.some.injEq, Prod.mk.injEq] at h
    obtain ⟨rfl, rfl⟩ := h
    obtain ⟨hP, k0, k1, hne⟩ : q_cut a0 a1 := (alls_cons.1 hp).1
    obtain ⟨⟨xs, hxs⟩, hlen⟩ := hP.isIs
    have hxl : a0.length = xs.length := by rw [hxs, I_length]
    rw [hxl] at hlen k1
    rw [hxs, unI_I] at hne
    have hf0 : f0_dv (V.frzs a0) = I (dv xs) := by rw [hxs, I_frzs, f0_dv, unI_I]
    have hq : IsP (V.frzs a0) := by rw [hxs, I_frzs, ← hxs]; exact hP
    have hrr0 : f0_cut a0 a1 = I (cut xs a1) := by rw [f0_cut, hxs, unI_I]
    have hdl : (dv xs).length = xs.length := by rw [dv, dvGo_len]
    generalize H_f0_dv : f0_dv = F_f0_dv
    generalize H_IsP : IsP = F_IsP
    refine fnOk_ofI (T := tab) (B := [(33, c_b_l F_f0_dv F_IsP)]) (Bi := []) [0, 1, 2, 4, 5, 6, 7] Try.func54 rfl rfl (by kernel_rfl) (Nat.le_of_ble_eq_true rfl) mixed tabOk (by subst H_f0_dv H_IsP; exact (bookCons s_spec_l03Divisors bookNil)) (by subst H_f0_dv H_IsP; exact bookINil) (by kernel_rfl) ?_
    intro L lp rr hL hr hf hlp
    conv => cbv
    have hF : F_f0_dv (V.frzs a0) = I (dv xs) := by rw [← H_f0_dv]; exact hf0
    obtain ⟨d, hd⟩ : ∃ d, d = (dv xs).getD a1.toNat 0 := ⟨_, rfl⟩
    simp only [stdEqs hL, hF, I_length, hdl, I_getD, ok_int, toI_int, true_and, ← hd]
    refine ⟨by rw [← H_IsP]; exact hq, k0, by omega, by omega, ?_⟩
    refine hlp (List V × Int) _ _ _ [1, 2, 4, 5, 6, 7] (fun x => [(1, none, .val (.int .i64 a1)), (2, none, .val (.box 26 (.agg [.slc false 2 (.int .i64 0) a0]))), (4, none, .val (.box 26 (.agg [.slc true 2 (.int .i64 0) []]))), (5, none, .val (.int .i64 d)), (6, none, .val (.box 26 (.agg [.slc true 2 (.int .i64 0) x.1]))), (7, none, .val (.int .i64 x.2))])
      (fun x => 0 ≤ x.2 ∧ x.2 ≤ a1 + 1 ∧ x.1 = I ((xs.take x.2.toNat).map fun t => IntKind.wrap .i64 (t.tdiv d))) (fun x => (a1 + 1 - x.2).toNat) ([], 0) (by subst hL; rfl) ⟨by simp, by simp only; omega, by simp⟩ ?_
    rintro ⟨es, i⟩ ⟨i0, i1, h1⟩ hfx ag hag
    conv => cbv
    simp only at i0 i1 h1
    have hg : a0.getD i.toNat (.int .i64 0) = .int .i64 (xs.getD i.toNat 0) := by rw [hxs, I_getD]
    simp only [stdEqs hL, hxl, hg, ok_int, toI_int, imp_self, true_and, and_true, decide_eq_true_eq, decide_eq_false_iff_not]
    refine ⟨fun hb => ?_, fun hb => ?_⟩
    · have hel : es.length = i.toNat := by rw [h1, I_length, List.length_map, List.length_take]; omega
      refine ⟨i0, by omega, by rw [hd]; exact hne, rfl, by simp only [hel, List.length_cons, List.length_nil]; omega, solid_one _, ?_⟩
      rw [wrap_id (n := i + 1) (by omega) (by omega)]
      generalize hy : IntKind.wrap .i64 ((xs.getD i.toNat 0).tdiv d) = y
      refine hag (es ++ [.int .i64 y], i + 1) ⟨by simp only; omega, by simp only; omega, ?_⟩ (by simp only; omega)
      have e1 : i.toNat < xs.length := by omega
      simp only [toNat_succ i0]
      rw [h1, List.take_succ_eq_append_getElem e1, List.map_append, ← hy, List.getD_eq_getElem?_getD, List.getElem?_eq_getElem e1]
      simp [I]
    · rw [hr, hrr0, h1, cut, ← hd, show i.toNat = a1.toNat + 1 by omega]
  · cases h

set_option maxHeartbeats 1000000 in
set_option maxRecDepth 100000 in
theorem s_impl_truncated : Sat Try.prog 52 (c_bi_b f0_cut q_cut) := by
  intro args ps r h hp
  unfold c_bi_b at h
  split at h
  · rename_i a0 a1
    simp only [Option.some.injEq, Prod.mk.injEq] at h
    obtain ⟨rfl, rfl⟩ := h
    obtain ⟨hP, k0, k1, hne⟩ : q_cut a0 a1 := (alls_cons.1 hp).1
    obtain ⟨⟨xs, hxs⟩, hlen⟩ := hP.isIs
    have hxl : a0.length = xs.length := by rw [hxs, I_length]
    have hq : IsIs (V.frzs a0) := by rw [hxs, I_frzs, ← hxs]; exact hP.isIs
    rw [hxl] at hlen k1
    rw [hxs, unI_I] at hne
    have hf0 : f0_dv (V.frzs a0) = I (dv xs) := by rw [hxs, I_frzs, f0_dv, unI_I]
    have hrr0 : f0_cut a0 a1 = I (cut xs a1) := by rw [f0_cut, hxs, unI_I]
    have hdl : (dv xs).length = xs.length := by rw [dv, dvGo_len]
    generalize H_f0_dv : f0_dv = F_f0_dv
    generalize H_IsIs : IsIs = F_IsIs
    refine fnOk_ofI (T := tab) (B := [(29, c_l_l F_f0_dv F_IsIs)]) (Bi := []) [0, 1, 2, 4, 5, 6, 8, 20, 21, 22] Try.func52 rfl rfl (by kernel_rfl) (Nat.le_of_ble_eq_true rfl) mixed tabOk (by subst H_f0_dv H_IsIs; exact (bookCons s_impl_divisors bookNil)) (by subst H_f0_dv H_IsIs; exact bookINil) (by kernel_rfl) ?_
    intro L lp rr hL hr hf hlp
    conv => cbv
    have hF : F_f0_dv (V.frzs a0) = I (dv xs) := by rw [← H_f0_dv]; exact hf0
    obtain ⟨d, hd⟩ : ∃ d, d = (dv xs).getD a1.toNat 0 := ⟨_, rfl⟩
    have ew : IntKind.wrap .i64 (a1 + 1) = a1 + 1 := wrap_id (by omega) (by omega)
    obtain ⟨ys, hys⟩ : ∃ ys, ys = xs.take (a1.toNat + 1) := ⟨_, rfl⟩
    have hyl : ys.length = a1.toNat + 1 := by rw [hys, List.length_take]; omega
    obtain ⟨ts, hts⟩ : ∃ ts, ts = I ys := ⟨_, rfl⟩
    have hsl : List.drop (Int.toNat 0) (List.take (a1 + 1).toNat a0) = ts := by
      rw [hxs, hts, hys, show (a1 + 1).toNat = a1.toNat + 1 by omega]
      simp
    have htl : ts.length = a1.toNat + 1 := by rw [hts, I_length, hyl]
    obtain ⟨m, hm⟩ : ∃ m : Int, m = ((a1.toNat + 1 : Nat) : Int) := ⟨_, rfl⟩
    simp only [stdEqs hL, hF, hxl, I_length, hdl, I_getD, ok_int, toI_int, ew, hsl, htl, true_and, ← hd, ← hm]
    refine ⟨by rw [← H_IsIs]; exact hq, k0, by omega, by omega, by omega, by omega, by omega, ?_⟩
    refine hlp (List V × Int) _ _ _ [4, 5, 6, 20, 21, 22] (fun x => [(4, none, .val (.box 26 (.agg [.slc true 2 (.int .i64 0) []]))), (5, none, .val (.int .i64 d)), (6, none, .val (.box 26 (.agg [.slc true 2 (.int .i64 0) x.1]))), (20, none, .val (.slc false 2 (.int .i64 0) ts)), (21, none, .val (.int .i64 m)), (22, none, .val (.int .i64 x.2))])
      (fun x => 0 ≤ x.2 ∧ x.2 ≤ m ∧ x.1 = I ((ys.take x.2.toNat).map fun t => IntKind.wrap .i64 (t.tdiv d))) (fun x => (m - x.2).toNat) ([], 0) (by subst hL; rfl) ⟨by simp, by simp only; omega, by simp⟩ ?_
    rintro ⟨es, i⟩ ⟨i0, i1, h1⟩ hfx ag hag
    conv => cbv
    simp only at i0 i1 h1
    have hg : ts.getD i.toNat (.int .i64 0) = .int .i64 (ys.getD i.toNat 0) := by rw [hts, I_getD]
    simp only [stdEqs hL, htl, hg, ok_int, toI_int, imp_self, true_and, and_true, decide_eq_true_eq, decide_eq_false_iff_not]
    refine ⟨fun hb => ?_, fun hb => ?_⟩
    · have hel : es.length = i.toNat := by rw [h1, I_length, List.length_map, List.length_take]; omega
      refine ⟨i0, by omega, by rw [hd]; exact hne, rfl, by simp only [hel, List.length_cons, List.length_nil]; omega, solid_one _, ?_⟩
      rw [wrap_id (n := i + 1) (by omega) (by omega)]
      generalize hy : IntKind.wrap .i64 ((ys.getD i.toNat 0).tdiv d) = y
      refine hag (es ++ [.int .i64 y], i + 1) ⟨by simp only; omega, by simp only; omega, ?_⟩ (by simp only; omega)
      have e1 : i.toNat < ys.length := by omega
      simp only [toNat_succ i0]
      rw [h1, List.take_succ_eq_append_getElem e1, List.map_append, ← hy, List.getD_eq_getElem?_getD, List.getElem?_eq_getElem e1]
      simp [I]
    · rw [hr, hrr0, h1, cut, ← hd, List.take_of_length_le (show ys.length ≤ i.toNat by omega), hys]
  · cases h

theorem dvGo_pos : ∀ (l : List Int) (d : Int), 0 < d → within l 1 2000 = true → ∀ i, i < l.length → 0 < (dvGo d l).getD i 0
  | [], _, _, _, i, h => by simp at h
  | t :: l, d, hd, hw, i, h => by
    simp only [within, List.all_cons, Bool.and_eq_true, inRange, decide_eq_true_eq] at hw
    have hg := (gcdW_le hd (show 0 < t by omega)).1
    cases i with
    | zero => simpa [dvGo] using hg
    | succ i =>
      have := dvGo_pos l (gcdW d t) hg (by simpa [within, inRange] using hw.2) i (by simpa using h)
      simpa [dvGo] using this
theorem cond_and' (a b : Bool) : (bif a then b else false) = (a && b) := by cases a <;> rfl
theorem isBr_facts {xs : List Int} (h : isBr xs = true) : ∃ t l, xs = t :: l ∧ 1 ≤ t ∧ t ≤ 64 ∧ within xs 1 2000 = true ∧ (∀ i, i < xs.length → 0 < (dv xs).getD i 0) := by
  simp only [isBr, cond_and', Bool.and_eq_true] at h
  obtain ⟨⟨⟨⟨h1, h2⟩, h3⟩, h4⟩, h5⟩ := h
  cases xs with
  | nil => simp at h1
  | cons t l =>
    simp only [List.getD_cons_zero, inRange, Bool.and_eq_true, decide_eq_true_eq] at h2
    refine ⟨t, l, rfl, h2.1, h2.2, h4, fun i hi => ?_⟩
    have e2 : dv (t :: l) = t :: dvGo t l := by simp only [dv, dvGo]; rw [gcdW_zero (by omega)]
    rw [e2]
    cases i with
    | zero => simp only [List.getD_cons_zero]; omega
    | succ i =>
      have hw : within l 1 2000 = true := by
        simp only [within, List.all_cons, Bool.and_eq_true] at h4
        exact h4.2
      simpa using dvGo_pos l t (by omega) hw i (by simpa using hi)
def sr (xs : List Int) (i : Int) : List Int × Int :=
  bif !isBr xs then ([], 1) else bif !inRange i 1 (IntKind.wrap .i64 ((xs.length : Int) - 1)) then ([], 2) else (cut xs (IntKind.wrap .i64 (i - 1)), 0)
theorem sr_q {xs : List Int} {i : Int} (hlen : xs.length ≤ 2147483647) (h1 : isBr xs = true) (h2 : inRange i 1 (IntKind.wrap .i64 ((xs.length : Int) - 1)) = true) : q_cut (I xs) (IntKind.wrap .i64 (i - 1)) := by
  obtain ⟨t, l, hx, t1, t2, hw, hd⟩ := isBr_facts h1
  have hn : xs.length = l.length + 1 := by rw [hx]; rfl
  rw [wrap_id (n := (xs.length : Int) - 1) (by omega) (by omega)] at h2
  simp only [inRange, Bool.and_eq_true, decide_eq_true_eq] at h2
  rw [wrap_id (n := i - 1) (by omega) (by omega)]
  refine ⟨⟨t, l, by rw [hx], by omega, by omega⟩, by omega, by rw [I_length]; omega, ?_⟩
  rw [unI_I]
  have := hd (i - 1).toNat (by omega)
  omega
def f0_sr (es : List V) (i : Int) : List V := I (sr (unI es) i).1
def f1_sr (es : List V) (i : Int) : Int := (sr (unI es) i).2
def c_SemirootOf (f0 : List V → Int → List V) (f1 : List V → Int → Int) (q : List V → Prop) : Contract := fun
  | [.agg [.slc false 2 (.int .i64 0) a0], .int .i64 a1] => some ([q a0], .tup [.agg [.slc true 2 (.int .i64 0) (f0 a0 a1)], .int .i64 (f1 a0 a1)])
  | _ => none
set_option maxHeartbeats 1000000 in
set_option maxRecDepth 100000 in
theorem s_spec_SemirootOf : Sat Try.prog 23 (c_SemirootOf f0_sr f1_sr IsIs) := by
  intro args ps r h hp
  unfold c_SemirootOf at h
  split at h
  · rename_i a0 a1
    simp only [Option.some.injEq, Prod.mk.injEq] at h
    obtain ⟨rfl, rfl⟩ := h
    obtain ⟨⟨xs, hxs⟩, hlen⟩ : IsIs a0 := (alls_cons.1 hp).1
    have hxl : a0.length = xs.length := by rw [hxs, I_length]
    have q1 : IsIs (V.frzs a0) := by rw [hxs, I_frzs, ← hxs]; exact ⟨⟨xs, hxs⟩, hlen⟩
    have g1 : f0_isBr (V.frzs a0) = isBr xs := by rw [hxs, I_frzs, f0_isBr, unI_I]
    have g2 : ∀ k, f0_cut (V.frzs a0) k = I (cut xs k) := fun k => by rw [hxs, I_frzs, f0_cut, unI_I]
    rw [hxl] at hlen
    have hrr0 : f0_sr a0 a1 = I (sr xs a1).1 ∧ f1_sr a0 a1 = (sr xs a1).2 := by rw [f0_sr, f1_sr, hxs, unI_I]; exact ⟨rfl, rfl⟩
    generalize H_f0_isBr : f0_isBr = F_f0_isBr
    generalize H_IsIs : IsIs = F_IsIs
    generalize H_inRange : inRange = F_inRange
    generalize H_f0_cut : f0_cut = F_f0_cut
    generalize H_q_cut : q_cut = F_q_cut
    refine fnOk_ofI (T := tab) (B := [(32, c_b_bool F_f0_isBr F_IsIs), (53, c_impl_inRange F_inRange), (54, c_bi_b F_f0_cut F_q_cut)]) (Bi := []) [0, 1, 2, 4, 5] Try.func23 rfl rfl (by kernel_rfl) (Nat.le_of_ble_eq_true rfl) mixed tabOk (by subst H_f0_isBr H_IsIs H_inRange H_f0_cut H_q_cut; exact (bookCons s_spec_l03Is (bookCons s_spec_l01In (bookCons s_spec_l03Cut bookNil)))) (by subst H_f0_isBr H_IsIs H_inRange H_f0_cut H_q_cut; exact bookINil) (by kernel_rfl) ?_
    intro L lp rr hL hr hf hlp
    conv => cbv
    simp only [stdEqs hL, hxl]
    subst H_f0_isBr H_IsIs H_inRange H_f0_cut H_q_cut
    simp only [g1, g2]
    refine ⟨q1, fun h => ?_, fun h => ⟨fun h' => ?_, fun h' => ⟨?_, ?_⟩⟩⟩
    · rw [hr, hrr0.1, hrr0.2, sr, h]; rfl
    · rw [hr, hrr0.1, hrr0.2, sr, h, h']; rfl
    · rw [hxs, I_frzs]
      exact sr_q hlen (by simpa using h) (by simpa using h')
    · rw [hr, hrr0.1, hrr0.2, sr, h, h']; rfl
  · cases h
set_option maxHeartbeats 1000000 in
set_option maxRecDepth 100000 in
theorem s_impl_SemirootOf : Sat Try.prog 22 (c_SemirootOf f0_sr f1_sr IsIs) := by
  intro args ps r h hp
  unfold c_SemirootOf at h
  split at h
  · rename_i a0 a1
    simp only [Option.some.injEq, Prod.mk.injEq] at h
    obtain ⟨rfl, rfl⟩ := h
    obtain ⟨⟨xs, hxs⟩, hlen⟩ : IsIs a0 := (alls_cons.1 hp).1
    have hxl : a0.length = xs.length := by rw [hxs, I_length]
    have q1 : IsIs (V.frzs a0) := by rw [hxs, I_frzs, ← hxs]; exact ⟨⟨xs, hxs⟩, hlen⟩
    have g1 : f0_isBr (V.frzs a0) = isBr xs := by rw [hxs, I_frzs, f0_isBr, unI_I]
    have g2 : ∀ k, f0_cut (V.frzs a0) k = I (cut xs k) := fun k => by rw [hxs, I_frzs, f0_cut, unI_I]
    rw [hxl] at hlen
    have hrr0 : f0_sr a0 a1 = I (sr xs a1).1 ∧ f1_sr a0 a1 = (sr xs a1).2 := by rw [f0_sr, f1_sr, hxs, unI_I]; exact ⟨rfl, rfl⟩
    have g3 : f0_pairs (V.frzs a0) = IntKind.wrap .i64 ((xs.length : Int) - 1) := by rw [hxs, I_frzs, f0_pairs, I_length]
    generalize H_f0_isBr : f0_isBr = F_f0_isBr
    generalize H_IsIs : IsIs = F_IsIs
    generalize H_inRange : inRange = F_inRange
    generalize H_f0_pairs : f0_pairs = F_f0_pairs
    generalize H_f0_cut : f0_cut = F_f0_cut
    generalize H_q_cut : q_cut = F_q_cut
    refine fnOk_ofI (T := tab) (B := [(28, c_b_bool F_f0_isBr F_IsIs), (50, c_impl_inRange F_inRange), (51, c_b_i F_f0_pairs), (52, c_bi_b F_f0_cut F_q_cut)]) (Bi := []) [0, 1, 2, 4, 5] Try.func22 rfl rfl (by kernel_rfl) (Nat.le_of_ble_eq_true rfl) mixed tabOk (by subst H_f0_isBr H_IsIs H_inRange H_f0_pairs H_f0_cut H_q_cut; exact (bookCons s_impl_IsBranch (bookCons s_impl_inRange (bookCons s_impl_pairsOf (bookCons s_impl_truncated bookNil))))) (by subst H_f0_isBr H_IsIs H_inRange H_f0_pairs H_f0_cut H_q_cut; exact bookINil) (by kernel_rfl) ?_
    intro L lp rr hL hr hf hlp
    conv => cbv
    simp only [stdEqs hL, hxl]
    subst H_f0_isBr H_IsIs H_inRange H_f0_pairs H_f0_cut H_q_cut
    simp only [g1, g2, g3]
    refine ⟨q1, fun h => ?_, fun h => ⟨fun h' => ?_, fun h' => ⟨?_, ?_⟩⟩⟩
    · rw [hr, hrr0.1, hrr0.2, sr, h]; rfl
    · rw [hr, hrr0.1, hrr0.2, sr, h, h']; rfl
    · rw [hxs, I_frzs]
      exact sr_q hlen (by simpa using h) (by simpa using h')
    · rw [hr, hrr0.1, hrr0.2, sr, h, h']; rfl
  · cases h
end Go.Ax
