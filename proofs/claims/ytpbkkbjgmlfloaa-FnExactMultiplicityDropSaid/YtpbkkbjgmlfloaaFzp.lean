/-
  Delta invariants and lengths of branches. No conditions but those of the contracts.
-/
import Derived.Test.YtpbkkbjgmlfloaaFsp
set_option linter.all false
namespace Go.Ax
open Go.Proofs

def tri (m : Int) : Int := (m * (m - 1)).tdiv 2
def delT : List Int → Int
  | [] => 0
  | m :: l => tri m + delT l
theorem delT_append : ∀ a b : List Int, delT (a ++ b) = delT a + delT b
  | [], b => by simp [delT]
  | x :: a, b => by simp only [List.cons_append, delT, delT_append a b]; omega
theorem delT_rep (m : Int) : ∀ n : Nat, delT (List.replicate n m) = n * tri m
  | 0 => by simp [delT]
  | n + 1 => by
    simp only [List.replicate_succ, delT, delT_rep m n, Int.natCast_add, Int.add_mul]
    omega
theorem tri_in {m : Int} (h1 : 1 ≤ m) (h2 : m ≤ 64) : 0 ≤ m * (m - 1) ∧ m * (m - 1) ≤ 4032 ∧ 0 ≤ tri m ∧ tri m ≤ 2016 := by
  have k1 : 0 ≤ m * (m - 1) := Int.mul_nonneg (by omega) (by omega)
  have k2 : m * (m - 1) ≤ 64 * 63 := Int.mul_le_mul h2 (by omega) (by omega) (by omega)
  refine ⟨k1, by omega, ?_, ?_⟩
  · rw [tri, Int.tdiv_eq_ediv_of_nonneg k1]; omega
  · rw [tri, Int.tdiv_eq_ediv_of_nonneg k1]; omega
def Low (l : List Int) : Prop := ∀ m ∈ l, 1 ≤ m ∧ m ≤ 64
theorem delT_in : ∀ l : List Int, Low l → 0 ≤ delT l ∧ delT l ≤ 2016 * l.length
  | [], _ => by simp [delT]
  | m :: l, h => by
    have h1 := tri_in (h m (by simp)).1 (h m (by simp)).2
    have h2 := delT_in l (fun x hx => h x (by simp [hx]))
    simp only [delT, List.length_cons]
    omega
theorem Low.take {l : List Int} (h : Low l) (n : Nat) : Low (l.take n) := fun m hm => h m (List.mem_of_mem_take hm)
theorem delT_take (l : List Int) (i : Nat) (h : i < l.length) : delT (l.take (i + 1)) = delT (l.take i) + tri (l.getD i 0) := by
  rw [List.take_succ_eq_append_getElem h, delT_append, List.getD_eq_getElem?_getD, List.getElem?_eq_getElem h]
  simp [delT]
theorem Low.at {l : List Int} (h : Low l) {i : Nat} (hi : i < l.length) : 1 ≤ l.getD i 0 ∧ l.getD i 0 ≤ 64 := by
  rw [List.getD_eq_getElem?_getD, List.getElem?_eq_getElem hi]
  exact h _ (List.getElem_mem hi)
theorem sq1_low {xs : List Int} (h : Br xs) : Low (sq1 xs) := by
  intro m hm
  obtain ⟨i, hi, rfl⟩ := List.mem_iff_getElem.1 hm
  have h1 := sq1_get xs i
  rw [seqI_get, List.getD_eq_getElem?_getD, List.getElem?_eq_getElem hi, Option.getD_some] at h1
  rw [h1]
  have h2 := mul_le h i
  have h3 := (mul_good h).1.pos i
  omega
def c_l_int (f : List V → Int) (q : List V → Prop) : Contract := fun
  | [.slc false 2 (.int .i64 0) a0] => some ([q a0], .int .i64 (f a0))
  | _ => none
def f_delT (a : List V) : Int := delT (unI a)
def q_del (a : List V) : Prop := ∃ l, a = I l ∧ l.length ≤ 200000 ∧ Low l
set_option maxRecDepth 100000 in
theorem s_impl_deltaOf : Sat Try.prog 54 (c_l_int f_delT q_del) := by
  intro args ps r h hp
  unfold c_l_int at h
  split at h
  · rename_i a0
    simp only [Option.some.injEq, Prod.mk.injEq] at h
    obtain ⟨rfl, rfl⟩ := h
    obtain ⟨xs, hxs, hl, hlow⟩ : q_del a0 := (alls_cons.1 hp).1
    have hxl : a0.length = xs.length := by rw [hxs, I_length]
    have hf0 : f_delT a0 = delT xs := by rw [f_delT, hxs, unI_I]
    have gx : ∀ i, a0.getD i (.int .i64 0) = .int .i64 (xs.getD i 0) := fun i => by rw [hxs, I_getD]
    obtain ⟨n, hn⟩ : ∃ n : Int, n = xs.length := ⟨_, rfl⟩
    refine fnOk_ofI (T := tab) (B := []) (Bi := []) [0, 2, 3, 5, 6, 7, 8] Try.func54 rfl rfl (by kernel_rfl) (Nat.le_of_ble_eq_true rfl) mixed tabOk (by exact bookNil) (by exact bookINil) (by kernel_rfl) ?_
    intro L lp rr hL hr hf hlp
    conv => cbv
    refine hlp (Int × Int) _ _ _ [3, 6, 7, 8] (fun x => [(3, none, .val (.int .i64 x.1)), (6, none, .val (.slc false 2 (.int .i64 0) a0)), (7, none, .val (.int .i64 n)), (8, none, .val (.int .i64 x.2))])
      (fun x => 0 ≤ x.2 ∧ x.2 ≤ n ∧ x.1 = delT (xs.take x.2.toNat)) (fun x => (n - x.2).toNat) ((0, 0)) (by subst hL; rw [hn, ← hxl]; rfl) ?_ ?_
    · exact ⟨by simp, by simp only; omega, rfl⟩
    rintro ⟨s, i⟩ ⟨i0, i1, hI⟩ hfx ag hag
    simp only at i0 i1 hI
    conv => cbv
    simp only [stdEqs hL, imp_self, true_and, and_true, bif_or, bif_and, Bool.or_eq_true, Bool.or_eq_false_iff, Bool.and_eq_true, Bool.and_eq_false_iff, decide_eq_true_eq, decide_eq_false_iff_not, Bool.not_eq_true', Bool.not_eq_false', beq_iff_eq, beq_eq_false_iff_ne, ne_eq, toNat0, toNat1, ok_int, toI_int, I_frzs, I_length, I_getD, ok_ints, toL_slc, hxl, gx]
    refine ⟨fun h2 => ⟨i0, by omega, by omega, ?_⟩, fun h2 => ?_⟩
    · have hil : i.toNat < xs.length := by omega
      obtain ⟨m, hm⟩ : ∃ m, m = xs.getD i.toNat 0 := ⟨_, rfl⟩
      have hmb := hlow.at hil
      rw [← hm] at hmb
      have ht := tri_in hmb.1 hmb.2
      have hd := delT_in _ (hlow.take i.toNat)
      have hdl : (xs.take i.toNat).length = i.toNat := by rw [List.length_take]; omega
      rw [hdl, ← hI] at hd
      have e3 : delT (xs.take (i.toNat + 1)) = s + tri m := by rw [delT_take _ _ hil, ← hI, hm]
      rw [← hm, wrap_id (n := m - 1) (by omega) (by omega), wrap_id (n := m * (m - 1)) (by omega) (by omega)]
      rw [show (m * (m - 1)).tdiv 2 = tri m from rfl, wrap_id (n := tri m) (by omega) (by omega), wrap_id (n := s + tri m) (by omega) (by omega), wrap_id (n := i + 1) (by omega) (by omega)]
      refine hag (s + tri m, i + 1) ⟨by simp only; omega, by simp only; omega, ?_⟩ (by simp only; omega)
      simp only [toNat_succ i0]
      exact e3.symm
    · rw [hr, hf0, hI, List.take_of_length_le (by omega)]
  · cases h
theorem stp_snd : ∀ (n a b : Nat), b ≤ n → ∀ p ∈ stp a b, 1 ≤ p.2 ∧ p.2 ≤ b
  | n, a, b, hn, p, hp => by
    by_cases hb : 0 < b
    · rw [stp_pos hb] at hp
      rcases List.mem_cons.1 hp with rfl | hp
      · exact ⟨hb, Nat.le_refl _⟩
      · have h1 := Nat.mod_lt a hb
        cases n with
        | zero => omega
        | succ n =>
          have := stp_snd n b (a % b) (by omega) p hp
          omega
    · rw [show b = 0 by omega, stp_zero] at hp
      simp at hp
theorem runsI_snd {xs : List Int} (h : Br xs) : ∀ s ∈ runsI xs, 1 ≤ s.getD 1 0 ∧ s.getD 1 0 ≤ 64 := by
  intro s hs
  simp only [runsI, runsP, List.mem_flatMap, List.mem_range] at hs
  obtain ⟨i, hi, hs⟩ := hs
  simp only [stI, List.mem_map] at hs
  obtain ⟨p, hp, rfl⟩ := hs
  have h1 := stp_snd _ _ _ (Nat.le_refl _) p hp
  have h2 := h.dhi i (by omega)
  simp
  omega
theorem flatS_take_len (S : List (List Int)) (i : Nat) : (flatS (S.take i)).length ≤ (flatS S).length := by
  conv => rhs; rw [← List.take_append_drop i S]
  rw [flatS, flatS, List.flatMap_append, List.length_append]
  omega
theorem flatS_runsI (xs : List Int) : flatS (runsI xs) = seqI xs := flatS_runs xs _
theorem delT_sq1 (xs : List Int) : delT (sq1 xs) = delT (seqI xs) := by
  rw [sq1]
  split
  · rename_i h
    rw [seqI, h]
    simp [seqP, delT, tri]
  · rfl
theorem seqI_len {xs : List Int} (h : Br xs) : (seqI xs).length ≤ 200000 := by
  have h1 := h.len
  have h2 := h.pos
  have := seqP_len h (xs.length - 1) (by omega)
  rw [seqI]; omega
theorem seqI_low {xs : List Int} (h : Br xs) : Low (seqI xs) := by
  intro m hm
  obtain ⟨i, hi, rfl⟩ := List.mem_iff_getElem.1 hm
  have h1 := seqI_get xs i
  rw [List.getD_eq_getElem?_getD, List.getElem?_eq_getElem hi, Option.getD_some] at h1
  rw [h1]
  have h2 := mul_le h i
  have h3 := (mul_good h).1.pos i
  omega
def f_del (a : List V) : Int := delT (seqI (unI a))
def c_B_i (f : List V → Int) (q : List V → Prop) : Contract := fun
  | [.agg [.slc false 2 (.int .i64 0) a0]] => some ([q a0], .int .i64 (f a0))
  | _ => none
set_option maxRecDepth 100000 in
theorem s_spec_l04Delta : Sat Try.prog 41 (c_B_i f_del IsBr) := by
  intro args ps r h hp
  unfold c_B_i at h
  split at h
  · rename_i a0
    simp only [Option.some.injEq, Prod.mk.injEq] at h
    obtain ⟨rfl, rfl⟩ := h
    have hq : IsBr a0 := (alls_cons.1 hp).1
    obtain ⟨xs, hxs, hb⟩ := id hq
    have g1 : V.frzs a0 = a0 := by rw [hxs, I_frzs]
    have hf0 : f_del a0 = delT (seqI xs) := by rw [f_del, hxs, unI_I]
    obtain ⟨S, hS⟩ : ∃ S, S = runsI xs := ⟨_, rfl⟩
    obtain ⟨vs, hvs⟩ : ∃ vs, vs = II true S := ⟨_, rfl⟩
    have e1 : f_runs a0 = vs := by rw [f_runs, hxs, unI_I, hvs, hS]
    have hsl : S.length ≤ 4096 := by
      have := runsP_len hb (xs.length - 1) (by have := hb.pos; omega)
      have := hb.len
      rw [hS, runsI]; omega
    have vl : vs.length = S.length := by rw [hvs, II_length]
    have gs : ∀ k, vs.getD k (.slc true 2 (.int .i64 0) []) = .slc true 2 (.int .i64 0) (I (S.getD k [])) := fun k => by rw [hvs, II_getD]
    have hS0 : ∀ i, i < S.length → (S.getD i []).length = 2 ∧ 0 ≤ (S.getD i []).getD 0 0 ∧ 1 ≤ (S.getD i []).getD 1 0 ∧ (S.getD i []).getD 1 0 ≤ 64 := fun i hi => by
      have hm := mem_getD hi
      rw [hS] at hm ⊢
      have h1 := runsP_mem _ _ hm
      have h2 := runsI_snd hb _ hm
      exact ⟨h1.1, h1.2.1, h2⟩
    have hlow : ∀ i, Low (flatS (S.take i)) := fun i m hm => by
      refine seqI_low hb m ?_
      rw [← flatS_runsI, ← hS, ← List.take_append_drop i S, flatS, List.flatMap_append]
      exact List.mem_append.2 (.inl hm)
    have hlen : ∀ i, (flatS (S.take i)).length ≤ 200000 := fun i => by
      have h1 := flatS_take_len S i
      have h2 : (flatS S).length ≤ 200000 := by rw [hS, flatS_runsI]; exact seqI_len hb
      omega
    generalize H_f_runs : f_runs = F_f_runs
    generalize H_IsBr : IsBr = F_IsBr
    refine fnOk_ofI (T := tab) (B := [(69, c_B_m' F_f_runs F_IsBr)]) (Bi := []) [0, 1, 2, 3, 4, 5] Try.func41 rfl rfl (by kernel_rfl) (Nat.le_of_ble_eq_true rfl) mixed tabOk (by subst H_f_runs H_IsBr; exact (bookCons s_spec_l04Runs bookNil)) (by subst H_f_runs H_IsBr; exact bookINil) (by kernel_rfl) ?_
    intro L lp rr hL hr hf hlp
    conv => cbv
    have F1 : F_f_runs a0 = vs := by rw [← H_f_runs, e1]
    simp only [stdEqs hL, imp_self, true_and, and_true, bif_or, bif_and, Bool.or_eq_true, Bool.or_eq_false_iff, Bool.and_eq_true, Bool.and_eq_false_iff, decide_eq_true_eq, decide_eq_false_iff_not, Bool.not_eq_true', Bool.not_eq_false', beq_iff_eq, beq_eq_false_iff_ne, ne_eq, toNat0, toNat1, ok_int, toI_int, I_frzs, I_length, I_getD, ok_ints, toL_slc, g1, F1]
    refine ⟨by rw [← H_IsBr]; exact hq, ?_⟩
    refine hlp (Int × Int) _ _ _ [3, 4, 5] (fun x => [(3, none, .val (.slc true 53 (.slc true 2 (.int .i64 0) []) vs)), (4, none, .val (.int .i64 x.1)), (5, none, .val (.int .i64 x.2))])
      (fun x => 0 ≤ x.2 ∧ x.2 ≤ S.length ∧ x.1 = delT (flatS (S.take x.2.toNat))) (fun x => (S.length - x.2).toNat) ((0, 0)) (by subst hL; rfl) ?_ ?_
    · exact ⟨by simp, by simp, rfl⟩
    rintro ⟨s, i⟩ ⟨i0, i1, hI⟩ hfx ag hag
    simp only at i0 i1 hI
    conv => cbv
    simp only [stdEqs hL, imp_self, true_and, and_true, bif_or, bif_and, Bool.or_eq_true, Bool.or_eq_false_iff, Bool.and_eq_true, Bool.and_eq_false_iff, decide_eq_true_eq, decide_eq_false_iff_not, Bool.not_eq_true', Bool.not_eq_false', beq_iff_eq, beq_eq_false_iff_ne, ne_eq, toNat0, toNat1, ok_int, toI_int, I_frzs, I_length, I_getD, ok_ints, toL_slc, vl, gs]
    refine ⟨fun h2 => ?_, fun h2 => ?_⟩
    · have hil : i.toNat < S.length := by omega
      obtain ⟨r, hR⟩ : ∃ r, r = S.getD i.toNat [] := ⟨_, rfl⟩
      have hr0 := hS0 _ hil
      rw [← hR] at hr0 ⊢
      have hfl := flatS_step S i.toNat hil
      rw [← hR] at hfl
      obtain ⟨q, hqq⟩ : ∃ q, q = r.getD 0 0 := ⟨_, rfl⟩
      obtain ⟨m, hm⟩ : ∃ m, m = r.getD 1 0 := ⟨_, rfl⟩
      rw [← hqq, ← hm] at hr0 hfl
      have ht := tri_in hr0.2.2.1 hr0.2.2.2
      have hd := delT_in _ (hlow i.toNat)
      have hl1 := hlen i.toNat
      have hd2 := delT_in _ (hlow (i.toNat + 1))
      have hl2 := hlen (i.toNat + 1)
      rw [hfl, delT_append, delT_rep, ← hI, show ((q.toNat : Nat) : Int) = q by omega] at hd2
      rw [hfl] at hl2
      rw [← hI] at hd
      rw [List.length_append, List.length_replicate] at hl2 hd2
      have hp0 : 0 ≤ q * tri m := Int.mul_nonneg (by omega) (by omega)
      have hrl := hr0.1
      rw [← hqq, ← hm, wrap_id (n := m - 1) (by omega) (by omega), wrap_id (n := m * (m - 1)) (by omega) (by omega), show (m * (m - 1)).tdiv 2 = tri m from rfl,
        wrap_id (n := tri m) (by omega) (by omega), wrap_id (n := q * tri m) (by omega) (by omega), wrap_id (n := s + q * tri m) (by omega) (by omega), wrap_id (n := i + 1) (by omega) (by omega)]
      (repeat' first | (exact solid_one _) | (exact solid1 rfl) | (exact noown_one _) | (apply And.intro) | (intro _)) <;> (try first | exact True.intro | omega | rfl | (simp only [List.length_cons, List.length_nil, I_length]; omega))
      refine hag (s + q * tri m, i + 1) ⟨by simp only; omega, by simp only; omega, ?_⟩ (by simp only; omega)
      simp only [toNat_succ i0]
      rw [hfl, delT_append, delT_rep, ← hI, show ((q.toNat : Nat) : Int) = q by omega]
    · rw [hr, hf0, hI, List.take_of_length_le (by omega), hS, flatS_runsI]
  · cases h
theorem ex_ne {a b : Nat} (ha : 0 < a) (hb : 0 < b) : 1 ≤ (ex a b).length := by
  rw [ex_pos hb, List.length_append, List.length_replicate]
  by_cases h : a / b = 0
  · have hab : a < b := (Nat.div_eq_zero_iff.1 h).resolve_left (by omega)
    rw [Nat.mod_eq_of_lt hab, ex_pos ha, List.length_append, List.length_replicate]
    have : 1 ≤ b / a := Nat.div_pos (by omega) ha
    omega
  · have : 1 ≤ a / b := Nat.one_le_iff_ne_zero.2 h
    omega
theorem seqI_ne {xs : List Int} (h : Br xs) (h1 : xs.length ≠ 1) : 1 ≤ (seqI xs).length := by
  have hp := h.pos
  obtain ⟨n, hn⟩ : ∃ n, xs.length - 1 = n + 1 := ⟨xs.length - 2, by omega⟩
  rw [seqI, hn, seqP_succ, List.length_append]
  have k1 := kkI_in h (i := n) (by omega)
  have k2 := h.dpos n (by omega)
  have := ex_ne (a := (kkI xs n).toNat) (b := ((dv xs).getD n 0).toNat) (by omega) (by omega)
  rw [runI, exI, List.length_map]
  omega
theorem sq1_length {xs : List Int} (h : Br xs) : ((sq1 xs).length : Int) = max ((seqI xs).length : Int) 1 := by
  rw [sq1]
  split
  · rename_i h1
    rw [seqI, h1]
    simp only [seqP, List.range_zero, List.flatMap_nil, Nat.sub_self, List.length_nil, List.length_cons]
    omega
  · rename_i h1
    have := seqI_ne h h1
    omega
def f_cnt (a : List V) : Int := (sq1 (unI a)).length
theorem flatS_len_step {S : List (List Int)} {i : Nat} (hi : i < S.length) (h0 : 0 ≤ (S.getD i []).getD 0 0) : ((flatS (S.take (i + 1))).length : Int) = (flatS (S.take i)).length + (S.getD i []).getD 0 0 := by
  rw [flatS_step S i hi, List.length_append, List.length_replicate]
  omega
set_option maxRecDepth 100000 in
theorem s_spec_l04Count : Sat Try.prog 87 (c_B_i f_cnt IsBr) := by
  intro args ps r h hp
  unfold c_B_i at h
  split at h
  · rename_i a0
    simp only [Option.some.injEq, Prod.mk.injEq] at h
    obtain ⟨rfl, rfl⟩ := h
    have hq : IsBr a0 := (alls_cons.1 hp).1
    obtain ⟨xs, hxs, hb⟩ := id hq
    have g1 : V.frzs a0 = a0 := by rw [hxs, I_frzs]
    have hf0 : f_cnt a0 = (sq1 xs).length := by rw [f_cnt, hxs, unI_I]
    obtain ⟨S, hS⟩ : ∃ S, S = runsI xs := ⟨_, rfl⟩
    obtain ⟨vs, hvs⟩ : ∃ vs, vs = II true S := ⟨_, rfl⟩
    have e1 : f_runs a0 = vs := by rw [f_runs, hxs, unI_I, hvs, hS]
    have hsl : S.length ≤ 4096 := by
      have := runsP_len hb (xs.length - 1) (by have := hb.pos; omega)
      have := hb.len
      rw [hS, runsI]; omega
    have vl : vs.length = S.length := by rw [hvs, II_length]
    have gs : ∀ k, vs.getD k (.slc true 2 (.int .i64 0) []) = .slc true 2 (.int .i64 0) (I (S.getD k [])) := fun k => by rw [hvs, II_getD]
    have hS0 : ∀ i, i < S.length → (S.getD i []).length = 2 ∧ 0 ≤ (S.getD i []).getD 0 0 := fun i hi => by
      have hm := mem_getD hi
      rw [hS] at hm ⊢
      have h1 := runsP_mem _ _ hm
      exact ⟨h1.1, h1.2.1⟩
    have hlen : ∀ i, (flatS (S.take i)).length ≤ 200000 := fun i => by
      have h1 := flatS_take_len S i
      have h2 : (flatS S).length ≤ 200000 := by rw [hS, flatS_runsI]; exact seqI_len hb
      omega
    generalize H_f_runs : f_runs = F_f_runs
    generalize H_IsBr : IsBr = F_IsBr
    refine fnOk_ofI (T := tab) (B := [(69, c_B_m' F_f_runs F_IsBr)]) (Bi := []) [0, 1, 2, 3, 4, 5] Try.func87 rfl rfl (by kernel_rfl) (Nat.le_of_ble_eq_true rfl) mixed tabOk (by subst H_f_runs H_IsBr; exact (bookCons s_spec_l04Runs bookNil)) (by subst H_f_runs H_IsBr; exact bookINil) (by kernel_rfl) ?_
    intro L lp rr hL hr hf hlp
    conv => cbv
    have F1 : F_f_runs a0 = vs := by rw [← H_f_runs, e1]
    simp only [stdEqs hL, imp_self, true_and, and_true, bif_or, bif_and, Bool.or_eq_true, Bool.or_eq_false_iff, Bool.and_eq_true, Bool.and_eq_false_iff, decide_eq_true_eq, decide_eq_false_iff_not, Bool.not_eq_true', Bool.not_eq_false', beq_iff_eq, beq_eq_false_iff_ne, ne_eq, toNat0, toNat1, ok_int, toI_int, I_frzs, I_length, I_getD, ok_ints, toL_slc, g1, F1]
    refine ⟨by rw [← H_IsBr]; exact hq, ?_⟩
    refine hlp (Int × Int) _ _ _ [3, 4, 5] (fun x => [(3, none, .val (.slc true 53 (.slc true 2 (.int .i64 0) []) vs)), (4, none, .val (.int .i64 x.1)), (5, none, .val (.int .i64 x.2))])
      (fun x => 0 ≤ x.2 ∧ x.2 ≤ S.length ∧ x.1 = (flatS (S.take x.2.toNat)).length) (fun x => (S.length - x.2).toNat) ((0, 0)) (by subst hL; rfl) ?_ ?_
    · exact ⟨by simp, by simp, rfl⟩
    rintro ⟨s, i⟩ ⟨i0, i1, hI⟩ hfx ag hag
    simp only at i0 i1 hI
    conv => cbv
    simp only [stdEqs hL, imp_self, true_and, and_true, bif_or, bif_and, Bool.or_eq_true, Bool.or_eq_false_iff, Bool.and_eq_true, Bool.and_eq_false_iff, decide_eq_true_eq, decide_eq_false_iff_not, Bool.not_eq_true', Bool.not_eq_false', beq_iff_eq, beq_eq_false_iff_ne, ne_eq, toNat0, toNat1, ok_int, toI_int, I_frzs, I_length, I_getD, ok_ints, toL_slc, vl, gs]
    refine ⟨fun h2 => ?_, fun h2 => ?_⟩
    · have hil : i.toNat < S.length := by omega
      have hst := flatS_len_step hil (hS0 _ hil).2
      obtain ⟨r, hR⟩ : ∃ r, r = S.getD i.toNat [] := ⟨_, rfl⟩
      have hr0 := hS0 _ hil
      rw [← hR] at hr0 hst ⊢
      have hl1 := hlen i.toNat
      have hl2 := hlen (i.toNat + 1)
      have hrl := hr0.1
      rw [wrap_id (n := s + r.getD 0 0) (by omega) (by omega), wrap_id (n := i + 1) (by omega) (by omega)]
      (repeat' first | (exact solid_one _) | (exact solid1 rfl) | (exact noown_one _) | (apply And.intro) | (intro _)) <;> (try first | exact True.intro | omega | rfl | (simp only [List.length_cons, List.length_nil, I_length]; omega))
      refine hag (s + r.getD 0 0, i + 1) ⟨by simp only; omega, by simp only; omega, ?_⟩ (by simp only; omega)
      simp only [toNat_succ i0]
      omega
    · rw [hr, hf0, hI, List.take_of_length_le (by omega), hS, flatS_runsI, sq1_length hb]
  · cases h
end Go.Ax
