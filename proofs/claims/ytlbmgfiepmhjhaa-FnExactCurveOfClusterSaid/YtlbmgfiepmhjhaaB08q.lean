import Derived.Test.YtlbmgfiepmhjhaaB07q
/-
  Sequences of multiplicities of branches: steps, runs, first multiplicities. No conditions but those of the contracts.
-/
set_option linter.all false
namespace Go.Ax
open Go.Proofs

def stI (a b : Int) : List (List Int) := (stp a.toNat b.toNat).map fun p => [(p.1 : Int), (p.2 : Int)]
theorem stp_len : ∀ (n a b : Nat), b ≤ n → (stp a b).length ≤ b
  | 0, a, b, h => by obtain rfl : b = 0 := by omega
                     rw [stp_zero]; simp
  | n + 1, a, b, h => by
    by_cases hb : 0 < b
    · rw [stp_pos hb, List.length_cons]
      have h1 : a % b < b := Nat.mod_lt _ hb
      have := stp_len n b (a % b) (by omega)
      omega
    · obtain rfl : b = 0 := by omega
      rw [stp_zero]; simp
theorem stI_pos {a b : Int} (ha : 0 ≤ a) (hb : 0 < b) : stI a b = [a.tdiv b, b] :: stI b (a.tmod b) := by
  obtain ⟨a, rfl⟩ := Int.eq_ofNat_of_zero_le ha
  obtain ⟨b, rfl⟩ := Int.eq_ofNat_of_zero_le (Int.le_of_lt hb)
  rw [stI, Int.toNat_natCast, Int.toNat_natCast, stp_pos (by omega), List.map_cons, stI, ← Int.ofNat_tdiv, ← Int.ofNat_tmod, Int.toNat_natCast, Int.toNat_natCast]
theorem stI_zero (a : Int) {b : Int} (hb : ¬ 0 < b) : stI a b = [] := by
  rw [stI, show b.toNat = 0 by omega, stp_zero]; rfl
def c_ii_m (f : Int → Int → List V) (q : Int → Int → Prop) : Contract := fun
  | [.int .i64 a0, .int .i64 a1] => some ([q a0 a1], .slc true 22 (.slc true 2 (.int .i64 0) []) (f a0 a1))
  | _ => none
def f_stI (a b : Int) : List V := II true (stI a b)
def q_stI (a b : Int) : Prop := 0 ≤ a ∧ a ≤ 1000000 ∧ 0 ≤ b ∧ b ≤ 1000000
set_option maxHeartbeats 1000000 in
set_option maxRecDepth 100000 in
theorem s_impl_steps : Sat Try.prog 149 (c_ii_m f_stI q_stI) := by
  intro args ps r h hp
  unfold c_ii_m at h
  split at h
  · rename_i a0 a1
    simp only [Option.some.injEq, Prod.mk.injEq] at h
    obtain ⟨rfl, rfl⟩ := h
    obtain ⟨q1, q2, q3, q4⟩ : q_stI a0 a1 := (alls_cons.1 hp).1
    refine fnOk_ofI (T := tab) (B := []) (Bi := []) [0, 1, 4, 5] Try.func149 rfl rfl (by kernel_rfl) (Nat.le_of_ble_eq_true rfl) mixed tabOk (by exact bookNil) (by exact bookINil) (by kernel_rfl) ?_
    intro L lp rr hL hr hf hlp
    conv => cbv
    refine hlp (Int × Int × List V) _ _ _ [0, 1, 5] (fun x => [(0, none, .val (.int .i64 x.1)), (1, none, .val (.int .i64 x.2.1)), (5, none, .val (.slc true 22 (.slc true 2 (.int .i64 0) []) x.2.2))])
      (fun x => 0 ≤ x.1 ∧ x.1 ≤ 1000000 ∧ 0 ≤ x.2.1 ∧ x.2.1 ≤ 1000000 ∧ ∃ L, x.2.2 = II true L ∧ L ++ stI x.1 x.2.1 = stI a0 a1) (fun x => x.2.1.toNat) ((a0, a1, [])) (by subst hL; rfl) ?_ ?_
    · exact ⟨q1, q2, q3, q4, [], rfl, rfl⟩
    rintro ⟨a, b, es⟩ ⟨p1, p2, p3, p4, L, hes, hI⟩ hfx ag hag
    simp only at p1 p2 p3 p4 hes hI
    have hel : es.length ≤ 1000000 := by
      have h1 := congrArg List.length hI
      have h2 := stp_len a1.toNat a0.toNat a1.toNat (Nat.le_refl _)
      rw [List.length_append, stI, stI, List.length_map, List.length_map] at h1
      rw [hes, II_length]
      omega
    conv => cbv
    simp only [stdEqs hL, imp_self, true_and, and_true, bif_or, bif_and, Bool.or_eq_true, Bool.or_eq_false_iff, Bool.and_eq_true, Bool.and_eq_false_iff, decide_eq_true_eq, decide_eq_false_iff_not, Bool.not_eq_true', Bool.not_eq_false', beq_iff_eq, beq_eq_false_iff_ne, ne_eq, toNat0, toNat1, ok_int, toI_int, I_frzs, I_length, I_getD, ok_ints, toL_slc, hel]
    refine ⟨fun h => ?_, fun h => ?_⟩
    · have h1 : 0 ≤ a.tdiv b ∧ a.tdiv b ≤ a := ⟨Int.tdiv_nonneg p1 p3, Int.tdiv_le_self b p1⟩
      have h2 : 0 ≤ a.tmod b ∧ a.tmod b < b := ⟨Int.tmod_nonneg b p1, Int.tmod_lt_of_pos a h⟩
      have hw : IntKind.wrap .i64 (a.tdiv b) = a.tdiv b := wrap_id (by omega) (by omega)
      (repeat' first | (exact solid_one _) | (exact solid1 rfl) | (exact noown_one _) | (apply And.intro) | (intro _)) <;> (try first | exact True.intro | omega | rfl | (simp only [List.length_cons, List.length_nil, I_length]; omega))
      refine hag (b, a.tmod b, _) ⟨by simp only; omega, by simp only; omega, by simp only; omega, by simp only; omega, L ++ [[a.tdiv b, b]], ?_, ?_⟩ (by simp only; omega)
      · simp only
        rw [II_append, hes, hw]
        rfl
      · simp only
        rw [List.append_assoc, ← hI, stI_pos p1 h]
        rfl
    · rw [hr, f_stI, ← hI, stI_zero a h, List.append_nil, hes]
  · cases h
def flatS (S : List (List Int)) : List Int := S.flatMap fun s => List.replicate (s.getD 0 0).toNat (s.getD 1 0)
theorem flatS_step (S : List (List Int)) (k : Nat) (h : k < S.length) : flatS (S.take (k + 1)) = flatS (S.take k) ++ List.replicate ((S.getD k []).getD 0 0).toNat ((S.getD k []).getD 1 0) := by
  rw [take_succ_tot _ _ h, flatS, flatS, List.flatMap_append, List.flatMap_cons, List.flatMap_nil, List.append_nil]
def exI (a b : Int) : List Int := (ex a.toNat b.toNat).map fun (n : Nat) => (n : Int)
theorem flatS_stI (a b : Int) : flatS (stI a b) = exI a b := by
  rw [flatS, stI, exI, ex, List.flatMap_map, List.map_flatMap]
  congr 1
  funext p
  simp
theorem ex_len : ∀ (n a b : Nat), b ≤ n → (ex a b).length ≤ a + b
  | 0, a, b, h => by obtain rfl : b = 0 := by omega
                     rw [ex_zero]; simp
  | n + 1, a, b, h => by
    by_cases hb : 0 < b
    · rw [ex_pos hb, List.length_append, List.length_replicate]
      have h1 : a % b < b := Nat.mod_lt _ hb
      have h2 := ex_len n b (a % b) (by omega)
      have h3 := Nat.div_add_mod a b
      have h4 : a / b ≤ b * (a / b) := Nat.le_mul_of_pos_left _ hb
      omega
    · obtain rfl : b = 0 := by omega
      rw [ex_zero]; simp
theorem stI_mem {a b : Int} {s : List Int} (h : s ∈ stI a b) : s.length = 2 ∧ 0 ≤ s.getD 0 0 ∧ 0 ≤ s.getD 1 0 := by
  simp only [stI, List.mem_map] at h
  obtain ⟨p, _, rfl⟩ := h
  exact ⟨rfl, Int.natCast_nonneg _, Int.natCast_nonneg _⟩
def c_runOf (f : List V → Int → Int → List V) (q : List V → Int → Int → Prop) : IContract := fun
  | [.slc true 2 (.int .i64 0) a0, .int .i64 a1, .int .i64 a2] => some ([q a0 a1 a2], .slc true 2 (.int .i64 0) (f a0 a1 a2), .hole 0)
  | _ => none
def f_runOf (es : List V) (k e : Int) : List V := es ++ I (exI k e)
def q_runOf (es : List V) (k e : Int) : Prop := es.length ≤ 100000000 ∧ q_stI k e
set_option maxHeartbeats 1000000 in
set_option maxRecDepth 100000 in
theorem s_impl_runOf : SatM Try.prog 136 0 (c_runOf f_runOf q_runOf) := by
  intro args ps r y h hp
  unfold c_runOf at h
  split at h
  · rename_i a0 a1 a2
    simp only [Option.some.injEq, Prod.mk.injEq] at h
    obtain ⟨rfl, rfl, rfl⟩ := h
    obtain ⟨q0, hq⟩ : q_runOf a0 a1 a2 := (alls_cons.1 hp).1
    obtain ⟨q1, q2, q3, q4⟩ := hq
    generalize H_f_stI : f_stI = F_f_stI
    generalize H_q_stI : q_stI = F_q_stI
    refine fnMv_of (T := tab) (B := [(149, c_ii_m F_f_stI F_q_stI)]) (Bi := []) 0 [0, 1, 2, 6, 8, 9, 12, 13, 14] Try.func136 rfl rfl (by kernel_rfl) (Nat.le_of_ble_eq_true rfl) mixed tabOk (by subst H_f_stI H_q_stI; exact (bookCons s_impl_steps bookNil)) (by subst H_f_stI H_q_stI; exact bookINil) (by kernel_rfl) (Nat.le_of_ble_eq_true rfl) ?_
    intro L lp rr hL hr hf hlp
    conv => cbv
    obtain ⟨S, hS⟩ : ∃ S, S = stI a1 a2 := ⟨_, rfl⟩
    obtain ⟨ss, hss⟩ : ∃ ss, ss = II true S := ⟨_, rfl⟩
    have hF : F_f_stI a1 a2 = ss := by rw [← H_f_stI, f_stI, hss, hS]
    have hsl : ss.length = S.length := by rw [hss, II_length]
    have hSl : S.length ≤ 1000000 := by
      have := stp_len a2.toNat a1.toNat a2.toNat (Nat.le_refl _)
      rw [hS, stI, List.length_map]; omega
    have gss : ∀ k, ss.getD k (.slc true 2 (.int .i64 0) []) = .slc true 2 (.int .i64 0) (I (S.getD k [])) := fun k => by rw [hss, II_getD]
    have hfl : (exI a1 a2).length ≤ 2000000 := by
      have := ex_len a2.toNat a1.toNat a2.toNat (Nat.le_refl _)
      rw [exI, List.length_map]; omega
    have hpre : ∀ k, (flatS (S.take k)).length ≤ 2000000 := fun k => by
      have h1 : flatS S = flatS (S.take k) ++ flatS (S.drop k) := by
        rw [flatS, flatS, flatS, ← List.flatMap_append, List.take_append_drop]
      have h2 := congrArg List.length h1
      rw [hS, flatS_stI, List.length_append, ← hS] at h2
      omega
    simp only [stdEqs hL, imp_self, true_and, and_true, bif_or, bif_and, Bool.or_eq_true, Bool.or_eq_false_iff, Bool.and_eq_true, Bool.and_eq_false_iff, decide_eq_true_eq, decide_eq_false_iff_not, Bool.not_eq_true', Bool.not_eq_false', beq_iff_eq, beq_eq_false_iff_ne, ne_eq, toNat0, toNat1, ok_int, toI_int, I_frzs, I_length, I_getD, ok_ints, toL_slc, hF, hsl]
    refine ⟨by rw [← H_q_stI]; exact ⟨q1, q2, q3, q4⟩, ?_⟩
    refine hlp (List V × Int) _ _ _ [0, 12, 13, 14] (fun x => [(0, none, .val (.slc true 2 (.int .i64 0) x.1)), (12, none, .val (.slc true 22 (.slc true 2 (.int .i64 0) []) ss)), (13, none, .val (.int .i64 S.length)), (14, none, .val (.int .i64 x.2))])
      (fun x => 0 ≤ x.2 ∧ x.2 ≤ S.length ∧ x.1 = a0 ++ I (flatS (S.take x.2.toNat))) (fun x => (S.length - x.2).toNat) ((a0, 0)) (by subst hL; rfl) ?_ ?_
    · exact ⟨by simp, by simp only; omega, by simp [flatS, I]⟩
    rintro ⟨es, i⟩ ⟨i0, i1, hI⟩ hfx ag hag
    simp only at i0 i1 hI
    have hst := flatS_step S i.toNat
    have hmem := fun h => stI_mem (a := a1) (b := a2) (s := S.getD i.toNat []) (by rw [← hS]; exact mem_getD h)
    have hp1 := hpre (i.toNat + 1)
    generalize hE : S.getD i.toNat [] = E at hst hmem
    obtain ⟨m, hm⟩ : ∃ m : Int, m = S.length := ⟨_, rfl⟩
    simp only [← hm]
    conv => cbv
    simp only [stdEqs hL, imp_self, true_and, and_true, bif_or, bif_and, Bool.or_eq_true, Bool.or_eq_false_iff, Bool.and_eq_true, Bool.and_eq_false_iff, decide_eq_true_eq, decide_eq_false_iff_not, Bool.not_eq_true', Bool.not_eq_false', beq_iff_eq, beq_eq_false_iff_ne, ne_eq, toNat0, toNat1, ok_int, toI_int, I_frzs, I_length, I_getD, ok_ints, toL_slc, hsl, gss, hE]
    refine ⟨fun h => ?_, fun h => ?_⟩
    · obtain ⟨hEl, hE0, hE1⟩ := hmem (by omega)
      have hst' := hst (by omega)
      have hip : i.toNat < S.length := by omega
      refine ⟨i0, by omega, by omega, ?_⟩
      refine hlp (List V × Int) _ _ _ [0, 8, 9, 12, 13, 14] (fun x => [(0, none, .val (.slc true 2 (.int .i64 0) x.1)), (8, none, .rf 12 0 [i.toNat]), (9, none, .val (.int .i64 x.2)), (12, none, .val (.slc true 22 (.slc true 2 (.int .i64 0) []) ss)), (13, none, .val (.int .i64 m)), (14, none, .val (.int .i64 i))])
        (fun x => 0 ≤ x.2 ∧ x.2 ≤ E.getD 0 0 ∧ x.1 = es ++ I (List.replicate x.2.toNat (E.getD 1 0))) (fun x => (E.getD 0 0 - x.2).toNat) (es, 0) (by subst hL; rfl) ?_ ?_
      · exact ⟨by simp, hE0, by simp [I]⟩
      rintro ⟨es2, j⟩ ⟨j0, j1, hI2⟩ hfx2 ag2 hag2
      simp only at j0 j1 hI2
      obtain ⟨it, hit⟩ : ∃ it, it = i.toNat := ⟨_, rfl⟩
      simp only [← hit] at hE ⊢
      conv => cbv
      simp only [stdEqs hL, imp_self, true_and, and_true, bif_or, bif_and, Bool.or_eq_true, Bool.or_eq_false_iff, Bool.and_eq_true, Bool.and_eq_false_iff, decide_eq_true_eq, decide_eq_false_iff_not, Bool.not_eq_true', Bool.not_eq_false', beq_iff_eq, beq_eq_false_iff_ne, ne_eq, toNat0, toNat1, ok_int, toI_int, I_frzs, I_length, I_getD, ok_ints, toL_slc, hsl, gss, hE]
      have hl2 : es2.length ≤ 102000000 := by
        rw [hst', List.length_append, List.length_replicate] at hp1
        rw [hI2, hI, List.length_append, I_length, List.length_append, I_length, List.length_replicate]
        omega
      have hEb : E.getD 0 0 ≤ 2000000 := by
        rw [hst', List.length_append, List.length_replicate] at hp1
        omega
      have hti : it < S.length := by omega
      subst hit
      refine ⟨hti, by omega, by omega, hti, by omega, fun hj => ?_, fun hj => ?_⟩
      · rw [wrap_id (n := j + 1) (by omega) (by omega)]
        (repeat' first | (exact solid_one _) | (exact solid1 rfl) | (exact noown_one _) | (apply And.intro) | (intro _)) <;> (try first | exact True.intro | omega | rfl | (simp only [List.length_cons, List.length_nil, I_length]; omega))
        refine hag2 (_, j + 1) ⟨by simp only; omega, by simp only; omega, ?_⟩ (by simp only; omega)
        simp only [toNat_succ j0]
        rw [List.replicate_succ', hI2, List.append_assoc, ← I_append]
        rfl
      · rw [wrap_id (n := i + 1) (by omega) (by omega)]
        subst hm
        refine hag (_, i + 1) ⟨by simp only; omega, by simp only; omega, ?_⟩ (by simp only; omega)
        simp only [toNat_succ i0]
        rw [hst', hI2, hI, List.append_assoc, I_append, show j = E.getD 0 0 by omega]
    · rw [hr, f_runOf, hI, List.take_of_length_le (by omega), hS, flatS_stI]
  · cases h

def kkI (xs : List Int) (i : Nat) : Int := xs.getD (i + 1) 0 - (if i = 0 then 0 else xs.getD i 0)
def runI (xs : List Int) (i : Nat) : List Int := exI (kkI xs i) ((dv xs).getD i 0)
def seqP (xs : List Int) (n : Nat) : List Int := (List.range n).flatMap (runI xs)
def seqI (xs : List Int) : List Int := seqP xs (xs.length - 1)
def sq1 (xs : List Int) : List Int := if xs.length = 1 then [1] else seqI xs
theorem getD_ones (l : List Int) (n i : Nat) : (l ++ List.replicate n 1).getD i 1 = l.getD i 1 := by
  simp only [List.getD_eq_getElem?_getD]
  by_cases h : i < l.length
  · rw [List.getElem?_append_left h]
  · rw [List.getElem?_append_right (by omega), List.getElem?_eq_none (l := l) (by omega), List.getElem?_replicate]
    split <;> rfl
end Go.Ax
/-
  Strict transforms of branches, in plain Lean. No conditions but those of the theorems.
-/
set_option linter.all false
namespace Go.Ax
open Go.Proofs

def Val : Nat → Nat → List Nat → Prop
  | _, e, [] => e = 1
  | p, e, t :: l => p < t ∧ t ≤ 2000 ∧ Nat.gcd e t ≠ e ∧ Val t (Nat.gcd e t) l
def chN : Nat → Nat → List Nat → List Nat
  | _, _, [] => []
  | p, e, t :: l => ex (t - p) e ++ chN t (Nat.gcd e t) l
theorem Val.weak {p p' e : Nat} {l : List Nat} (h : Val p e l) (hp : p' ≤ p) : Val p' e l := by
  cases l with
  | nil => exact h
  | cons t l => exact ⟨by have := h.1; omega, h.2⟩
theorem gcd_shift {e t s : Nat} (he : e ∣ s) (hs : s ≤ t) : Nat.gcd e (t - s) = Nat.gcd e t := by
  obtain ⟨k, rfl⟩ := he
  have h : t = (t - e * k) + k * e := by rw [Nat.mul_comm k e]; omega
  conv => rhs; rw [h]
  rw [Nat.gcd_add_mul_right_right]
def strN (n : Nat) : List Nat → List Nat
  | [] => [1]
  | t :: l => if 2 * n ≤ t then n :: (t - n) :: l.map (· - n) else if n % (t - n) = 0 then (t - n) :: l.map (· - (t - n)) else (t - n) :: n :: l.map (· - (t - n))
structure BrN (n : Nat) (l : List Nat) : Prop where
  lo : 1 ≤ n
  hi : n ≤ 64
  val : Val n n l
theorem ex_form {k e : Nat} (he : 0 < e) (hd : ¬ e ∣ k) : ∃ x, ex k e = List.replicate (k / e) e ++ (k % e) :: x ∧ 0 < k % e ∧ k % e < e := by
  have h1 : 0 < k % e := Nat.pos_of_ne_zero fun h => hd (Nat.dvd_of_mod_eq_zero h)
  have h2 : k % e < e := Nat.mod_lt _ he
  have h3 : 0 < e / (k % e) := Nat.div_pos (by omega) h1
  refine ⟨List.replicate (e / (k % e) - 1) (k % e) ++ ex (k % e) (e % (k % e)), ?_, h1, h2⟩
  rw [ex_pos he, ex_pos h1]
  conv => lhs; rw [show e / (k % e) = (e / (k % e) - 1) + 1 by omega]
  rw [List.replicate_succ, List.cons_append]
theorem not_dvd_of {p e t : Nat} (hp : e ∣ p) (h : p < t) (hg : Nat.gcd e t ≠ e) : ¬ e ∣ (t - p) := fun h2 => by
  refine hg (Nat.gcd_eq_left ?_)
  have := Nat.dvd_add h2 hp
  rwa [show t - p + p = t by omega] at this
def leadN (e : Nat) : List Nat → Nat
  | [] => 0
  | x :: l => if x = e then leadN e l + 1 else 0
theorem lead_rep {e r : Nat} (h : r ≠ e) (x : List Nat) : ∀ q, leadN e (List.replicate q e ++ r :: x) = q
  | 0 => by simp [leadN, h]
  | q + 1 => by rw [List.replicate_succ, List.cons_append, leadN, if_pos rfl, lead_rep h x q]
def parN : Nat → Nat → Nat → List Nat → List Nat
  | 0, _, _, _ => []
  | k + 1, p, e, L => if e ≤ 1 then [] else
      (p + (leadN e L * e + L.getD (leadN e L) 0)) :: parN k (p + (leadN e L * e + L.getD (leadN e L) 0)) (Nat.gcd e (p + (leadN e L * e + L.getD (leadN e L) 0))) (L.drop (ex (leadN e L * e + L.getD (leadN e L) 0) e).length)
theorem par_eq : ∀ (l : List Nat) (p e : Nat), 0 < e → e ∣ p → Val p e l → ∀ (m k : Nat), l.length < k → parN k p e (chN p e l ++ List.replicate m 1) = l
  | [], p, e, _, _, h, m, 0, hk => by simp at hk
  | [], p, e, _, _, h, m, k + 1, _ => by
    have h1 : e = 1 := h
    rw [parN, if_pos (by omega)]
  | t :: l, p, e, he, hp, h, m, 0, hk => by simp at hk
  | t :: l, p, e, he, hp, h, m, k + 1, hk => by
    obtain ⟨h1, h2, h3, h4⟩ := h
    have he2 : ¬ e ≤ 1 := fun h5 => h3 (by
      have : e = 1 := by omega
      subst this
      exact Nat.gcd_one_left t)
    obtain ⟨x, hx, hr0, hr1⟩ := ex_form he (not_dvd_of hp h1 h3)
    obtain ⟨X, hX⟩ : ∃ X, X = chN t (Nat.gcd e t) l ++ List.replicate m 1 := ⟨_, rfl⟩
    have hL : chN p e (t :: l) ++ List.replicate m 1 = ex (t - p) e ++ X := by rw [chN, List.append_assoc, hX]
    have hL2 : ex (t - p) e ++ X = List.replicate ((t - p) / e) e ++ ((t - p) % e) :: (x ++ X) := by rw [hx]; simp
    have hq : leadN e (ex (t - p) e ++ X) = (t - p) / e := by rw [hL2, lead_rep (by omega)]
    have hg : (ex (t - p) e ++ X).getD ((t - p) / e) 0 = (t - p) % e := by
      rw [hL2, List.getD_eq_getElem?_getD, List.getElem?_append_right (by rw [List.length_replicate]; exact Nat.le_refl _), List.length_replicate, Nat.sub_self]
      rfl
    have hk2 : (t - p) / e * e + (t - p) % e = t - p := by rw [Nat.mul_comm]; exact Nat.div_add_mod _ _
    rw [hL, parN, if_neg he2, hq, hg, hk2, show p + (t - p) = t by omega, List.drop_left, hX,
      par_eq l t (Nat.gcd e t) (Nat.gcd_pos_of_pos_left t he) (Nat.gcd_dvd_right e t) h4 m k (by simpa using hk)]
def natL (l : List Nat) : List Int := l.map fun x : Nat => (x : Int)
def intL (l : List Int) : List Nat := l.map Int.toNat
theorem int_nat (l : List Nat) : intL (natL l) = l := by
  rw [intL, natL, List.map_map]
  conv => rhs; rw [← List.map_id l]
  rfl
theorem natL_len (l : List Nat) : (natL l).length = l.length := by simp [natL]
theorem natL_append (a b : List Nat) : natL (a ++ b) = natL a ++ natL b := by simp [natL]
theorem natL_getD (l : List Nat) (i d : Nat) : (natL l).getD i (d : Int) = ((l.getD i d : Nat) : Int) := by
  simp only [natL, List.getD_eq_getElem?_getD, List.getElem?_map]
  cases l[i]? <;> rfl
def SeqB (n : Nat) (l : List Nat) (L : List Int) : Prop := BrN n l ∧ L ≠ [] ∧ ∃ m, L = natL (chN 0 n l ++ List.replicate m 1)
def bosI (L : List Int) : List Int := natL ((intL L).getD 0 0 :: parN 3000 0 ((intL L).getD 0 0) (intL L))
theorem val_len : ∀ (l : List Nat) (p e : Nat), Val p e l → p ≤ 2000 → l.length + p ≤ 2000
  | [], p, e, _, hp => by simpa using hp
  | t :: l, p, e, h, _ => by
    have := val_len l t _ h.2.2.2 h.2.1
    have := h.1
    simp only [List.length_cons]
    omega
theorem bosI_eq {n : Nat} {l : List Nat} {L : List Int} (h : SeqB n l L) : bosI L = natL (n :: l) := by
  obtain ⟨hb, hne, m, rfl⟩ := h
  have hlo := hb.lo
  have hhi := hb.hi
  have h0 : (chN 0 n l ++ List.replicate m 1).getD 0 0 = n := by
    cases l with
    | nil =>
      have h1 : n = 1 := hb.val
      subst h1
      cases m with
      | zero => simp [chN, natL] at hne
      | succ m => rfl
    | cons t l =>
      have h1 := hb.val.1
      have h2 : 0 < t / n := Nat.div_pos (by omega) (by omega)
      rw [chN, ex_pos (by omega), Nat.sub_zero, show t / n = (t / n - 1) + 1 by omega, List.replicate_succ]
      rfl
  rw [bosI, int_nat, h0, par_eq l 0 n (by omega) ⟨0, rfl⟩ (hb.val.weak (by omega)) m 3000 (by have := val_len l n n hb.val (by omega); omega)]
end Go.Ax
