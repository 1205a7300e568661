/-
  Branches as lists of natural numbers; their sequences; strict transforms. No conditions but those of the theorems.
-/
import Derived.Test.YtpbkkbjgmlfloaaJap
set_option linter.all false
namespace Go.Ax
open Go.Proofs

theorem gcdW_natJ {a b : Nat} (ha : 0 < a) (hb : 0 < b) : gcdW (a : Int) (b : Int) = ((Nat.gcd a b : Nat) : Int) := by
  rw [gcdW, absW_pos (by omega), absW_pos (by omega), gcdGo_eq _ _ _ (Nat.le_refl _) (by omega) (by omega), Int.toNat_natCast, Int.toNat_natCast]
theorem brGo_val : ∀ (l : List Nat) (p e : Nat), 1 ≤ p → p ≤ 2000 → 1 ≤ e → (brGo (p : Int) (e : Int) (natL l) = true ↔ Val p e l)
  | [], p, e, _, _, _ => by
    simp only [natL, List.map_nil, brGo, Val, beq_iff_eq]
    omega
  | t :: l, p, e, hp, hp2, he => by
    have hw : IntKind.wrap .i64 ((p : Int) + 1) = (p : Int) + 1 := wrap_id (by omega) (by omega)
    simp only [natL, List.map_cons, brGo, Val, hw]
    by_cases h : p < t ∧ t ≤ 2000
    · have hi : inRange (t : Int) ((p : Int) + 1) 2000 = true := by
        simp only [inRange, Bool.and_eq_true, decide_eq_true_eq]
        omega
      rw [hi, gcdW_natJ (by omega) (by omega)]
      have ih := brGo_val l t (Nat.gcd e t) (by omega) h.2 (Nat.gcd_pos_of_pos_left t (by omega))
      rw [natL] at ih
      by_cases hg : Nat.gcd e t = e
      · have hb : (((Nat.gcd e t : Nat) : Int) == (e : Int)) = true := by rw [hg]; simp
        rw [hb]
        simp [hg]
      · have hb : (((Nat.gcd e t : Nat) : Int) == (e : Int)) = false := by
          rw [beq_eq_false_iff_ne]
          omega
        rw [hb]
        simp only [Bool.not_true, cond_false, ih]
        exact ⟨fun h2 => ⟨h.1, h.2, hg, h2⟩, fun h2 => h2.2.2.2⟩
    · have hi : inRange (t : Int) ((p : Int) + 1) 2000 = false := by
        rw [← Bool.not_eq_true]
        simp only [inRange, Bool.and_eq_true, decide_eq_true_eq]
        omega
      rw [hi]
      simp only [Bool.not_false, cond_true, Bool.false_eq_true, false_iff]
      exact fun h2 => h ⟨h2.1, h2.2.1⟩
theorem isBr_nat {n : Nat} {l : List Nat} : isBr (natL (n :: l)) = true ↔ BrN n l := by
  have h0 : (((natL (n :: l)).length : Int) == 0) = false := by
    rw [beq_eq_false_iff_ne, natL_len]
    simp only [List.length_cons]
    omega
  have h1 : (natL (n :: l)).getD 0 0 = (n : Int) := rfl
  have h2 : (natL (n :: l)).drop 1 = natL l := rfl
  rw [← isBrS_eq, isBrS, h0, h1, h2]
  by_cases h : 1 ≤ n ∧ n ≤ 64
  · have hi : inRange (n : Int) 1 64 = true := by
      simp only [inRange, Bool.and_eq_true, decide_eq_true_eq]
      omega
    rw [hi]
    simp only [cond_false, Bool.not_true]
    rw [brGo_val l n n h.1 (by omega) h.1]
    exact ⟨fun h3 => ⟨h.1, h.2, h3⟩, fun h3 => h3.val⟩
  · have hi : inRange (n : Int) 1 64 = false := by
      rw [← Bool.not_eq_true]
      simp only [inRange, Bool.and_eq_true, decide_eq_true_eq]
      omega
    rw [hi]
    simp only [cond_false, Bool.not_false, cond_true, Bool.false_eq_true, false_iff]
    exact fun h3 => h ⟨h3.lo, h3.hi⟩
theorem nat_br {n : Nat} {l : List Nat} (h : BrN n l) : Br (natL (n :: l)) := br_of (isBr_nat.2 h)
theorem nat_int {xs : List Int} (h : ∀ x ∈ xs, 0 ≤ x) : natL (intL xs) = xs := by
  rw [natL, intL, List.map_map]
  conv => rhs; rw [← List.map_id xs]
  refine List.map_congr_left fun x hx => ?_
  have := h x hx
  simp only [Function.comp, id]
  omega
theorem br_nat {xs : List Int} (h : Br xs) : ∃ n l, xs = natL (n :: l) ∧ BrN n l := by
  have h1 : natL (intL xs) = xs := nat_int fun x hx => by
    obtain ⟨i, hi, rfl⟩ := List.mem_iff_getElem.1 hx
    have := h.low i hi
    rw [List.getD_eq_getElem?_getD, List.getElem?_eq_getElem hi] at this
    simp only [Option.getD_some] at this
    omega
  have h2 := h.pos
  match hx : intL xs, h1 with
  | [], h1 => rw [← h1] at h2; simp [natL] at h2
  | n :: l, h1 => exact ⟨n, l, h1.symm, isBr_nat.1 (by rw [h1]; exact h.is)⟩
theorem dvGo_step : ∀ (l : List Int) (d : Int) (i : Nat), i + 1 < l.length → (dvGo d l).getD (i + 1) 0 = gcdW ((dvGo d l).getD i 0) (l.getD (i + 1) 0)
  | [], d, i, h => by simp at h
  | [x], d, i, h => by simp at h
  | x :: y :: l, d, 0, h => rfl
  | x :: y :: l, d, i + 1, h => by
    have := dvGo_step (y :: l) (gcdW d x) i (by simpa using h)
    simpa [dvGo] using this
theorem exI_nat (a b : Nat) : exI (a : Int) (b : Int) = natL (ex a b) := by
  rw [exI, Int.toNat_natCast, Int.toNat_natCast]; rfl
theorem seq_chN {n : Nat} {l0 : List Nat} : ∀ (l pre : List Nat) (p e : Nat), n :: l0 = pre ++ l → pre ≠ [] → 0 < e → (dv (natL (n :: l0))).getD (pre.length - 1) 0 = (e : Int) → (if pre.length = 1 then 0 else pre.getD (pre.length - 1) 0) = p → Val p e l →
    (List.range' (pre.length - 1) l.length).flatMap (runI (natL (n :: l0))) = natL (chN p e l)
  | [], pre, p, e, _, _, _, _, _, _ => rfl
  | t :: l, pre, p, e, hx, hne, he, hd, hp, hv => by
    obtain ⟨h1, h2, h3, h4⟩ := hv
    have hpl : 0 < pre.length := List.length_pos_iff.2 hne
    have hlen : (n :: l0).length = pre.length + (l.length + 1) := by rw [hx, List.length_append]; rfl
    have hgt : (n :: l0).getD pre.length 0 = t := by
      rw [hx, List.getD_eq_getElem?_getD, List.getElem?_append_right (Nat.le_refl _), Nat.sub_self]; rfl
    have hgp : pre.length ≠ 1 → (n :: l0).getD (pre.length - 1) 0 = p := fun h5 => by
      rw [if_neg h5] at hp
      rw [hx, List.getD_eq_getElem?_getD, List.getElem?_append_left (by omega), ← List.getD_eq_getElem?_getD, hp]
    have hnl : (natL (n :: l0)).length = pre.length + (l.length + 1) := by rw [natL_len, hlen]
    have hk : kkI (natL (n :: l0)) (pre.length - 1) = ((t - p : Nat) : Int) := by
      have e1 : (natL (n :: l0)).getD (pre.length - 1 + 1) 0 = (t : Int) := by
        rw [show pre.length - 1 + 1 = pre.length by omega]
        have := natL_getD (n :: l0) pre.length 0
        rw [hgt] at this
        exact this
      rw [kkI, e1]
      by_cases h5 : pre.length = 1
      · rw [if_pos (by omega)]
        rw [if_pos h5] at hp
        omega
      · rw [if_neg (by omega)]
        have := natL_getD (n :: l0) (pre.length - 1) 0
        rw [hgp h5] at this
        have e2 : (natL (n :: l0)).getD (pre.length - 1) 0 = (p : Int) := this
        rw [e2]
        omega
    have hrun : runI (natL (n :: l0)) (pre.length - 1) = natL (ex (t - p) e) := by rw [runI, hk, hd, exI_nat]
    have hd2 : (dv (natL (n :: l0))).getD ((pre ++ [t]).length - 1) 0 = ((Nat.gcd e t : Nat) : Int) := by
      rw [List.length_append, List.length_singleton, show pre.length + 1 - 1 = (pre.length - 1) + 1 by omega, dv, dvGo_step _ _ _ (by omega), ← dv, hd]
      have := natL_getD (n :: l0) pre.length 0
      rw [hgt] at this
      have e2 : (natL (n :: l0)).getD (pre.length - 1 + 1) 0 = (t : Int) := by rw [show pre.length - 1 + 1 = pre.length by omega]; exact this
      rw [e2, gcdW_natJ he (by omega)]
    have ih := seq_chN l (pre ++ [t]) t (Nat.gcd e t) (by rw [hx]; simp) (by simp) (Nat.gcd_pos_of_pos_left t he) hd2 (by
      rw [if_neg (by rw [List.length_append, List.length_singleton]; omega), List.length_append, List.length_singleton, Nat.add_sub_cancel, List.getD_eq_getElem?_getD, List.getElem?_append_right (Nat.le_refl _), Nat.sub_self]; rfl) h4
    rw [List.length_append, List.length_singleton, show pre.length + 1 - 1 = pre.length - 1 + 1 by omega] at ih
    rw [List.length_cons, List.range'_succ, List.flatMap_cons, hrun, ih, chN, natL_append]
theorem seq_nat {n : Nat} {l : List Nat} (h : BrN n l) : seqI (natL (n :: l)) = natL (chN 0 n l) := by
  have h1 := h.lo
  have hd : (dv (natL (n :: l))).getD 0 0 = (n : Int) := by
    have := (nat_br h).d0
    rw [this]; rfl
  have := seq_chN l [n] 0 n rfl (by simp) (by omega) hd rfl (h.val.weak (by omega))
  rw [seqI, seqP, natL_len, List.length_cons, Nat.add_sub_cancel, List.range_eq_range']
  exact this
theorem sq1_nat {n : Nat} {l : List Nat} (h : BrN n l) : sq1 (natL (n :: l)) = natL (if l = [] then [1] else chN 0 n l) := by
  rw [sq1, natL_len, List.length_cons, seq_nat h]
  cases l with
  | nil => rfl
  | cons t l => rw [if_neg (by simp), if_neg (by simp)]
def strI (xs : List Int) : List Int := natL (match intL xs with
  | [] => []
  | n :: l => strN n l)
theorem str_seq {xs : List Int} (h : Br xs) : Br (strI xs) ∧ ∃ n l, strI xs = natL (n :: l) ∧ SeqB n l ((sq1 xs ++ [1]).drop 1) := by
  obtain ⟨n, l, rfl, hb⟩ := br_nat h
  obtain ⟨n', l', h1, h2, m, h3⟩ := str_ok hb
  have hs : strI (natL (n :: l)) = natL (n' :: l') := by rw [strI, int_nat]; simp only [h1]
  refine ⟨by rw [hs]; exact nat_br h2, n', l', hs, h2, ?_, m, ?_⟩
  · rw [sq1_nat hb]
    have h4 : 0 < (natL (if l = [] then [1] else chN 0 n l)).length := by
      rw [natL_len]
      split
      · simp
      · rename_i hne
        match l, hne with
        | t :: l, _ =>
          have h5 := hb.val.1
          have h6 : 0 < t / n := Nat.div_pos (by omega) hb.lo
          rw [chN, ex_pos hb.lo, Nat.sub_zero, List.length_append, List.length_append, List.length_replicate]
          omega
    intro h5
    have h6 := congrArg List.length h5
    rw [List.length_drop, List.length_append] at h6
    simp only [List.length_singleton, List.length_nil] at h6
    omega
  · rw [sq1_nat hb, ← h3]
    split
    · rfl
    · simp [natL, List.map_drop]
end Go.Ax
