import Derived.Test.YtdibahknjbgdkaaB08p2
import Derived.Test.YtdibahknjbgdkaaB14p2
/-
  Semiroots of branches meet them in their generators, in plain Lean. No conditions but those of the theorems.
-/
set_option linter.all false
namespace Go.Ax
open Go.Proofs

theorem ex_scale {e : Nat} (he : 0 < e) : ∀ (n a b : Nat), b ≤ n → ex (e * a) (e * b) = (ex a b).map (e * ·)
  | 0, a, b, h => by
    obtain rfl : b = 0 := by omega
    rw [Nat.mul_zero, ex_zero, ex_zero]; rfl
  | n + 1, a, b, h => by
    by_cases hb : 0 < b
    · have h1 : a % b < b := Nat.mod_lt _ hb
      rw [ex_pos (Nat.mul_pos he hb), ex_pos hb, Nat.mul_div_mul_left _ _ he, Nat.mul_mod_mul_left, ex_scale he n b (a % b) (by omega), List.map_append, List.map_replicate]
    · obtain rfl : b = 0 := by omega
      rw [Nat.mul_zero, ex_zero, ex_zero]; rfl
theorem ex_first {a e : Nat} (he : 0 < e) (hr : a % e ≠ 0) : ∃ tl, ex a e = List.replicate (a / e) e ++ (a % e) :: tl := by
  have h1 : a % e < e := Nat.mod_lt _ he
  have h2 : e / (a % e) = (e / (a % e) - 1) + 1 := by
    have : 0 < e / (a % e) := Nat.div_pos (by omega) (by omega)
    omega
  rw [ex_pos he, ex_pos (by omega), h2, List.replicate_succ, List.cons_append]
  exact ⟨_, rfl⟩
theorem ex_last : ∀ (n a b : Nat), b ≤ n → 0 < a → 0 < b → ∃ l, ex a b = l ++ [Nat.gcd a b]
  | 0, a, b, h, _, hb => by omega
  | n + 1, a, b, h, ha, hb => by
    have h1 : a % b < b := Nat.mod_lt _ hb
    rw [ex_pos hb]
    by_cases hz : a % b = 0
    · have hd : b ∣ a := Nat.dvd_of_mod_eq_zero hz
      have h2 : 0 < a / b := Nat.div_pos (Nat.le_of_dvd ha hd) hb
      rw [hz, ex_zero, List.append_nil, Nat.gcd_eq_right hd, show a / b = (a / b - 1) + 1 by omega, List.replicate_succ']
      exact ⟨_, rfl⟩
    · obtain ⟨l, hl⟩ := ex_last n b (a % b) (by omega) hb (by omega)
      have hg : Nat.gcd b (a % b) = Nat.gcd a b := by rw [Nat.gcd_comm a b, Nat.gcd_rec b a, Nat.gcd_comm]
      rw [hl, hg]
      exact ⟨List.replicate (a / b) b ++ l, by simp⟩
def sqS : List Int → Int
  | [] => 0
  | m :: l => m * m + sqS l
theorem sqS_append : ∀ a b : List Int, sqS (a ++ b) = sqS a + sqS b
  | [], b => by simp [sqS]
  | x :: a, b => by simp only [List.cons_append, sqS, sqS_append a b]; omega
theorem sqS_rep (m : Int) : ∀ n : Nat, sqS (List.replicate n m) = n * (m * m)
  | 0 => by simp [sqS]
  | n + 1 => by
    simp only [List.replicate_succ, sqS, sqS_rep m n, Int.natCast_add, Int.add_mul]
    omega
theorem sqS_ex : ∀ (n a b : Nat), b ≤ n → sqS ((ex a b).map fun (n : Nat) => (n : Int)) = (a : Int) * b
  | 0, a, b, h => by
    obtain rfl : b = 0 := by omega
    rw [ex_zero]
    simp [sqS]
  | n + 1, a, b, h => by
    by_cases hb : 0 < b
    · have h1 : a % b < b := Nat.mod_lt _ hb
      rw [ex_pos hb, List.map_append, sqS_append, List.map_replicate, sqS_rep, sqS_ex n b (a % b) (by omega)]
      have h3 := Nat.div_add_mod a b
      generalize a / b = q at *
      generalize a % b = r at *
      have ha : (a : Int) = b * q + r := by rw [← h3]; simp
      rw [ha, Int.add_mul, Int.mul_comm (b : Int) (r : Int), Int.mul_assoc, Int.mul_left_comm]
    · obtain rfl : b = 0 := by omega
      rw [ex_zero]
      simp [sqS]

theorem asc_of : ∀ l : List Int, (∀ i, i + 1 < l.length → l.getD i 0 < l.getD (i + 1) 0) → asc l = true
  | [], _ => rfl
  | [a], _ => rfl
  | a :: b :: l, h => by
    have h0 := h 0 (by simp)
    have ih := asc_of (b :: l) (fun i hi => by simpa using h (i + 1) (by simpa using hi))
    simp only [List.getD_cons_zero, List.getD_cons_succ] at h0
    have hab : decide (b ≤ a) = false := by simp; omega
    simp only [asc, hab, cond_false]
    exact ih
theorem dec_of : ∀ l : List Int, l ≠ [] → (∀ i, i + 1 < l.length → l.getD (i + 1) 0 < l.getD i 0) → l.getD (l.length - 1) 0 = 1 → dec l = true
  | [], h, _, _ => absurd rfl h
  | [a], _, _, h1 => by simpa [dec] using h1
  | a :: b :: l, _, h, h1 => by
    have h0 := h 0 (by simp)
    have ih := dec_of (b :: l) (by simp) (fun i hi => by simpa using h (i + 1) (by simpa using hi)) (by simpa using h1)
    simp only [List.getD_cons_zero, List.getD_cons_succ] at h0
    have hab : decide (a ≤ b) = false := by simp; omega
    simp only [dec, hab, cond_false]
    exact ih
theorem dvStep (xs : List Int) {i : Nat} (h : i + 1 < xs.length) : (dv xs).getD (i + 1) 0 = gcdW ((dv xs).getD i 0) (xs.getD (i + 1) 0) := by
  have key : ∀ (l : List Int) (d : Int) (i : Nat), i + 1 < l.length → (dvGo d l).getD (i + 1) 0 = gcdW ((dvGo d l).getD i 0) (l.getD (i + 1) 0) := by
    intro l
    induction l with
    | nil => intro d i h; simp at h
    | cons t l ih =>
      intro d i h
      cases i with
      | zero =>
        cases l with
        | nil => simp at h
        | cons s l => rfl
      | succ i =>
        have := ih (gcdW d t) i (by simpa using h)
        simpa [dvGo] using this
  exact key xs 0 i h

section
variable {xs : List Int} {k : Nat}
theorem dv_dvd_le (h : Br xs) (hk : k + 1 < xs.length) : ∀ j, j ≤ k → (dv xs).getD k 0 ∣ (dv xs).getD (k - j) 0
  | 0, _ => Int.dvd_refl _
  | j + 1, hj => by
    have := dv_dvd_le h hk j (by omega)
    have h2 := dv_dvd h (i := k - (j + 1)) (by omega)
    rw [show k - (j + 1) + 1 = k - j by omega] at h2
    exact Int.dvd_trans this h2
theorem dv_dvd_x (h : Br xs) (hk : k + 1 < xs.length) {j : Nat} (hj : j ≤ k) : (dv xs).getD k 0 ∣ xs.getD j 0 := by
  have h1 := dv_dvd_le h hk (k - j) (by omega)
  rw [show k - (k - j) = j by omega] at h1
  exact Int.dvd_trans h1 (dv_next h (i := j) (by omega)).2
abbrev sroot (xs : List Int) (k : Nat) : List Int := cut xs k
theorem sroot_len (hk : k + 1 < xs.length) : (sroot xs k).length = k + 1 := by
  simp only [cut, List.length_map, List.length_take, Int.toNat_natCast]
  omega
theorem sroot_get (h : Br xs) (hk : k + 1 < xs.length) {j : Nat} (hj : j ≤ k) : (dv xs).getD k 0 * (sroot xs k).getD j 0 = xs.getD j 0 ∧ 1 ≤ (sroot xs k).getD j 0 ∧ (sroot xs k).getD j 0 ≤ xs.getD j 0 := by
  have p1 := h.dpos k (by omega)
  have x1 := h.low j (by omega)
  have x2 := h.high j (by omega)
  have hm := Int.mul_tdiv_cancel' (dv_dvd_x h hk hj)
  obtain ⟨q, hq⟩ : ∃ q, q = (xs.getD j 0).tdiv ((dv xs).getD k 0) := ⟨_, rfl⟩
  rw [← hq] at hm
  have q1 : 1 ≤ q := by
    by_cases hc : 1 ≤ q
    · exact hc
    · have : (dv xs).getD k 0 * q ≤ 0 := Int.mul_nonpos_of_nonneg_of_nonpos (by omega) (by omega)
      omega
  have q2 : 1 * q ≤ (dv xs).getD k 0 * q := Int.mul_le_mul_of_nonneg_right p1 (by omega)
  have e : (sroot xs k).getD j 0 = q := by
    simp only [cut, Int.toNat_natCast]
    rw [List.getD_eq_getElem?_getD, List.getElem?_map, List.getElem?_take, if_pos (by omega), List.getElem?_eq_getElem (by omega)]
    simp only [Option.map_some, Option.getD_some]
    have e2 : xs[j] = xs.getD j 0 := by rw [List.getD_eq_getElem?_getD, List.getElem?_eq_getElem (by omega)]; rfl
    rw [e2, ← hq]
    exact wrap_id (by omega) (by omega)
  rw [e]
  exact ⟨hm, q1, by omega⟩
theorem sroot_dv (h : Br xs) (hk : k + 1 < xs.length) : ∀ j, j ≤ k → (dv xs).getD k 0 * (dv (sroot xs k)).getD j 0 = (dv xs).getD j 0 ∧ 1 ≤ (dv (sroot xs k)).getD j 0
  | 0, _ => by
    obtain ⟨h1, h2, _⟩ := sroot_get h hk (j := 0) (by omega)
    have e : (dv (sroot xs k)).getD 0 0 = (sroot xs k).getD 0 0 := by
      have hl := sroot_len (xs := xs) hk
      match hs : sroot xs k, hl with
      | y :: l, _ =>
        rw [hs] at h2
        simp only [List.getD_cons_zero] at h2
        simp [dv, dvGo, gcdW_zero (show 0 < y by omega)]
    rw [e, h.d0]
    exact ⟨h1, h2⟩
  | j + 1, hj => by
    obtain ⟨i1, i2⟩ := sroot_dv h hk j (by omega)
    obtain ⟨h1, h2, _⟩ := sroot_get h hk (j := j + 1) hj
    have p1 := h.dpos k (by omega)
    have p2 := h.dpos j (by omega)
    have x2 := h.low (j + 1) (by omega)
    rw [dvStep (sroot xs k) (by rw [sroot_len hk]; omega), dvStep xs (by omega)]
    obtain ⟨e, he⟩ : ∃ e : Nat, (dv xs).getD k 0 = e := ⟨((dv xs).getD k 0).toNat, by omega⟩
    obtain ⟨a, ha⟩ : ∃ a : Nat, (dv (sroot xs k)).getD j 0 = a := ⟨((dv (sroot xs k)).getD j 0).toNat, by omega⟩
    obtain ⟨b, hb⟩ : ∃ b : Nat, (sroot xs k).getD (j + 1) 0 = b := ⟨((sroot xs k).getD (j + 1) 0).toNat, by omega⟩
    rw [he, ha] at i1
    rw [he, hb] at h1
    rw [← i1, ← h1, he, ha, hb, gcdW_nat (by omega) (by omega), gcdW_nat (by rw [i1]; omega) (by rw [h1]; omega)]
    have c1 : ((e : Int) * a).toNat = e * a := by rw [← Int.natCast_mul, Int.toNat_natCast]
    have c2 : ((e : Int) * b).toNat = e * b := by rw [← Int.natCast_mul, Int.toNat_natCast]
    rw [c1, c2, Nat.gcd_mul_left, Int.toNat_natCast, Int.toNat_natCast, Int.natCast_mul]
    refine ⟨rfl, ?_⟩
    have : 0 < Nat.gcd a b := Nat.gcd_pos_of_pos_left _ (by omega)
    omega
theorem sroot_br (h : Br xs) (hk : k + 1 < xs.length) : Br (sroot xs k) := by
  have hl := sroot_len (xs := xs) hk
  have p1 := h.dpos k (by omega)
  have hdl : (dv (sroot xs k)).length = k + 1 := by rw [dv, dvGo_len, hl]
  refine br_of ?_
  simp only [isBr, cond_and', Bool.and_eq_true]
  refine ⟨⟨⟨⟨?_, ?_⟩, ?_⟩, ?_⟩, ?_⟩
  · rw [hl]; simp
  · obtain ⟨h1, h2, h3⟩ := sroot_get h hk (j := 0) (by omega)
    have := h.first
    simp only [inRange, Bool.and_eq_true, decide_eq_true_eq]
    omega
  · refine asc_of _ fun i hi => ?_
    obtain ⟨h1, h2, h3⟩ := sroot_get h hk (j := i) (by omega)
    obtain ⟨h4, h5, h6⟩ := sroot_get h hk (j := i + 1) (by omega)
    have := h.up i (by omega)
    refine Int.lt_of_mul_lt_mul_left (a := (dv xs).getD k 0) ?_ (by omega)
    omega
  · simp only [within, List.all_eq_true, inRange, Bool.and_eq_true, decide_eq_true_eq]
    intro y hy
    obtain ⟨i, hi, rfl⟩ := List.mem_iff_getElem.1 hy
    obtain ⟨h1, h2, h3⟩ := sroot_get h hk (j := i) (by omega)
    have := h.high i (by omega)
    have e2 : (sroot xs k).getD i 0 = (sroot xs k)[i] := by rw [List.getD_eq_getElem?_getD, List.getElem?_eq_getElem hi]; rfl
    rw [← e2]
    omega
  · refine dec_of _ (fun e => by rw [e] at hdl; simp at hdl) (fun i hi => ?_) ?_
    · obtain ⟨h1, h2⟩ := sroot_dv h hk i (by omega)
      obtain ⟨h4, h5⟩ := sroot_dv h hk (i + 1) (by omega)
      have := h.dstep i (by omega)
      refine Int.lt_of_mul_lt_mul_left (a := (dv xs).getD k 0) ?_ (by omega)
      omega
    · rw [hdl, Nat.add_sub_cancel]
      obtain ⟨h1, h2⟩ := sroot_dv h hk k (by omega)
      have : (dv xs).getD k 0 * ((dv (sroot xs k)).getD k 0 - 1) = 0 := by rw [Int.mul_sub, h1]; omega
      rcases Int.mul_eq_zero.1 this with h3 | h3 <;> omega
theorem sroot_kk (h : Br xs) (hk : k + 1 < xs.length) {j : Nat} (hj : j < k) : (dv xs).getD k 0 * kkI (sroot xs k) j = kkI xs j := by
  obtain ⟨h1, _, _⟩ := sroot_get h hk (j := j) (by omega)
  obtain ⟨h2, _, _⟩ := sroot_get h hk (j := j + 1) (by omega)
  rw [kkI, kkI, Int.mul_sub, h2]
  split
  · rw [Int.mul_zero]
  · rw [h1]
theorem sroot_run (h : Br xs) (hk : k + 1 < xs.length) {j : Nat} (hj : j < k) : runI xs j = (runI (sroot xs k) j).map ((dv xs).getD k 0 * ·) := by
  have h1 := sroot_kk h hk hj
  obtain ⟨h2, h3⟩ := sroot_dv h hk j (by omega)
  have p1 := h.dpos k (by omega)
  have hb := sroot_br h hk
  have hkk := kkI_in hb (i := j) (by rw [sroot_len hk]; omega)
  obtain ⟨e, he⟩ : ∃ e : Nat, (dv xs).getD k 0 = e := ⟨((dv xs).getD k 0).toNat, by omega⟩
  obtain ⟨a, ha⟩ : ∃ a : Nat, kkI (sroot xs k) j = a := ⟨(kkI (sroot xs k) j).toNat, by omega⟩
  obtain ⟨b, hb2⟩ : ∃ b : Nat, (dv (sroot xs k)).getD j 0 = b := ⟨((dv (sroot xs k)).getD j 0).toNat, by omega⟩
  rw [runI, runI, ← h1, ← h2, he, ha, hb2, exI, exI]
  have c1 : ((e : Int) * a).toNat = e * a := by rw [← Int.natCast_mul, Int.toNat_natCast]
  have c2 : ((e : Int) * b).toNat = e * b := by rw [← Int.natCast_mul, Int.toNat_natCast]
  rw [c1, c2, Int.toNat_natCast, Int.toNat_natCast, ex_scale (by omega) b a b (Nat.le_refl _), List.map_map, List.map_map]
  apply List.map_congr_left
  intro x _
  simp
theorem sroot_seqP (h : Br xs) (hk : k + 1 < xs.length) : ∀ j, j ≤ k → seqP xs j = (seqP (sroot xs k) j).map ((dv xs).getD k 0 * ·)
  | 0, _ => rfl
  | j + 1, hj => by rw [seqP_succ, seqP_succ, List.map_append, sroot_seqP h hk j (by omega), sroot_run h hk (by omega)]
theorem sroot_seqI (hk : k + 1 < xs.length) : seqI (sroot xs k) = seqP (sroot xs k) k := by rw [seqI, sroot_len hk, Nat.add_sub_cancel]
theorem seqP_add (xs : List Int) (n : Nat) : ∀ m, ∃ tl, seqP xs (n + m) = seqP xs n ++ tl
  | 0 => ⟨[], by simp⟩
  | m + 1 => by
    obtain ⟨tl, ht⟩ := seqP_add xs n m
    exact ⟨tl ++ runI xs (n + m), by rw [← Nat.add_assoc, seqP_succ, ht, List.append_assoc]⟩
theorem sqS_seqP (h : Br xs) : ∀ n, n + 1 ≤ xs.length → sqS (seqP xs n) = areaS xs n
  | 0, _ => rfl
  | n + 1, hn => by
    have hk := kkI_in h (i := n) (by omega)
    have p1 := h.dpos n (by omega)
    rw [seqP_succ, sqS_append, sqS_seqP h n (by omega), areaS, runI, exI, sqS_ex _ _ _ (Nat.le_refl _), Int.toNat_of_nonneg (by omega), Int.toNat_of_nonneg (by omega)]

structure Semi (xs ys : List Int) (k e r q L : Nat) : Prop where
  e1 : (dv xs).getD k 0 = (e : Int)
  hr : 0 < r
  re : r < e
  kk : kkI xs k = ((q * e + r : Nat) : Int)
  low : ∀ i, i < L → mul xs i = e * mul ys i
  atL : mul xs L = r
  one : ∀ i, L ≤ i → mul ys i = 1
  pos : 1 ≤ L
  last : mul ys (L - 1) = 1
  sq : sqS ((seqI xs).take L) = areaS xs k + q * (e * e)
  len : L < (seqI xs).length
theorem semi_of (h : Br xs) (hk : k + 1 < xs.length) : ∃ e r q L, Semi xs (sroot xs k) k e r q L := by
  have p1 := h.dpos k (by omega)
  have hys := sroot_br h hk
  have hyl := sroot_len (xs := xs) hk
  have hkk := kkI_in h (i := k) (by omega)
  obtain ⟨e, he⟩ : ∃ e : Nat, (dv xs).getD k 0 = e := ⟨((dv xs).getD k 0).toNat, by omega⟩
  obtain ⟨a, ha⟩ : ∃ a : Nat, kkI xs k = a := ⟨(kkI xs k).toNat, by omega⟩
  have he0 : 0 < e := by omega
  have hr : a % e ≠ 0 := by
    intro hz
    have h1 := ddN_kk h (i := k) (by omega)
    have h2 := h.dstep k (by omega)
    have h3 : ddN xs k = e := by rw [ddN, he, Int.toNat_natCast]
    have h4 : kkN xs k = a := by rw [kkN, ha, Int.toNat_natCast]
    rw [h3, h4, Nat.gcd_eq_left (Nat.dvd_of_mod_eq_zero hz), ddN] at h1
    have := h.dpos (k + 1) (by omega)
    omega
  have hre : a % e < e := Nat.mod_lt _ he0
  obtain ⟨tl, htl⟩ := ex_first he0 hr
  have hdm := Nat.div_add_mod a e
  have hdp : e ≤ a → 0 < a / e := fun h => Nat.div_pos h he0
  generalize a / e = q at htl hdm hdp
  generalize a % e = r at htl hdm hr hre
  have hrun : runI xs k = List.replicate (q) (e : Int) ++ ((r : Nat) : Int) :: tl.map (fun (n : Nat) => (n : Int)) := by
    rw [runI, exI, ha, he, Int.toNat_natCast, Int.toNat_natCast, htl, List.map_append, List.map_replicate, List.map_cons]
  obtain ⟨tl2, htl2⟩ := seqP_add xs (k + 1) (xs.length - 1 - (k + 1))
  rw [show k + 1 + (xs.length - 1 - (k + 1)) = xs.length - 1 by omega, seqP_succ, sroot_seqP h hk k (Nat.le_refl _), hrun, he] at htl2
  obtain ⟨S, hS⟩ : ∃ S, S = seqP (sroot xs k) k := ⟨_, rfl⟩
  rw [← hS] at htl2
  have hX : seqI xs = (S.map ((e : Int) * ·) ++ List.replicate (q) (e : Int)) ++ (((r : Nat) : Int) :: (tl.map (fun (n : Nat) => (n : Int)) ++ tl2)) := by
    rw [seqI, htl2]
    simp
  have hY : seqI (sroot xs k) = S := by rw [sroot_seqI hk, hS]
  have hlen : (S.map ((e : Int) * ·) ++ List.replicate (q) (e : Int)).length = S.length + q := by simp
  have N1 : ∀ i, S.length ≤ i → mul (sroot xs k) i = 1 := by
    intro i hi
    have := seqI_get (sroot xs k) i
    rw [hY, List.getD_eq_getElem?_getD, List.getElem?_eq_none hi] at this
    simp only [Option.getD_none] at this
    omega
  have M1 : ∀ i, i < S.length + q → (mul xs i : Int) = (S.map ((e : Int) * ·) ++ List.replicate (q) (e : Int)).getD i 1 := by
    intro i hi
    rw [← seqI_get xs i, hX, List.getD_eq_getElem?_getD, List.getElem?_append_left (by omega), List.getD_eq_getElem?_getD]
  refine ⟨e, r, q, S.length + q, he, by omega, hre, ?_, fun i hi => ?_, ?_, fun i hi => N1 i (by omega), ?_, ?_, ?_, ?_⟩
  · rw [ha, Nat.mul_comm, hdm]
  · have := M1 i hi
    by_cases hiS : i < S.length
    · rw [List.getD_eq_getElem?_getD, List.getElem?_append_left (by simpa using hiS), List.getElem?_map, List.getElem?_eq_getElem hiS] at this
      simp only [Option.map_some, Option.getD_some] at this
      have h2 := seqI_get (sroot xs k) i
      rw [hY, List.getD_eq_getElem?_getD, List.getElem?_eq_getElem hiS] at h2
      simp only [Option.getD_some] at h2
      rw [h2, ← Int.natCast_mul] at this
      exact_mod_cast this
    · rw [List.getD_eq_getElem?_getD, List.getElem?_append_right (by simp; omega), List.getElem?_replicate, if_pos (by simp; omega)] at this
      simp only [Option.getD_some] at this
      rw [N1 i (by omega)]
      omega
  · have := seqI_get xs (S.length + q)
    rw [hX, List.getD_eq_getElem?_getD, List.getElem?_append_right (by omega), hlen, Nat.sub_self] at this
    simp only [List.getElem?_cons_zero, Option.getD_some] at this
    omega
  · by_cases hk0 : k = 0
    · subst hk0
      have h1 : xs.getD 0 0 < xs.getD 1 0 := h.up 0 (by omega)
      have h2 : kkI xs 0 = xs.getD 1 0 := by simp [kkI]
      rw [h.d0] at he
      have := hdp (by omega)
      omega
    · obtain ⟨m, rfl⟩ : ∃ m, k = m + 1 := ⟨k - 1, by omega⟩
      have : 1 ≤ S.length := by
        rw [hS, seqP_succ, List.length_append]
        have hk2 := kkI_in hys (i := m) (by omega)
        have hd2 := hys.dpos m (by omega)
        have := ex_ne (a := (kkI (sroot xs (m + 1)) m).toNat) (b := ((dv (sroot xs (m + 1))).getD m 0).toNat) (by omega) (by omega)
        rw [runI, exI, List.length_map]
        omega
      omega
  · by_cases hq : 1 ≤ q
    · exact N1 _ (by omega)
    · by_cases hk0 : k = 0
      · subst hk0
        have h1 : xs.getD 0 0 < xs.getD 1 0 := h.up 0 (by omega)
        have h2 : kkI xs 0 = xs.getD 1 0 := by simp [kkI]
        rw [h.d0] at he
        have := hdp (by omega)
        omega
      · obtain ⟨m, rfl⟩ : ∃ m, k = m + 1 := ⟨k - 1, by omega⟩
        have hk2 := kkI_in hys (i := m) (by omega)
        have hd2 := hys.dpos m (by omega)
        obtain ⟨l, hl⟩ := ex_last _ (kkI (sroot xs (m + 1)) m).toNat ((dv (sroot xs (m + 1))).getD m 0).toNat (Nat.le_refl _) (by omega) (by omega)
        have hg : Nat.gcd (kkI (sroot xs (m + 1)) m).toNat ((dv (sroot xs (m + 1))).getD m 0).toNat = 1 := by
          have h1 := ddN_kk hys (i := m) (by omega)
          have h2 := hys.dlast
          rw [hyl, Nat.add_sub_cancel] at h2
          rw [Nat.gcd_comm]
          rw [ddN, ddN, kkN, h2] at h1
          exact h1
        rw [hg] at hl
        have hS2 : S = (seqP (sroot xs (m + 1)) m ++ l.map (fun (n : Nat) => (n : Int))) ++ [1] := by
          rw [hS, seqP_succ, runI, exI, hl]
          simp
        have h2 := seqI_get (sroot xs (m + 1)) (S.length + q - 1)
        rw [hY, show S.length + q - 1 = S.length - 1 by omega, hS2, List.length_append, List.length_singleton, Nat.add_sub_cancel, List.getD_eq_getElem?_getD, List.getElem?_append_right (Nat.le_refl _), Nat.sub_self] at h2
        simp only [List.getElem?_cons_zero, Option.getD_some] at h2
        rw [show S.length + q - 1 = (seqP (sroot xs (m + 1)) m ++ l.map (fun (n : Nat) => (n : Int))).length by rw [hS2, List.length_append, List.length_singleton]; omega]
        omega
  · rw [hX, List.take_append_of_le_length (by omega), List.take_of_length_le (by omega), sqS_append, sqS_rep]
    have := sqS_seqP h k (by omega)
    rw [sroot_seqP h hk k (Nat.le_refl _), ← hS, he] at this
    rw [this]
  · rw [hX, List.length_append, hlen]
    simp
end

theorem sum_scale {M N : Nat → Nat} {e L : Nat} (h1 : ∀ i, i < L → M i = e * N i) (a : Nat) : ∀ m, a + m < L → sumM M a m = e * sumM N a m
  | 0, _ => by simp [sumM]
  | m + 1, h => by
    simp only [sumM]
    rw [sum_scale h1 a m (by omega), h1 (a + 1 + m) (by omega), Nat.mul_add]
theorem codes_scale {M N : Nat → Nat} (hM : GoodM M) {e r L : Nat} (hr : 0 < r) (hre : r < e) (h1 : ∀ i, i < L → M i = e * N i) (h2 : M L = r) (h3 : N L = 1) (h3' : N (L + 1) = 1) (h4 : 1 ≤ L) (h5 : N (L - 1) = 1) :
    (∀ j, 1 ≤ j → j ≤ L → cd M j j = cd N j j) ∧ cd M (L + 1) (L + 1) ≠ cd N (L + 1) (L + 1) := by
  have he : 0 < e := by omega
  constructor
  · intro j hj1 hj2
    have hp : ∀ i, prs M i j = prs N i j := by
      intro i
      rw [prs, prs]
      apply List.filter_congr
      intro a ha
      have ha2 : a < j := by
        have := List.mem_range.1 ha
        omega
      have key : sumM M a (j - a) ≤ M a ↔ sumM N a (j - a) ≤ N a := by
        rw [h1 a (by omega)]
        by_cases hjL : j < L
        · rw [sum_scale h1 a (j - a) (by omega)]
          exact Nat.mul_le_mul_left_iff he
        · obtain ⟨m, hm⟩ : ∃ m, j - a = m + 1 := ⟨j - a - 1, by omega⟩
          rw [hm]
          simp only [sumM]
          rw [sum_scale h1 a m (by omega), show a + 1 + m = L by omega, h2, h3]
          constructor
          · intro hle
            rcases Nat.lt_or_ge (sumM N a m) (N a) with hlt | hge
            · omega
            · have := Nat.mul_le_mul_left e hge
              omega
          · intro hle
            have := Nat.mul_le_mul_left e hle
            rw [Nat.mul_add] at this
            omega
      unfold prx
      exact decide_eq_decide.2 key
    rw [cd, cd, hp]
  · have hML : M (L - 1) = e := by rw [h1 (L - 1) (by omega), h5, Nat.mul_one]
    have two : ∀ (F : Nat → Nat), sumM F (L - 1) 2 = F L + F (L + 1) := fun F => by
      have e0 : L - 1 + 1 = L := by omega
      simp only [sumM, e0, Nat.add_zero, Nat.zero_add]
    have hpM : sumM M (L - 1) 2 ≤ M (L - 1) := by
      rw [two, hML, h2]
      obtain ⟨c, r', d1, d2, d3, d4, d5⟩ := hM.drop (L - 1) (by rw [show L - 1 + 1 = L by omega, h2, hML]; exact hre)
      rw [show L - 1 + 1 = L by omega, h2] at d1 d2
      rw [hML] at d1
      by_cases hc : 2 ≤ c
      · have d6 := d4 1 (by omega)
        rw [show L - 1 + 1 + 1 = L + 1 by omega, show L - 1 + 1 = L by omega, h2] at d6
        have : 2 * r ≤ c * r := Nat.mul_le_mul_right r hc
        omega
      · obtain rfl : c = 1 := by omega
        have d6 := d5 (by omega)
        rw [show L - 1 + 1 + 1 = L + 1 by omega] at d6
        omega
    have hN : prs N L (L + 1) = [] := by
      rw [prs, List.filter_eq_nil_iff]
      intro a ha hx
      have haL : a < L := by
        have := List.mem_range.1 ha
        omega
      simp only [prx, decide_eq_true_eq] at hx
      by_cases ha1 : a = L - 1
      · subst ha1
        rw [show L + 1 - (L - 1) = 2 by omega, two, h3, h3', h5] at hx
        omega
      · obtain ⟨m, hm⟩ : ∃ m, L + 1 - a = m + 2 := ⟨L - 1 - a, by omega⟩
        have hpa : Prox M a (L + 1) := by
          unfold Prox
          rw [hm] at hx ⊢
          simp only [sumM] at hx ⊢
          rw [show a + 1 + m = L by omega, show a + 1 + (m + 1) = L + 1 by omega] at hx ⊢
          rw [sum_scale h1 a m (by omega), h1 a haL, h2]
          rw [h3, h3'] at hx
          have f1 := hM.fall L
          rw [h2] at f1
          have := Nat.mul_le_mul_left e hx
          rw [Nat.mul_add, Nat.mul_add] at this
          omega
        refine prox_uniq hM (i := a) (i' := L - 1) (j := L + 1) (by omega) (by omega) hpa ?_
        unfold Prox
        rw [show L + 1 - (L - 1) = 2 by omega]
        exact hpM
    have hMm : L - 1 ∈ prs M L (L + 1) := by
      rw [prs, List.mem_filter]
      refine ⟨by rw [List.mem_range]; omega, ?_⟩
      simp only [prx, decide_eq_true_eq]
      rw [show L + 1 - (L - 1) = 2 by omega]
      exact hpM
    rw [cd, cd, show min (L + 1) (L + 1 - 1) = L by omega, hN]
    cases hm : prs M L (L + 1) with
    | nil => rw [hm] at hMm; cases hMm
    | cons a l =>
      have := prs_lt (M := M) (i := L) (j := L + 1) a (by rw [hm]; simp)
      simp only
      omega

def dS (M N : Nat → Nat) : Nat → Int
  | 0 => 0
  | n + 1 => dS M N n + (M n : Int) * (N n : Int)
theorem dS_in {M N : Nat → Nat} (hM : ∀ i, M i ≤ 64) (hN : ∀ i, N i ≤ 64) : ∀ n, 0 ≤ dS M N n ∧ dS M N n ≤ 4096 * n
  | 0 => by simp [dS]
  | n + 1 => by
    have ih := dS_in hM hN n
    have h1 : 0 ≤ (M n : Int) * (N n : Int) := Int.mul_nonneg (by omega) (by omega)
    have h2 : (M n : Int) * (N n : Int) ≤ 64 * 64 := Int.mul_le_mul (by have := hM n; omega) (by have := hN n; omega) (by omega) (by omega)
    simp only [dS]
    omega
theorem meet_dS {xs ys : List Int} (hx : Br xs) (hy : Br ys) {c : Nat} (hc : c ≤ 1000000) : meet xs ys c = dS (mul xs) (mul ys) c := by
  have key : ∀ n, n ≤ c → dotW (firstK xs c) (firstK ys c) n = dS (mul xs) (mul ys) n := by
    intro n
    induction n with
    | zero => intro _; rfl
    | succ n ih =>
      intro hn
      have b1 := dS_in (mul_le hx) (mul_le hy) n
      have b2 := dS_in (mul_le hx) (mul_le hy) (n + 1)
      have h1 : 0 ≤ (mul xs n : Int) * (mul ys n : Int) := Int.mul_nonneg (by omega) (by omega)
      have h2 : (mul xs n : Int) * (mul ys n : Int) ≤ 64 * 64 := Int.mul_le_mul (by have := mul_le hx n; omega) (by have := mul_le hy n; omega) (by omega) (by omega)
      simp only [dS] at b2
      simp only [dotW, dS]
      rw [ih (by omega), firstK_mul, firstK_mul, tab_get _ _ _ _ (by omega), tab_get _ _ _ _ (by omega), W, W, wrap_id (n := (mul xs n : Int) * (mul ys n : Int)) (by omega) (by omega), wrap_id (by omega) (by omega)]
  exact key c (Nat.le_refl _)
theorem semi_gc {xs ys : List Int} {k e r q L : Nat} (hx : Br xs) (h : Semi xs ys k e r q L) : gc xs ys = if L < 200 then ((L : Int) + 1, 0) else (0, 4) := by
  obtain ⟨c1, c2⟩ := codes_scale (mul_good hx).1 h.hr h.re h.low h.atL (h.one L (Nat.le_refl _)) (h.one (L + 1) (by omega)) h.pos h.last
  unfold gc
  by_cases hL : L < 200
  · have hf : fstD (codeK xs 201) (codeK ys 201) = some L := fstD_some (by rw [codeK_len]; exact hL) (fun t ht => by
      rw [codeK_get xs (by omega), codeK_get ys (by omega)]
      exact c1 (t + 1) (by omega) (by omega)) (by
      rw [codeK_get xs (by omega), codeK_get ys (by omega)]
      exact c2)
    rw [if_pos hL, hf]
  · rw [if_neg hL, fstD_none fun t ht => ?_]
    rw [codeK_len] at ht
    rw [codeK_get xs (by omega), codeK_get ys (by omega)]
    exact c1 (t + 1) (by omega) (by omega)
theorem semi_meet {xs ys : List Int} {k e r q L : Nat} (hx : Br xs) (hy : Br ys) (hk : k + 1 < xs.length) (h : Semi xs ys k e r q L) (hL : L < 200) : meet xs ys (L + 1) = genF xs (k + 1) := by
  have he : 0 < e := by have := h.re; omega
  have key : ∀ n, n ≤ L → (e : Int) * dS (mul xs) (mul ys) n = sqS ((seqI xs).take n) := by
    intro n
    induction n with
    | zero => intro _; simp [dS, sqS]
    | succ n ih =>
      intro hn
      have hl := h.len
      have hnl : n < (seqI xs).length := by omega
      have h1 := h.low n (by omega)
      have h2 := seqI_get xs n
      rw [List.getD_eq_getElem?_getD, List.getElem?_eq_getElem hnl, Option.getD_some] at h2
      rw [List.take_succ_eq_append_getElem hnl, sqS_append, ← ih (by omega), dS, Int.mul_add, h2]
      simp only [sqS, Int.add_zero]
      congr 1
      rw [h1, Int.natCast_mul, Int.mul_left_comm]
  obtain ⟨g1, _, _⟩ := gen_area hx k hk
  rw [meet_dS hx hy (by omega), dS, h.atL, h.one L (Nat.le_refl _)]
  have h1 := key L (Nat.le_refl _)
  rw [h.sq] at h1
  rw [areaS, h.kk, h.e1] at g1
  have h3 : (e : Int) * (dS (mul xs) (mul ys) L + (r : Int) * ((1 : Nat) : Int)) = (e : Int) * genF xs (k + 1) := by
    have a1 : ((q : Int) * e + r) * e = q * (e * e) + r * e := by rw [Int.add_mul, Int.mul_assoc]
    have a2 : (e : Int) * ((r : Int) * ((1 : Nat) : Int)) = r * e := by rw [Int.natCast_one, Int.mul_one, Int.mul_comm]
    rw [g1, Int.mul_add, h1, Int.natCast_add, Int.natCast_mul, a1, a2]
    omega
  exact Int.eq_of_mul_eq_mul_left (by omega) h3
end Go.Ax
