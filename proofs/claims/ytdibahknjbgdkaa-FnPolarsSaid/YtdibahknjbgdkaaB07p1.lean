import Derived.Test.YtdibahknjbgdkaaB06p1
import Derived.Test.YtdibahknjbgdkaaB05p1
/-
  Delta invariants and lengths of branches. No conditions but those of the contracts.
-/
set_option linter.all false
namespace Go.Ax
open Go.Proofs

def tri (m : Int) : Int := (m * (m - 1)).tdiv 2
def delT : List Int → Int
  | [] => 0
  | m :: l => tri m + delT l
theorem delT_append : ∀ a b : List Int, delT (a ++ b) = delT a + delT b
  | [], b => by simp [delT]
  | x :: a, b => by simp only [List.cons_append, delT, delT_append a b]; omega
theorem delT_rep (m : Int) : ∀ n : Nat, delT (List.replicate n m) = n * tri m
  | 0 => by simp [delT]
  | n + 1 => by
    simp only [List.replicate_succ, delT, delT_rep m n, Int.natCast_add, Int.add_mul]
    omega
theorem tri_in {m : Int} (h1 : 1 ≤ m) (h2 : m ≤ 64) : 0 ≤ m * (m - 1) ∧ m * (m - 1) ≤ 4032 ∧ 0 ≤ tri m ∧ tri m ≤ 2016 := by
  have k1 : 0 ≤ m * (m - 1) := Int.mul_nonneg (by omega) (by omega)
  have k2 : m * (m - 1) ≤ 64 * 63 := Int.mul_le_mul h2 (by omega) (by omega) (by omega)
  refine ⟨k1, by omega, ?_, ?_⟩
  · rw [tri, Int.tdiv_eq_ediv_of_nonneg k1]; omega
  · rw [tri, Int.tdiv_eq_ediv_of_nonneg k1]; omega
def Low (l : List Int) : Prop := ∀ m ∈ l, 1 ≤ m ∧ m ≤ 64
theorem delT_in : ∀ l : List Int, Low l → 0 ≤ delT l ∧ delT l ≤ 2016 * l.length
  | [], _ => by simp [delT]
  | m :: l, h => by
    have h1 := tri_in (h m (by simp)).1 (h m (by simp)).2
    have h2 := delT_in l (fun x hx => h x (by simp [hx]))
    simp only [delT, List.length_cons]
    omega
theorem Low.take {l : List Int} (h : Low l) (n : Nat) : Low (l.take n) := fun m hm => h m (List.mem_of_mem_take hm)
theorem delT_take (l : List Int) (i : Nat) (h : i < l.length) : delT (l.take (i + 1)) = delT (l.take i) + tri (l.getD i 0) := by
  rw [List.take_succ_eq_append_getElem h, delT_append, List.getD_eq_getElem?_getD, List.getElem?_eq_getElem h]
  simp [delT]
theorem Low.at {l : List Int} (h : Low l) {i : Nat} (hi : i < l.length) : 1 ≤ l.getD i 0 ∧ l.getD i 0 ≤ 64 := by
  rw [List.getD_eq_getElem?_getD, List.getElem?_eq_getElem hi]
  exact h _ (List.getElem_mem hi)
theorem sq1_low {xs : List Int} (h : Br xs) : Low (sq1 xs) := by
  intro m hm
  obtain ⟨i, hi, rfl⟩ := List.mem_iff_getElem.1 hm
  have h1 := sq1_get xs i
  rw [seqI_get, List.getD_eq_getElem?_getD, List.getElem?_eq_getElem hi, Option.getD_some] at h1
  rw [h1]
  have h2 := mul_le h i
  have h3 := (mul_good h).1.pos i
  omega
def c_l_int (f : List V → Int) (q : List V → Prop) : Contract := fun
  | [.slc false 2 (.int .i64 0) a0] => some ([q a0], .int .i64 (f a0))
  | _ => none
def f_delT (a : List V) : Int := delT (unI a)
def q_del (a : List V) : Prop := ∃ l, a = I l ∧ l.length ≤ 200000 ∧ Low l
set_option maxHeartbeats 1000000 in
set_option maxRecDepth 100000 in
theorem s_impl_deltaOf : Sat Try.prog 63 (c_l_int f_delT q_del) := by
  intro args ps r h hp
  unfold c_l_int at h
  split at h
  · rename_i a0
    simp only [Option.some.injEq, Prod.mk.injEq] at h
    obtain ⟨rfl, rfl⟩ := h
    obtain ⟨xs, hxs, hl, hlow⟩ : q_del a0 := (alls_cons.1 hp).1
    have hxl : a0.length = xs.length := by rw [hxs, I_length]
    have hf0 : f_delT a0 = delT xs := by rw [f_delT, hxs, unI_I]
    have gx : ∀ i, a0.getD i (.int .i64 0) = .int .i64 (xs.getD i 0) := fun i => by rw [hxs, I_getD]
    obtain ⟨n, hn⟩ : ∃ n : Int, n = xs.length := ⟨_, rfl⟩
    refine fnOk_ofI (T := tab) (B := []) (Bi := []) [0, 2, 3, 5, 6, 7, 8] Try.func63 rfl rfl (by kernel_rfl) (Nat.le_of_ble_eq_true rfl) mixed tabOk (by exact bookNil) (by exact bookINil) (by kernel_rfl) ?_
    intro L lp rr hL hr hf hlp
    conv => cbv
    refine hlp (Int × Int) _ _ _ [3, 6, 7, 8] (fun x => [(3, none, .val (.int .i64 x.1)), (6, none, .val (.slc false 2 (.int .i64 0) a0)), (7, none, .val (.int .i64 n)), (8, none, .val (.int .i64 x.2))])
      (fun x => 0 ≤ x.2 ∧ x.2 ≤ n ∧ x.1 = delT (xs.take x.2.toNat)) (fun x => (n - x.2).toNat) ((0, 0)) (by subst hL; rw [hn, ← hxl]; rfl) ?_ ?_
    · exact ⟨by simp, by simp only; omega, rfl⟩
    rintro ⟨s, i⟩ ⟨i0, i1, hI⟩ hfx ag hag
    simp only at i0 i1 hI
    conv => cbv
    simp only [stdEqs hL, imp_self, true_and, and_true, bif_or, bif_and, Bool.or_eq_true, Bool.or_eq_false_iff, Bool.and_eq_true, Bool.and_eq_false_iff, decide_eq_true_eq, decide_eq_false_iff_not, Bool.not_eq_true', Bool.not_eq_false', beq_iff_eq, beq_eq_false_iff_ne, ne_eq, toNat0, toNat1, ok_int, toI_int, I_frzs, I_length, I_getD, ok_ints, toL_slc, hxl, gx]
    refine ⟨fun h2 => ⟨i0, by omega, by omega, ?_⟩, fun h2 => ?_⟩
    · have hil : i.toNat < xs.length := by omega
      obtain ⟨m, hm⟩ : ∃ m, m = xs.getD i.toNat 0 := ⟨_, rfl⟩
      have hmb := hlow.at hil
      rw [← hm] at hmb
      have ht := tri_in hmb.1 hmb.2
      have hd := delT_in _ (hlow.take i.toNat)
      have hdl : (xs.take i.toNat).length = i.toNat := by rw [List.length_take]; omega
      rw [hdl, ← hI] at hd
      have e3 : delT (xs.take (i.toNat + 1)) = s + tri m := by rw [delT_take _ _ hil, ← hI, hm]
      rw [← hm, wrap_id (n := m - 1) (by omega) (by omega), wrap_id (n := m * (m - 1)) (by omega) (by omega)]
      rw [show (m * (m - 1)).tdiv 2 = tri m from rfl, wrap_id (n := tri m) (by omega) (by omega), wrap_id (n := s + tri m) (by omega) (by omega), wrap_id (n := i + 1) (by omega) (by omega)]
      refine hag (s + tri m, i + 1) ⟨by simp only; omega, by simp only; omega, ?_⟩ (by simp only; omega)
      simp only [toNat_succ i0]
      exact e3.symm
    · rw [hr, hf0, hI, List.take_of_length_le (by omega)]
  · cases h
theorem delT_sq1 (xs : List Int) : delT (sq1 xs) = delT (seqI xs) := by
  rw [sq1]
  split
  · rename_i h
    rw [seqI, h]
    simp [seqP, delT, tri]
  · rfl
end Go.Ax
/-
  Polar invariants of a branch in plain Lean: their sums. No conditions.
-/
set_option linter.all false
namespace Go.Ax
open Go.Proofs

theorem tri2 (m : Int) : 2 * tri m = m * (m - 1) := by
  have h2 : m * (m - 1) % 2 = 0 := by
    rcases (show m % 2 = 0 ∨ m % 2 = 1 by omega) with h | h
    · rw [Int.mul_emod, h]; simp
    · rw [Int.mul_emod, show (m - 1) % 2 = 0 by omega]; simp
  have hd : (2 : Int) ∣ m * (m - 1) := Int.dvd_of_emod_eq_zero h2
  rw [tri, Int.mul_tdiv_cancel' hd]
theorem delT_ex : ∀ (n a b : Nat), b ≤ n → 2 * delT ((ex a b).map fun (n : Nat) => (n : Int)) = (a : Int) * b - a - b + (Nat.gcd a b : Nat)
  | 0, a, b, h => by
    obtain rfl : b = 0 := by omega
    rw [ex_zero, Nat.gcd_zero_right]
    simp only [List.map_nil, delT]
    omega
  | n + 1, a, b, h => by
    by_cases hb : 0 < b
    · have h1 : a % b < b := Nat.mod_lt _ hb
      have ih := delT_ex n b (a % b) (by omega)
      rw [ex_pos hb, List.map_append, delT_append, List.map_replicate, delT_rep, Int.mul_add, ih]
      have h3 := Nat.div_add_mod a b
      have hg : Nat.gcd b (a % b) = Nat.gcd a b := by rw [Nat.gcd_comm a b, Nat.gcd_rec b a, Nat.gcd_comm]
      rw [hg]
      have h4 : 2 * (((a / b : Nat) : Int) * tri b) = ((a / b : Nat) : Int) * (b * (b - 1)) := by rw [← tri2]; simp only [Int.mul_left_comm]
      rw [h4]
      generalize hq : a / b = q at *
      generalize hr : a % b = r at *
      have ha : (a : Int) = b * q + r := by rw [← h3]; simp
      have e1 : (q : Int) * (b * (b - 1)) = b * (b * q) - b * q := by rw [Int.mul_sub, Int.mul_sub, Int.mul_one, Int.mul_comm (q : Int) (b : Int), ← Int.mul_assoc, Int.mul_comm (q : Int) (b : Int), Int.mul_comm ((b : Int) * q) b]
      have e2 : ((b : Int) * q + r) * b = b * (b * q) + b * r := by rw [Int.add_mul, Int.mul_comm ((b : Int) * q) b, Int.mul_comm (r : Int) b]
      rw [ha, e1, e2]
      omega
    · obtain rfl : b = 0 := by omega
      rw [ex_zero, Nat.gcd_zero_right]
      simp only [List.map_nil, delT]
      omega

section
variable {xs : List Int}
theorem dv_next {i : Nat} (h : Br xs) (hi : i + 1 < xs.length) : (dv xs).getD (i + 1) 0 = gcdW ((dv xs).getD i 0) (xs.getD (i + 1) 0) ∧ (dv xs).getD i 0 ∣ xs.getD i 0 := by
  have key : ∀ (l : List Int) (d : Int) (i : Nat), i + 1 < l.length → (dvGo d l).getD (i + 1) 0 = gcdW ((dvGo d l).getD i 0) (l.getD (i + 1) 0) := by
    intro l
    induction l with
    | nil => intro d i h; simp at h
    | cons t l ih =>
      intro d i h
      cases i with
      | zero =>
        cases l with
        | nil => simp at h
        | cons s l => rfl
      | succ i =>
        have := ih (gcdW d t) i (by simpa using h)
        simpa [dvGo] using this
  refine ⟨key xs 0 i hi, ?_⟩
  cases i with
  | zero => rw [h.d0]; exact Int.dvd_refl _
  | succ i =>
    rw [dv, key xs 0 i (by omega)]
    have p1 := h.dpos i (by omega)
    have p2 := h.low (i + 1) (by omega)
    rw [dv] at p1
    rw [gcdW_nat (by omega) (by omega)]
    have h2 := Int.natCast_dvd_natCast.2 (Nat.gcd_dvd_right ((dvGo 0 xs).getD i 0).toNat (xs.getD (i + 1) 0).toNat)
    rwa [Int.toNat_of_nonneg (show 0 ≤ xs.getD (i + 1) 0 by omega)] at h2
theorem dv_dvd {i : Nat} (h : Br xs) (hi : i + 1 < xs.length) : (dv xs).getD (i + 1) 0 ∣ (dv xs).getD i 0 := by
  have p1 := h.dpos i (by omega)
  have p2 := h.low (i + 1) (by omega)
  rw [(dv_next h hi).1, gcdW_nat (by omega) (by omega)]
  have h2 := Int.natCast_dvd_natCast.2 (Nat.gcd_dvd_left ((dv xs).getD i 0).toNat (xs.getD (i + 1) 0).toNat)
  rwa [Int.toNat_of_nonneg (show 0 ≤ (dv xs).getD i 0 by omega)] at h2
theorem rat_eq {i : Nat} (h : Br xs) (hi : i + 1 < xs.length) : (dv xs).getD (i + 1) 0 * rat xs i = (dv xs).getD i 0 ∧ 1 ≤ rat xs i ∧ rat xs i ≤ 64 := by
  have p1 := h.dpos i (by omega)
  have p2 := h.dpos (i + 1) hi
  have p3 := h.dhi i (by omega)
  have hm := Int.mul_tdiv_cancel' (dv_dvd h hi)
  obtain ⟨q, hq⟩ : ∃ q, q = ((dv xs).getD i 0).tdiv ((dv xs).getD (i + 1) 0) := ⟨_, rfl⟩
  rw [← hq] at hm
  have q1 : 1 ≤ q := by
    by_cases hc : 1 ≤ q
    · exact hc
    · have : (dv xs).getD (i + 1) 0 * q ≤ 0 := Int.mul_nonpos_of_nonneg_of_nonpos (by omega) (by omega)
      omega
  have q2 : 1 * q ≤ (dv xs).getD (i + 1) 0 * q := Int.mul_le_mul_of_nonneg_right p2 (by omega)
  have e : rat xs i = q := by rw [rat, ← hq]; exact wrap_id (by omega) (by omega)
  rw [e]
  exact ⟨hm, q1, by omega⟩
def areaS (xs : List Int) : Nat → Int
  | 0 => 0
  | n + 1 => areaS xs n + kkI xs n * (dv xs).getD n 0
theorem area_in (h : Br xs) : ∀ n, n + 1 ≤ xs.length → 0 ≤ areaS xs n ∧ areaS xs n ≤ 64 * (if n = 0 then 0 else xs.getD n 0)
  | 0, _ => by simp [areaS]
  | n + 1, hn => by
    have ih := area_in h n (by omega)
    have hk := kkI_in h (i := n) (by omega)
    have p1 := h.dpos n (by omega)
    have p2 := h.dhi n (by omega)
    have h1 : 0 ≤ kkI xs n * (dv xs).getD n 0 := Int.mul_nonneg (by omega) (by omega)
    have h2 : kkI xs n * (dv xs).getD n 0 ≤ kkI xs n * 64 := Int.mul_le_mul_of_nonneg_left p2 (by omega)
    have h3 : kkI xs n = xs.getD (n + 1) 0 - (if n = 0 then 0 else xs.getD n 0) := rfl
    simp only [areaS, if_neg (Nat.succ_ne_zero n)]
    omega
theorem area_le (h : Br xs) {n : Nat} (hn : n + 1 ≤ xs.length) : 0 ≤ areaS xs n ∧ areaS xs n ≤ 128000 := by
  have h1 := area_in h n hn
  have h2 := h.high n (by omega)
  split at h1 <;> omega
theorem gen_area (h : Br xs) : ∀ n, n + 1 < xs.length → (dv xs).getD n 0 * genF xs (n + 1) = areaS xs (n + 1) ∧ 0 ≤ genF xs (n + 1) ∧ genF xs (n + 1) ≤ 128000 := by
  have bnd : ∀ n g : Int, 1 ≤ n → ∀ A, n * g = A → 0 ≤ A → A ≤ 128000 → 0 ≤ g ∧ g ≤ 128000 := by
    intro n g hn A hA h0 h1
    have g0 : 0 ≤ g := by
      by_cases hc : 0 ≤ g
      · exact hc
      · have : n * g < 0 := Int.mul_neg_of_pos_of_neg (by omega) (by omega)
        omega
    have : 1 * g ≤ n * g := Int.mul_le_mul_of_nonneg_right hn g0
    omega
  intro n
  induction n with
  | zero =>
    intro hn
    have e : (dv xs).getD 0 0 * genF xs 1 = areaS xs 1 := by
      simp only [genF, areaS, kkI, if_pos, Int.sub_zero, Int.zero_add]
      rw [Int.mul_comm]
    exact ⟨e, bnd _ _ (h.dpos 0 (by omega)) _ e (area_le h (by omega)).1 (area_le h (by omega)).2⟩
  | succ n ih =>
    intro hn
    obtain ⟨i1, i2, i3⟩ := ih (by omega)
    obtain ⟨r1, r2, r3⟩ := rat_eq h (i := n) (by omega)
    have hk := kkI_in h (i := n + 1) (by omega)
    have hkk : kkI xs (n + 1) = xs.getD (n + 2) 0 - xs.getD (n + 1) 0 := rfl
    have x1 := h.low (n + 2) (by omega)
    have x2 := h.high (n + 2) (by omega)
    have x3 := h.low (n + 1) (by omega)
    have x4 := h.high (n + 1) (by omega)
    have m0 : 0 ≤ rat xs n * genF xs (n + 1) := Int.mul_nonneg (by omega) i2
    have m1 : rat xs n * genF xs (n + 1) ≤ 64 * 128000 := Int.mul_le_mul r3 i3 i2 (by omega)
    have eg : genF xs (n + 1 + 1) = rat xs n * genF xs (n + 1) + kkI xs (n + 1) := by
      simp only [genF]
      rw [W, W, W, wrap_id (n := rat xs n * genF xs (n + 1)) (by omega) (by omega), wrap_id (n := rat xs n * genF xs (n + 1) + xs.getD (n + 2) 0) (by omega) (by omega), wrap_id (by omega) (by omega), hkk]
      omega
    have e : (dv xs).getD (n + 1) 0 * genF xs (n + 1 + 1) = areaS xs (n + 1 + 1) := by
      rw [eg, Int.mul_add, ← Int.mul_assoc, r1, i1, show areaS xs (n + 1 + 1) = areaS xs (n + 1) + kkI xs (n + 1) * (dv xs).getD (n + 1) 0 from rfl, Int.mul_comm (kkI xs (n + 1))]
    exact ⟨e, bnd _ _ (h.dpos (n + 1) (by omega)) _ e (area_le h (by omega)).1 (area_le h (by omega)).2⟩
theorem gen_next (h : Br xs) {n : Nat} (hn : n + 2 < xs.length) : genF xs (n + 2) = rat xs n * genF xs (n + 1) + xs.getD (n + 2) 0 - xs.getD (n + 1) 0 := by
  obtain ⟨i1, i2, i3⟩ := gen_area h n (by omega)
  obtain ⟨r1, r2, r3⟩ := rat_eq h (i := n) (by omega)
  have x1 := h.low (n + 2) (by omega)
  have x2 := h.high (n + 2) (by omega)
  have x3 := h.low (n + 1) (by omega)
  have x4 := h.high (n + 1) (by omega)
  have m0 : 0 ≤ rat xs n * genF xs (n + 1) := Int.mul_nonneg (by omega) i2
  have m1 : rat xs n * genF xs (n + 1) ≤ 64 * 128000 := Int.mul_le_mul r3 i3 i2 (by omega)
  rw [genF, W, W, W, wrap_id (n := rat xs n * genF xs (n + 1)) (by omega) (by omega), wrap_id (n := rat xs n * genF xs (n + 1) + xs.getD (n + 2) 0) (by omega) (by omega), wrap_id (by omega) (by omega)]

def polM (xs : List Int) (n : Nat) : Int := if n = 0 then 0 else ((dv xs).getD 0 0).tdiv ((dv xs).getD n 0) - 1
def polN (xs : List Int) (n : Nat) : Int := if n = 0 then 0 else rat xs (n - 1) * genF xs n - xs.getD n 0
theorem dq_in (h : Br xs) {n : Nat} (hn : n < xs.length) : 0 ≤ ((dv xs).getD 0 0).tdiv ((dv xs).getD n 0) ∧ ((dv xs).getD 0 0).tdiv ((dv xs).getD n 0) ≤ 64 := by
  have p0 := h.dpos 0 h.pos
  have p1 := h.dhi 0 h.pos
  have p2 := h.dpos n hn
  exact ⟨Int.tdiv_nonneg (by omega) (by omega), Int.le_trans (Int.tdiv_le_self _ (by omega)) p1⟩
theorem polM_step (h : Br xs) {n : Nat} (hn : n + 1 < xs.length) : (polRow xs n).length = 2 ∧ polM xs n + (polRow xs n).getD 0 0 = polM xs (n + 1) ∧ -64 ≤ polM xs n ∧ polM xs n ≤ 64 := by
  have h1 := dq_in h (n := n) (by omega)
  have h2 := dq_in h (n := n + 1) hn
  have h0 : ((dv xs).getD 0 0).tdiv ((dv xs).getD 0 0) = 1 := Int.tdiv_self (by have := h.dpos 0 h.pos; omega)
  refine ⟨rfl, ?_, ?_, ?_⟩
  · simp only [polRow, List.getD_cons_zero, polM, if_neg (Nat.succ_ne_zero n)]
    rw [W, W, W, wrap_id (n := ((dv xs).getD 0 0).tdiv ((dv xs).getD (n + 1) 0)) (by omega) (by omega), wrap_id (n := ((dv xs).getD 0 0).tdiv ((dv xs).getD n 0)) (by omega) (by omega), wrap_id (by omega) (by omega)]
    split
    · rename_i hz; subst hz; omega
    · omega
  · rw [polM]; split <;> omega
  · rw [polM]; split <;> omega
theorem polN_in (h : Br xs) {n : Nat} (hn : n < xs.length) : -2000 ≤ polN xs n ∧ polN xs n ≤ 8192000 := by
  rw [polN]
  split
  · omega
  · obtain ⟨m, rfl⟩ : ∃ m, n = m + 1 := ⟨n - 1, by omega⟩
    obtain ⟨i1, i2, i3⟩ := gen_area h m (by omega)
    obtain ⟨r1, r2, r3⟩ := rat_eq h (i := m) (by omega)
    have x3 := h.low (m + 1) (by omega)
    have x4 := h.high (m + 1) (by omega)
    have m0 : 0 ≤ rat xs m * genF xs (m + 1) := Int.mul_nonneg (by omega) i2
    have m1 : rat xs m * genF xs (m + 1) ≤ 64 * 128000 := Int.mul_le_mul r3 i3 i2 (by omega)
    simp only [Nat.add_sub_cancel]
    omega
theorem polN_step (h : Br xs) {n : Nat} (hn : n + 1 < xs.length) : polN xs n + (polRow xs n).getD 1 0 = polN xs (n + 1) := by
  obtain ⟨i1, i2, i3⟩ := gen_area h n (by omega)
  obtain ⟨r1, r2, r3⟩ := rat_eq h (i := n) (by omega)
  have m0 : 0 ≤ rat xs n * genF xs (n + 1) := Int.mul_nonneg (by omega) i2
  have m1 : rat xs n * genF xs (n + 1) ≤ 64 * 128000 := Int.mul_le_mul r3 i3 i2 (by omega)
  have e1 : (rat xs n - 1) * genF xs (n + 1) = rat xs n * genF xs (n + 1) - genF xs (n + 1) := by rw [Int.sub_mul, Int.one_mul]
  simp only [polRow, List.getD_cons_succ, List.getD_cons_zero, polN, if_neg (Nat.succ_ne_zero n), Nat.add_sub_cancel]
  rw [W, W, wrap_id (n := rat xs n - 1) (by omega) (by omega), e1, wrap_id (by omega) (by omega)]
  split
  · rename_i hz
    subst hz
    have : genF xs (0 + 1) = xs.getD (0 + 1) 0 := rfl
    omega
  · obtain ⟨m, rfl⟩ : ∃ m, n = m + 1 := ⟨n - 1, by omega⟩
    have : genF xs (m + 1 + 1) = rat xs m * genF xs (m + 1) + xs.getD (m + 1 + 1) 0 - xs.getD (m + 1) 0 := gen_next h (n := m) (by omega)
    simp only [Nat.add_sub_cancel]
    omega
theorem delT_seqP (h : Br xs) : ∀ n, n + 1 ≤ xs.length → 2 * delT (seqP xs n) = areaS xs n - (if n = 0 then 0 else xs.getD n 0) - (dv xs).getD 0 0 + (dv xs).getD n 0
  | 0, _ => by simp [seqP, delT, areaS]; omega
  | n + 1, hn => by
    have ih := delT_seqP h n (by omega)
    have hk := kkI_in h (i := n) (by omega)
    have p1 := h.dpos n (by omega)
    obtain ⟨g1, g2⟩ := dv_next h (i := n) (by omega)
    have hkk : kkI xs n = xs.getD (n + 1) 0 - (if n = 0 then 0 else xs.getD n 0) := rfl
    have x3 := h.low (n + 1) (by omega)
    rw [seqP_succ, delT_append, Int.mul_add, ih, runI, exI, delT_ex _ _ _ (Nat.le_refl _), Int.toNat_of_nonneg (by omega), Int.toNat_of_nonneg (by omega)]
    have hg : ((Nat.gcd (kkI xs n).toNat ((dv xs).getD n 0).toNat : Nat) : Int) = (dv xs).getD (n + 1) 0 := by
      rw [g1, gcdW_nat (by omega) (by omega), Nat.gcd_comm]
      obtain ⟨d, hd⟩ : ∃ d : Nat, (dv xs).getD n 0 = d := ⟨((dv xs).getD n 0).toNat, by omega⟩
      obtain ⟨k, hk'⟩ : ∃ k : Nat, kkI xs n = k := ⟨(kkI xs n).toNat, by omega⟩
      obtain ⟨x, hx⟩ : ∃ x : Nat, xs.getD (n + 1) 0 = x := ⟨(xs.getD (n + 1) 0).toNat, by omega⟩
      have hx2 : ∃ c : Nat, x = k + d * c := by
        rw [hk', hx] at hkk
        by_cases hz : n = 0
        · rw [if_pos hz] at hkk; exact ⟨0, by omega⟩
        · rw [if_neg hz] at hkk
          obtain ⟨c, hc⟩ := g2
          have x5 := h.low n (by omega)
          rw [hd] at hc
          have hc0 : 0 ≤ c := by
            by_cases hcc : 0 ≤ c
            · exact hcc
            · have : (d : Int) * c ≤ 0 := Int.mul_nonpos_of_nonneg_of_nonpos (by omega) (by omega)
              omega
          refine ⟨c.toNat, ?_⟩
          have e3 : ((d * c.toNat : Nat) : Int) = xs.getD n 0 := by rw [hc]; simp [Int.toNat_of_nonneg hc0]
          omega
      obtain ⟨c, hc⟩ := hx2
      rw [hd, hk', hx, Int.toNat_natCast, Int.toNat_natCast, Int.toNat_natCast, hc, Nat.gcd_add_mul_left_right]
    rw [hg, areaS, if_neg (Nat.succ_ne_zero n)]
    omega
theorem pol_sums (h : Br xs) : polM xs (xs.length - 1) = xs.getD 0 0 - 1 ∧ polN xs (xs.length - 1) = 2 * delT (sq1 xs) + polM xs (xs.length - 1) ∧ 0 ≤ delT (sq1 xs) ∧ delT (sq1 xs) ≤ 128000 := by
  have hp := h.pos
  have hm : polM xs (xs.length - 1) = xs.getD 0 0 - 1 := by
    rw [polM]
    have x0 := h.d0
    split
    · rename_i hz
      have := h.dlast
      rw [hz, x0] at this
      omega
    · rw [h.dlast, Int.tdiv_one, x0]
  have hd := delT_seqP h (xs.length - 1) (by omega)
  have ha := area_le h (n := xs.length - 1) (by omega)
  rw [h.dlast, h.d0] at hd
  have hs : delT (sq1 xs) = delT (seqP xs (xs.length - 1)) := delT_sq1 xs
  have hx0 := h.low 0 hp
  have hlow := delT_in _ (sq1_low h)
  refine ⟨hm, ?_, hlow.1, ?_⟩
  · rw [hm, hs, hd, polN]
    split
    · rename_i hz
      rw [hz]
      simp [areaS]
      omega
    · rename_i hz
      obtain ⟨m, hmm⟩ : ∃ m, xs.length - 1 = m + 1 := ⟨xs.length - 1 - 1, by omega⟩
      rw [hmm]
      simp only [Nat.add_sub_cancel]
      obtain ⟨i1, _, _⟩ := gen_area h m (by omega)
      obtain ⟨r1, _, _⟩ := rat_eq h (i := m) (by omega)
      have hl := h.dlast
      rw [hmm] at hl
      rw [hl, Int.one_mul] at r1
      rw [r1, i1]
      omega
  · rw [hs]
    have := h.low (xs.length - 1) (by omega)
    split at hd <;> omega
end
end Go.Ax
