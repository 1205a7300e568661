import Derived.Test.YtdibahknjbgdkaaB07p2
import Derived.Test.YtdibahknjbgdkaaB04p2
import Derived.Test.YtdibahknjbgdkaaB05p2
/-
  Delta invariants and lengths of branches. No conditions but those of the contracts.
-/
set_option linter.all false
namespace Go.Ax
open Go.Proofs

def Low (l : List Int) : Prop := ∀ m ∈ l, 1 ≤ m ∧ m ≤ 64
theorem Low.take {l : List Int} (h : Low l) (n : Nat) : Low (l.take n) := fun m hm => h m (List.mem_of_mem_take hm)
theorem Low.at {l : List Int} (h : Low l) {i : Nat} (hi : i < l.length) : 1 ≤ l.getD i 0 ∧ l.getD i 0 ≤ 64 := by
  rw [List.getD_eq_getElem?_getD, List.getElem?_eq_getElem hi]
  exact h _ (List.getElem_mem hi)
theorem ex_ne {a b : Nat} (ha : 0 < a) (hb : 0 < b) : 1 ≤ (ex a b).length := by
  rw [ex_pos hb, List.length_append, List.length_replicate]
  by_cases h : a / b = 0
  · have hab : a < b := (Nat.div_eq_zero_iff.1 h).resolve_left (by omega)
    rw [Nat.mod_eq_of_lt hab, ex_pos ha, List.length_append, List.length_replicate]
    have : 1 ≤ b / a := Nat.div_pos (by omega) ha
    omega
  · have : 1 ≤ a / b := Nat.one_le_iff_ne_zero.2 h
    omega
end Go.Ax
/-
  Polar invariants of a branch in plain Lean: their sums. No conditions.
-/
set_option linter.all false
namespace Go.Ax
open Go.Proofs

section
variable {xs : List Int}
theorem dv_next {i : Nat} (h : Br xs) (hi : i + 1 < xs.length) : (dv xs).getD (i + 1) 0 = gcdW ((dv xs).getD i 0) (xs.getD (i + 1) 0) ∧ (dv xs).getD i 0 ∣ xs.getD i 0 := by
  have key : ∀ (l : List Int) (d : Int) (i : Nat), i + 1 < l.length → (dvGo d l).getD (i + 1) 0 = gcdW ((dvGo d l).getD i 0) (l.getD (i + 1) 0) := by
    intro l
    induction l with
    | nil => intro d i h; simp at h
    | cons t l ih =>
      intro d i h
      cases i with
      | zero =>
        cases l with
        | nil => simp at h
        | cons s l => rfl
      | succ i =>
        have := ih (gcdW d t) i (by simpa using h)
        simpa [dvGo] using this
  refine ⟨key xs 0 i hi, ?_⟩
  cases i with
  | zero => rw [h.d0]; exact Int.dvd_refl _
  | succ i =>
    rw [dv, key xs 0 i (by omega)]
    have p1 := h.dpos i (by omega)
    have p2 := h.low (i + 1) (by omega)
    rw [dv] at p1
    rw [gcdW_nat (by omega) (by omega)]
    have h2 := Int.natCast_dvd_natCast.2 (Nat.gcd_dvd_right ((dvGo 0 xs).getD i 0).toNat (xs.getD (i + 1) 0).toNat)
    rwa [Int.toNat_of_nonneg (show 0 ≤ xs.getD (i + 1) 0 by omega)] at h2
theorem dv_dvd {i : Nat} (h : Br xs) (hi : i + 1 < xs.length) : (dv xs).getD (i + 1) 0 ∣ (dv xs).getD i 0 := by
  have p1 := h.dpos i (by omega)
  have p2 := h.low (i + 1) (by omega)
  rw [(dv_next h hi).1, gcdW_nat (by omega) (by omega)]
  have h2 := Int.natCast_dvd_natCast.2 (Nat.gcd_dvd_left ((dv xs).getD i 0).toNat (xs.getD (i + 1) 0).toNat)
  rwa [Int.toNat_of_nonneg (show 0 ≤ (dv xs).getD i 0 by omega)] at h2
theorem rat_eq {i : Nat} (h : Br xs) (hi : i + 1 < xs.length) : (dv xs).getD (i + 1) 0 * rat xs i = (dv xs).getD i 0 ∧ 1 ≤ rat xs i ∧ rat xs i ≤ 64 := by
  have p1 := h.dpos i (by omega)
  have p2 := h.dpos (i + 1) hi
  have p3 := h.dhi i (by omega)
  have hm := Int.mul_tdiv_cancel' (dv_dvd h hi)
  obtain ⟨q, hq⟩ : ∃ q, q = ((dv xs).getD i 0).tdiv ((dv xs).getD (i + 1) 0) := ⟨_, rfl⟩
  rw [← hq] at hm
  have q1 : 1 ≤ q := by
    by_cases hc : 1 ≤ q
    · exact hc
    · have : (dv xs).getD (i + 1) 0 * q ≤ 0 := Int.mul_nonpos_of_nonneg_of_nonpos (by omega) (by omega)
      omega
  have q2 : 1 * q ≤ (dv xs).getD (i + 1) 0 * q := Int.mul_le_mul_of_nonneg_right p2 (by omega)
  have e : rat xs i = q := by rw [rat, ← hq]; exact wrap_id (by omega) (by omega)
  rw [e]
  exact ⟨hm, q1, by omega⟩
def areaS (xs : List Int) : Nat → Int
  | 0 => 0
  | n + 1 => areaS xs n + kkI xs n * (dv xs).getD n 0
theorem area_in (h : Br xs) : ∀ n, n + 1 ≤ xs.length → 0 ≤ areaS xs n ∧ areaS xs n ≤ 64 * (if n = 0 then 0 else xs.getD n 0)
  | 0, _ => by simp [areaS]
  | n + 1, hn => by
    have ih := area_in h n (by omega)
    have hk := kkI_in h (i := n) (by omega)
    have p1 := h.dpos n (by omega)
    have p2 := h.dhi n (by omega)
    have h1 : 0 ≤ kkI xs n * (dv xs).getD n 0 := Int.mul_nonneg (by omega) (by omega)
    have h2 : kkI xs n * (dv xs).getD n 0 ≤ kkI xs n * 64 := Int.mul_le_mul_of_nonneg_left p2 (by omega)
    have h3 : kkI xs n = xs.getD (n + 1) 0 - (if n = 0 then 0 else xs.getD n 0) := rfl
    simp only [areaS, if_neg (Nat.succ_ne_zero n)]
    omega
theorem area_le (h : Br xs) {n : Nat} (hn : n + 1 ≤ xs.length) : 0 ≤ areaS xs n ∧ areaS xs n ≤ 128000 := by
  have h1 := area_in h n hn
  have h2 := h.high n (by omega)
  split at h1 <;> omega
theorem gen_area (h : Br xs) : ∀ n, n + 1 < xs.length → (dv xs).getD n 0 * genF xs (n + 1) = areaS xs (n + 1) ∧ 0 ≤ genF xs (n + 1) ∧ genF xs (n + 1) ≤ 128000 := by
  have bnd : ∀ n g : Int, 1 ≤ n → ∀ A, n * g = A → 0 ≤ A → A ≤ 128000 → 0 ≤ g ∧ g ≤ 128000 := by
    intro n g hn A hA h0 h1
    have g0 : 0 ≤ g := by
      by_cases hc : 0 ≤ g
      · exact hc
      · have : n * g < 0 := Int.mul_neg_of_pos_of_neg (by omega) (by omega)
        omega
    have : 1 * g ≤ n * g := Int.mul_le_mul_of_nonneg_right hn g0
    omega
  intro n
  induction n with
  | zero =>
    intro hn
    have e : (dv xs).getD 0 0 * genF xs 1 = areaS xs 1 := by
      simp only [genF, areaS, kkI, if_pos, Int.sub_zero, Int.zero_add]
      rw [Int.mul_comm]
    exact ⟨e, bnd _ _ (h.dpos 0 (by omega)) _ e (area_le h (by omega)).1 (area_le h (by omega)).2⟩
  | succ n ih =>
    intro hn
    obtain ⟨i1, i2, i3⟩ := ih (by omega)
    obtain ⟨r1, r2, r3⟩ := rat_eq h (i := n) (by omega)
    have hk := kkI_in h (i := n + 1) (by omega)
    have hkk : kkI xs (n + 1) = xs.getD (n + 2) 0 - xs.getD (n + 1) 0 := rfl
    have x1 := h.low (n + 2) (by omega)
    have x2 := h.high (n + 2) (by omega)
    have x3 := h.low (n + 1) (by omega)
    have x4 := h.high (n + 1) (by omega)
    have m0 : 0 ≤ rat xs n * genF xs (n + 1) := Int.mul_nonneg (by omega) i2
    have m1 : rat xs n * genF xs (n + 1) ≤ 64 * 128000 := Int.mul_le_mul r3 i3 i2 (by omega)
    have eg : genF xs (n + 1 + 1) = rat xs n * genF xs (n + 1) + kkI xs (n + 1) := by
      simp only [genF]
      rw [W, W, W, wrap_id (n := rat xs n * genF xs (n + 1)) (by omega) (by omega), wrap_id (n := rat xs n * genF xs (n + 1) + xs.getD (n + 2) 0) (by omega) (by omega), wrap_id (by omega) (by omega), hkk]
      omega
    have e : (dv xs).getD (n + 1) 0 * genF xs (n + 1 + 1) = areaS xs (n + 1 + 1) := by
      rw [eg, Int.mul_add, ← Int.mul_assoc, r1, i1, show areaS xs (n + 1 + 1) = areaS xs (n + 1) + kkI xs (n + 1) * (dv xs).getD (n + 1) 0 from rfl, Int.mul_comm (kkI xs (n + 1))]
    exact ⟨e, bnd _ _ (h.dpos (n + 1) (by omega)) _ e (area_le h (by omega)).1 (area_le h (by omega)).2⟩
end
end Go.Ax
/-
  Draws: sources of numbers. No conditions but those of the contracts.
-/
set_option linter.all false
namespace Go.Ax
open Go.Proofs

def U8 (xs : List Int) : List V := xs.map (.int .u8)
theorem U8_getD (xs : List Int) (i : Nat) : (U8 xs).getD i (.int .u8 0) = .int .u8 (xs.getD i 0) := by
  simp only [U8, List.getD_eq_getElem?_getD, List.getElem?_map]
  cases xs[i]? <;> rfl
def IsU (es : List V) : Prop := ∃ xs : List Int, es = U8 xs ∧ (∀ x ∈ xs, 0 ≤ x ∧ x ≤ 255) ∧ xs.length ≤ 4096
def nxH (h : Int) : Int := IntKind.u64.wrap (IntKind.u64.wrap (h * 6364136223846793005) + 1442695040888963407)
def nxX (h : Int) : Int := IntKind.i64.wrap (bitAnd .u64 (shiftR .u64 (nxH h) 33) 16777215)
theorem bitAnd_le (a : Int) : 0 ≤ bitAnd .u64 a 16777215 ∧ bitAnd .u64 a 16777215 ≤ 16777215 := by
  have h : (BitVec.ofInt IntKind.u64.bits a &&& BitVec.ofInt IntKind.u64.bits 16777215).toNat ≤ 16777215 := by
    rw [BitVec.toNat_and]
    exact Nat.le_trans Nat.and_le_right (by decide)
  rw [bitAnd, IntWalk.u64_in _ ⟨by omega, by omega⟩]
  omega
def f0_nx (es : List V) (a h n : Int) : Int := if n < 1 then 0 else (if a < es.length then IntKind.i64.wrap (nxX h + IntKind.i64.wrap ((es.getD a.toNat (.int .u8 0)).toI)) else nxX h).tmod n
def f1_nx (es : List V) (a _ n : Int) : Int := if n < 1 then a else if a < es.length then a + 1 else a
def f2_nx (_ : List V) (_ h n : Int) : Int := if n < 1 then h else nxH h
def q_src (es : List V) (a _ : Int) : Prop := IsU es ∧ 0 ≤ a ∧ a ≤ es.length
def q_nx (es : List V) (a h _ : Int) : Prop := q_src es a h
def ic_nx (f0 f1 f2 : List V → Int → Int → Int → Int) (q : List V → Int → Int → Int → Prop) : IContract := fun
  | [.box 77 (.agg [.slc false 5 (.int .u8 0) a0, .int .i64 a1, .int .u64 a2]), .int .i64 a3] => some ([q a0 a1 a2 a3], .int .i64 (f0 a0 a1 a2 a3), .box 77 (.agg [.slc false 5 (.int .u8 0) a0, .int .i64 (f1 a0 a1 a2 a3), .int .u64 (f2 a0 a1 a2 a3)]))
  | _ => none
theorem U8_byte {es : List V} (h : IsU es) (i : Nat) : 0 ≤ (es.getD i (.int .u8 0)).toI ∧ (es.getD i (.int .u8 0)).toI ≤ 255 := by
  obtain ⟨xs, hxs, hb, _⟩ := h
  rw [hxs, U8_getD]
  show 0 ≤ xs.getD i 0 ∧ xs.getD i 0 ≤ 255
  rw [List.getD_eq_getElem?_getD]
  by_cases hi : i < xs.length
  · rw [List.getElem?_eq_getElem hi]
    exact hb _ (List.getElem_mem hi)
  · rw [List.getElem?_eq_none (by omega)]
    exact ⟨by decide, by decide⟩
theorem f0_nx_in {es : List V} {a h n : Int} (hq : q_src es a h) (hn : 1 ≤ n) : 0 ≤ f0_nx es a h n ∧ f0_nx es a h n < n := by
  have h1 := bitAnd_le (shiftR .u64 (nxH h) 33)
  have h2 := U8_byte hq.1 a.toNat
  have hx : nxX h = bitAnd .u64 (shiftR .u64 (nxH h) 33) 16777215 := by rw [nxX, IntWalk.i64_in _ ⟨by omega, by omega⟩]
  rw [f0_nx, if_neg (by omega)]
  have key : ∀ x : Int, 0 ≤ x → 0 ≤ x.tmod n ∧ x.tmod n < n := fun x hx0 => ⟨Int.tmod_nonneg _ hx0, Int.tmod_lt_of_pos _ (by omega)⟩
  split
  · rw [IntWalk.i64_in (es.getD a.toNat (.int .u8 0)).toI ⟨by omega, by omega⟩, IntWalk.i64_in _ ⟨by omega, by omega⟩]
    exact key _ (by omega)
  · exact key _ (by omega)
theorem src_nx {es : List V} {a h n : Int} (hq : q_src es a h) : q_src es (f1_nx es a h n) (f2_nx es a h n) := by
  obtain ⟨h1, h2, h3⟩ := hq
  refine ⟨h1, ?_, ?_⟩
  · rw [f1_nx]; split <;> (try split) <;> omega
  · rw [f1_nx]; split <;> (try split) <;> omega
def f0_pk (es : List V) (a h : Int) (l : List V) : Int := (unI l).getD (f0_nx es a h l.length).toNat 0
def f1_pk (es : List V) (a h : Int) (l : List V) : Int := f1_nx es a h l.length
def f2_pk (es : List V) (a h : Int) (l : List V) : Int := f2_nx es a h l.length
def q_pk (es : List V) (a h : Int) (l : List V) : Prop := q_src es a h ∧ IsI l ∧ 1 ≤ l.length ∧ l.length ≤ 2147483647
def ic_pk (f0 f1 f2 : List V → Int → Int → List V → Int) (q : List V → Int → Int → List V → Prop) : IContract := fun
  | [.box 77 (.agg [.slc false 5 (.int .u8 0) a0, .int .i64 a1, .int .u64 a2]), .slc false 2 (.int .i64 0) a3] => some ([q a0 a1 a2 a3], .int .i64 (f0 a0 a1 a2 a3), .box 77 (.agg [.slc false 5 (.int .u8 0) a0, .int .i64 (f1 a0 a1 a2 a3), .int .u64 (f2 a0 a1 a2 a3)]))
  | _ => none
theorem sh_src {t : TypeId} {c : V} {a a' h h' : Int} : Sh (.box t (.agg [c, .int .i64 a, .int .u64 h])) (.box t (.agg [c, .int .i64 a', .int .u64 h'])) :=
  .box _ _ _ (.agg _ _ rfl fun i x y hx hy => by
    match i with
    | 0 => simp at hx hy; subst hx; subst hy; exact .refl _
    | 1 => simp at hx hy; subst hx; subst hy; exact .scal _ _ rfl rfl
    | 2 => simp at hx hy; subst hx; subst hy; exact .scal _ _ rfl rfl
    | n + 3 => simp at hx)
set_option maxHeartbeats 1000000 in
set_option maxRecDepth 100000 in
theorem s_spec_l01Next : SatI Try.prog 56 0 (ic_nx f0_nx f1_nx f2_nx q_nx) := by
  intro args ps r y h hp
  unfold ic_nx at h
  split at h
  · rename_i a0 a1 a2 a3
    simp only [Option.some.injEq, Prod.mk.injEq] at h
    obtain ⟨rfl, rfl, rfl⟩ := h
    have hq : q_src a0 a1 a2 := (alls_cons.1 hp).1
    refine fnIB_of (T := tab) (B := []) (Bi := []) 0 [0, 1, 4, 5] Try.func56 rfl rfl (by kernel_rfl) (Nat.le_of_ble_eq_true rfl) mixed tabOk (by exact bookNil) (by exact bookINil) (by kernel_rfl) rfl rfl rfl sh_src rfl ?_
    intro L lp rr yy hL hr hy hf hlp
    conv => cbv
    simp only [stdEqs hL, imp_self, true_and, and_true, bif_or, bif_and, Bool.or_eq_true, Bool.or_eq_false_iff, Bool.and_eq_true, Bool.and_eq_false_iff, decide_eq_true_eq, decide_eq_false_iff_not, Bool.not_eq_true', Bool.not_eq_false', beq_iff_eq, beq_eq_false_iff_ne, ne_eq, toNat0, toNat1, ok_int, toI_int, I_frzs, I_length, I_getD, ok_ints, toL_slc, true_and]
    obtain ⟨⟨xs, hxs, hb, hl⟩, h0, h1⟩ := hq
    have hal : a0.length = xs.length := by rw [hxs, U8, List.length_map]
    refine ⟨fun h => ?_, fun h => ⟨by decide, fun h2 => ⟨h0, h2, ?_, by omega, ?_⟩, fun h2 => ⟨by omega, ?_⟩⟩⟩
    · rw [hr, hy, f0_nx, f1_nx, f2_nx, if_pos h, if_pos h, if_pos h]
      exact ⟨rfl, rfl⟩
    · rw [hxs, U8_getD]
      rfl
    · rw [hr, hy, f0_nx, f1_nx, f2_nx, if_neg h, if_neg h, if_neg h, if_pos h2, if_pos h2, wrap_id (n := a1 + 1) (by omega) (by omega)]
      exact ⟨rfl, rfl⟩
    · rw [hr, hy, f0_nx, f1_nx, f2_nx, if_neg h, if_neg h, if_neg h, if_neg h2, if_neg h2]
      exact ⟨rfl, rfl⟩
  · cases h
set_option maxHeartbeats 1000000 in
set_option maxRecDepth 100000 in
theorem s_spec_l01Pick : SatI Try.prog 57 0 (ic_pk f0_pk f1_pk f2_pk q_pk) := by
  intro args ps r y h hp
  unfold ic_pk at h
  split at h
  · rename_i a0 a1 a2 a3
    simp only [Option.some.injEq, Prod.mk.injEq] at h
    obtain ⟨rfl, rfl, rfl⟩ := h
    have hq : q_pk a0 a1 a2 a3 := (alls_cons.1 hp).1
    obtain ⟨n, hn⟩ : ∃ n : Int, n = a3.length := ⟨_, rfl⟩
    generalize H_f0_nx : f0_nx = F_f0_nx
    generalize H_f1_nx : f1_nx = F_f1_nx
    generalize H_f2_nx : f2_nx = F_f2_nx
    generalize H_q_nx : q_nx = F_q_nx
    refine fnIB_of (T := tab) (B := []) (Bi := [(56, 0, false, ic_nx F_f0_nx F_f1_nx F_f2_nx F_q_nx)]) 0 [0, 1, 4] Try.func57 rfl rfl (by kernel_rfl) (Nat.le_of_ble_eq_true rfl) mixed tabOk (by subst H_f0_nx H_f1_nx H_f2_nx H_q_nx; exact bookNil) (by subst H_f0_nx H_f1_nx H_f2_nx H_q_nx; exact (bookICons s_spec_l01Next bookINil)) (by kernel_rfl) rfl rfl rfl sh_src rfl ?_
    intro L lp rr yy hL hr hy hf hlp
    conv => cbv
    simp only [stdEqs hL, imp_self, true_and, and_true, bif_or, bif_and, Bool.or_eq_true, Bool.or_eq_false_iff, Bool.and_eq_true, Bool.and_eq_false_iff, decide_eq_true_eq, decide_eq_false_iff_not, Bool.not_eq_true', Bool.not_eq_false', beq_iff_eq, beq_eq_false_iff_ne, ne_eq, toNat0, toNat1, ok_int, toI_int, I_frzs, I_length, I_getD, ok_ints, toL_slc, ← hn]
    subst H_f0_nx H_f1_nx H_f2_nx H_q_nx
    obtain ⟨h1, ⟨l, hl⟩, h2, h3⟩ := hq
    obtain ⟨k1, k2⟩ := f0_nx_in (n := n) h1 (by omega)
    refine ⟨h1, k1, k2, by rw [hl, I_getD]; rfl, ?_, ?_⟩
    · rw [hr, f0_pk, ← hn, hl, I_getD, unI_I]
      rfl
    · rw [hy, f1_pk, f2_pk, ← hn]
  · cases h
def frS (h b : Int) : Int := IntKind.u64.wrap (IntKind.u64.wrap (IntKind.u64.wrap (h * 1099511628211) + IntKind.u64.wrap b) + 11)
def frH (xs : List Int) (n : Nat) : Int := (xs.take n).foldl frS (IntKind.u64.wrap (9341 + IntKind.u64.wrap xs.length))
theorem frH_succ {xs : List Int} {n : Nat} (h : n < xs.length) : frH xs (n + 1) = frS (frH xs n) (xs.getD n 0) := by
  rw [frH, List.take_succ_eq_append_getElem h, List.foldl_append, ← frH, List.getD_eq_getElem?_getD, List.getElem?_eq_getElem h]
  rfl
def f0_from (a : List V) : Int := frH (a.map V.toI) a.length
def c_from (f0 : List V → Int) (q : List V → Prop) : Contract := fun
  | [.slc false 5 (.int .u8 0) a0] => some ([q a0], .box 77 (.agg [.slc false 5 (.int .u8 0) a0, .int .i64 0, .int .u64 (f0 a0)]))
  | _ => none
set_option maxHeartbeats 1000000 in
set_option maxRecDepth 100000 in
theorem s_spec_l01From : Sat Try.prog 27 (c_from f0_from IsU) := by
  intro args ps r h hp
  unfold c_from at h
  split at h
  · rename_i a0
    simp only [Option.some.injEq, Prod.mk.injEq] at h
    obtain ⟨rfl, rfl⟩ := h
    have hq : IsU a0 := (alls_cons.1 hp).1
    obtain ⟨n, hn⟩ : ∃ n : Int, n = a0.length := ⟨_, rfl⟩
    obtain ⟨h0, hh0⟩ : ∃ h0 : Int, h0 = IntKind.u64.wrap (9341 + IntKind.u64.wrap n) := ⟨_, rfl⟩
    obtain ⟨xs, hxs, hb, hl⟩ := hq
    have hal : a0.length = xs.length := by rw [hxs, U8, List.length_map]
    refine fnOk_ofI (T := tab) (B := []) (Bi := []) [0, 2, 3, 4] Try.func27 rfl rfl (by kernel_rfl) (Nat.le_of_ble_eq_true rfl) mixed tabOk (by exact bookNil) (by exact bookINil) (by kernel_rfl) ?_
    intro L lp rr hL hr hf hlp
    conv => cbv
    simp only [stdEqs hL, imp_self, true_and, and_true, bif_or, bif_and, Bool.or_eq_true, Bool.or_eq_false_iff, Bool.and_eq_true, Bool.and_eq_false_iff, decide_eq_true_eq, decide_eq_false_iff_not, Bool.not_eq_true', Bool.not_eq_false', beq_iff_eq, beq_eq_false_iff_ne, ne_eq, toNat0, toNat1, ok_int, toI_int, I_frzs, I_length, I_getD, ok_ints, toL_slc, ← hn, ← hh0]
    refine hlp (Int × Int) _ _ _ [0, 3, 4] (fun x => [(0, none, .val (.slc false 5 (.int .u8 0) a0)), (3, none, .val (.box 77 (.agg [.slc false 5 (.int .u8 0) a0, .int .i64 0, .int .u64 x.1]))), (4, none, .val (.int .i64 x.2))])
      (fun x => 0 ≤ x.2 ∧ x.2 ≤ n ∧ x.1 = frH xs x.2.toNat) (fun x => (n - x.2).toNat) ((h0, 0)) (by subst hL; rfl) ?_ ?_
    · refine ⟨by simp, by simp only; omega, ?_⟩
      simp only [frH, hh0, hn, hal]
      rfl
    rintro ⟨hh, i⟩ ⟨i0, i1, hI⟩ hfx ag hag
    simp only at i0 i1 hI
    conv => cbv
    simp only [stdEqs hL, imp_self, true_and, and_true, bif_or, bif_and, Bool.or_eq_true, Bool.or_eq_false_iff, Bool.and_eq_true, Bool.and_eq_false_iff, decide_eq_true_eq, decide_eq_false_iff_not, Bool.not_eq_true', Bool.not_eq_false', beq_iff_eq, beq_eq_false_iff_ne, ne_eq, toNat0, toNat1, ok_int, toI_int, I_frzs, I_length, I_getD, ok_ints, toL_slc, ← hn]
    refine ⟨fun h => ⟨i0, h.1, by rw [hxs, U8_getD]; rfl, ?_⟩, fun h => ?_⟩
    · rw [wrap_id (n := i + 1) (by omega) (by omega)]
      refine hag (_, i + 1) ⟨by simp only; omega, by simp only; omega, ?_⟩ (by simp only; omega)
      simp only
      rw [show (i + 1).toNat = i.toNat + 1 by omega, frH_succ (by omega), ← hI, hxs, U8_getD]
      rfl
    · have hm : (U8 xs).map V.toI = xs := by simp [U8, Function.comp_def, V.toI]
      rw [hr, f0_from, hI, show i.toNat = a0.length by omega, hxs, hm]
  · cases h
end Go.Ax
/-
  Tests of laws with draws: big, likeInts. No conditions but those of the contracts.
-/
set_option linter.all false
namespace Go.Ax
open Go.Proofs
def c_u_b (f : List V → Bool) (q : List V → Prop) : Contract := fun
  | [.slc false 5 (.int .u8 0) a0] => some ([q a0], .bool (f a0))
  | _ => none
def f_big (a : List V) : Bool := decide ((4096 : Int) < a.length)
def q_any (_ : List V) : Prop := True
set_option maxHeartbeats 1000000 in
set_option maxRecDepth 100000 in
theorem s_laws_big : Sat Try.prog 5 (c_u_b f_big q_any) := by
  intro args ps r h hp
  unfold c_u_b at h
  split at h
  · rename_i a0
    simp only [Option.some.injEq, Prod.mk.injEq] at h
    obtain ⟨rfl, rfl⟩ := h
    obtain ⟨n, hn⟩ : ∃ n : Int, n = a0.length := ⟨_, rfl⟩
    refine fnOk_ofI (T := tab) (B := []) (Bi := []) [0, 2] Try.func5 rfl rfl (by kernel_rfl) (Nat.le_of_ble_eq_true rfl) mixed tabOk (by exact bookNil) (by exact bookINil) (by kernel_rfl) ?_
    intro L lp rr hL hr hf hlp
    conv => cbv
    simp only [stdEqs hL, imp_self, true_and, and_true, bif_or, bif_and, Bool.or_eq_true, Bool.or_eq_false_iff, Bool.and_eq_true, Bool.and_eq_false_iff, decide_eq_true_eq, decide_eq_false_iff_not, Bool.not_eq_true', Bool.not_eq_false', beq_iff_eq, beq_eq_false_iff_ne, ne_eq, toNat0, toNat1, ok_int, toI_int, I_frzs, I_length, I_getD, ok_ints, toL_slc, ← hn]
    rw [hr, f_big, ← hn]
  · cases h
def f_like (a b : List V) : Bool := decide (unI a = unI b)
def q_like (a b : List V) : Prop := IsI a ∧ IsI b ∧ a.length ≤ 2147483647
set_option maxHeartbeats 1000000 in
set_option maxRecDepth 100000 in
theorem s_laws_likeInts : Sat Try.prog 24 (c_ll_b f_like q_like) := by
  intro args ps r h hp
  unfold c_ll_b at h
  split at h
  · rename_i a0 a1
    simp only [Option.some.injEq, Prod.mk.injEq] at h
    obtain ⟨rfl, rfl⟩ := h
    obtain ⟨⟨xs, hxs⟩, ⟨ys, hys⟩, hl⟩ : q_like a0 a1 := (alls_cons.1 hp).1
    obtain ⟨n, hn⟩ : ∃ n : Int, n = a0.length := ⟨_, rfl⟩
    obtain ⟨m, hm⟩ : ∃ m : Int, m = a1.length := ⟨_, rfl⟩
    have hxl : a0.length = xs.length := by rw [hxs, I_length]
    have hyl : a1.length = ys.length := by rw [hys, I_length]
    have gx : ∀ k, a0.getD k (.int .i64 0) = .int .i64 (xs.getD k 0) := fun k => by rw [hxs, I_getD]
    have gy : ∀ k, a1.getD k (.int .i64 0) = .int .i64 (ys.getD k 0) := fun k => by rw [hys, I_getD]
    have hf0 : f_like a0 a1 = decide (xs = ys) := by rw [f_like, hxs, hys, unI_I, unI_I]
    refine fnOk_ofI (T := tab) (B := []) (Bi := []) [0, 1, 4, 5] Try.func24 rfl rfl (by kernel_rfl) (Nat.le_of_ble_eq_true rfl) mixed tabOk (by exact bookNil) (by exact bookINil) (by kernel_rfl) ?_
    intro L lp rr hL hr hf hlp
    conv => cbv
    simp only [stdEqs hL, imp_self, true_and, and_true, bif_or, bif_and, Bool.or_eq_true, Bool.or_eq_false_iff, Bool.and_eq_true, Bool.and_eq_false_iff, decide_eq_true_eq, decide_eq_false_iff_not, Bool.not_eq_true', Bool.not_eq_false', beq_iff_eq, beq_eq_false_iff_ne, ne_eq, toNat0, toNat1, ok_int, toI_int, I_frzs, I_length, I_getD, ok_ints, toL_slc, ← hn, ← hm]
    refine ⟨fun h => ?_, fun h => ?_⟩
    · rw [hr, hf0, decide_eq_false (fun e => h (by rw [hn, hm, hxl, hyl, e]))]
    have hlen : xs.length = ys.length := by omega
    refine hlp (Int) _ _ _ [0, 1, 5] (fun x => [(0, none, .val (.slc false 2 (.int .i64 0) a0)), (1, none, .val (.slc false 2 (.int .i64 0) a1)), (5, none, .val (.int .i64 x))])
      (fun x => 0 ≤ x ∧ x ≤ n ∧ xs.take x.toNat = ys.take x.toNat) (fun x => (n - x).toNat) (0) (by subst hL; rfl) ?_ ?_
    · exact ⟨by simp, by omega, rfl⟩
    rintro i ⟨i0, i1, hI⟩ hfx ag hag
    conv => cbv
    simp only [stdEqs hL, imp_self, true_and, and_true, bif_or, bif_and, Bool.or_eq_true, Bool.or_eq_false_iff, Bool.and_eq_true, Bool.and_eq_false_iff, decide_eq_true_eq, decide_eq_false_iff_not, Bool.not_eq_true', Bool.not_eq_false', beq_iff_eq, beq_eq_false_iff_ne, ne_eq, toNat0, toNat1, ok_int, toI_int, I_frzs, I_length, I_getD, ok_ints, toL_slc, ← hn, ← hm, gx, gy]
    refine ⟨fun h2 => ⟨i0, h2, i0, by omega, fun h3 => ?_, fun h3 => ?_⟩, fun h2 => ?_⟩
    · rw [hr, hf0, decide_eq_false (fun e => h3 (by rw [e]))]
    · rw [wrap_id (n := i + 1) (by omega) (by omega)]
      have h4 : i.toNat < xs.length := by omega
      have h5 : i.toNat < ys.length := by omega
      refine hag (i + 1) ⟨by omega, by omega, ?_⟩ (by omega)
      rw [List.getD_eq_getElem?_getD, List.getElem?_eq_getElem h4, List.getD_eq_getElem?_getD, List.getElem?_eq_getElem h5] at h3
      rw [show (i + 1).toNat = i.toNat + 1 by omega, List.take_succ_eq_append_getElem h4, List.take_succ_eq_append_getElem h5, hI]
      exact congrArg (fun z => List.take i.toNat ys ++ [z]) h3
    · have h4 : xs = ys := by rwa [List.take_of_length_le (by omega), List.take_of_length_le (by omega)] at hI
      rw [hr, hf0, decide_eq_true h4]
  · cases h
def c_like_mm (f : List V → List V → Bool) (q : List V → List V → Prop) : Contract := fun
  | [.slc false 24 (.slc false 2 (.int .i64 0) []) a0, .slc false 24 (.slc false 2 (.int .i64 0) []) a1] => some ([q a0 a1], .bool (f a0 a1))
  | _ => none
def f_likes (a b : List V) : Bool := decide (unII a = unII b)
def q_likes (a b : List V) : Prop := (∃ l, a = II false l ∧ l.length ≤ 2147483647 ∧ ∀ r ∈ l, r.length ≤ 2147483647) ∧ ∃ l, b = II false l
end Go.Ax
