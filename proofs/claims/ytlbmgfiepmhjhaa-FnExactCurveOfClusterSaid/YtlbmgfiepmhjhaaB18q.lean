import Derived.Test.YtlbmgfiepmhjhaaB08q
/-
  Proximate points and codes of branches. No conditions but those of the contracts.
-/
set_option linter.all false
namespace Go.Ax
open Go.Proofs

theorem dvGo_at : ∀ (l : List Int) (d : Int) (i : Nat), i < l.length → (dvGo d l).getD i 0 = gcdW (if i = 0 then d else (dvGo d l).getD (i - 1) 0) (l.getD i 0)
  | [], _, i, h => by simp at h
  | t :: l, d, 0, _ => rfl
  | t :: l, d, 1, h => by
    have := dvGo_at l (gcdW d t) 0 (by simpa using h)
    simpa [dvGo] using this
  | t :: l, d, i + 2, h => by
    have := dvGo_at l (gcdW d t) (i + 1) (by simp at h; omega)
    simpa [dvGo] using this
theorem gcdW_nat {a b : Int} (ha : 0 < a) (hb : 0 < b) : gcdW a b = (Nat.gcd a.toNat b.toNat : Int) := by
  rw [gcdW, absW_pos ha, absW_pos hb, gcdGo_eq _ a b (Nat.le_refl _) (by omega) (by omega)]
def ddN (xs : List Int) (i : Nat) : Nat := ((dv xs).getD i 0).toNat
def kkN (xs : List Int) (i : Nat) : Nat := (kkI xs i).toNat
theorem ddN_gcd {xs : List Int} (h : Br xs) {i : Nat} (hi : i + 1 < xs.length) : ddN xs (i + 1) = Nat.gcd (ddN xs i) (xs.getD (i + 1) 0).toNat := by
  have h1 := dvGo_at xs 0 (i + 1) hi
  have h2 := h.dpos i (by omega)
  have h3 := h.low (i + 1) hi
  rw [if_neg (by omega), show i + 1 - 1 = i by omega] at h1
  have h4 : (dv xs).getD (i + 1) 0 = gcdW ((dv xs).getD i 0) (xs.getD (i + 1) 0) := h1
  rw [gcdW_nat (by omega) (by omega)] at h4
  rw [ddN, h4, Int.toNat_natCast, ddN]
theorem ddN_dvd {xs : List Int} (h : Br xs) : ∀ {i : Nat}, i < xs.length → ddN xs i ∣ (xs.getD i 0).toNat
  | 0, _ => by rw [ddN, h.d0]; exact Nat.dvd_refl _
  | i + 1, hi => by rw [ddN_gcd h hi]; exact Nat.gcd_dvd_right _ _
theorem ddN_kk {xs : List Int} (h : Br xs) {i : Nat} (hi : i + 1 < xs.length) : Nat.gcd (ddN xs i) (kkN xs i) = ddN xs (i + 1) := by
  rw [ddN_gcd h hi, kkN, kkI]
  by_cases h0 : i = 0
  · rw [if_pos h0]
    congr 1
    omega
  · rw [if_neg h0]
    obtain ⟨c, hc⟩ := ddN_dvd h (i := i) (by omega)
    have h1 := h.up i hi
    have h2 := h.low i (by omega)
    rw [show (xs.getD (i + 1) 0).toNat = (xs.getD (i + 1) 0 - xs.getD i 0).toNat + ddN xs i * c by omega, Nat.mul_comm (ddN xs i) c, Nat.gcd_add_mul_right_right]
def blk (xs : List Int) (i : Nat) : Nat → List (Nat × Nat)
  | 0 => []
  | n + 1 => (kkN xs i, ddN xs i) :: blk xs (i + 1) n
theorem blk_chain {xs : List Int} (h : Br xs) : ∀ (n i : Nat), i + n + 1 = xs.length → Chain (ddN xs i) (blk xs i n)
  | 0, i, hi => by
    have := h.dlast
    rw [show xs.length - 1 = i by omega] at this
    show ddN xs i = 1
    rw [ddN, this]; rfl
  | n + 1, i, hi => by
    have := h.dpos i (by omega)
    refine ⟨rfl, by rw [ddN]; omega, ?_⟩
    rw [ddN_kk h (by omega)]
    exact blk_chain h n (i + 1) (by omega)
def nat2 (l : List Nat) : List Int := l.map fun (n : Nat) => (n : Int)
theorem blk_seq (xs : List Int) : ∀ (n i : Nat), nat2 (blocks (blk xs i n)) = (List.range' i n).flatMap (runI xs)
  | 0, i => rfl
  | n + 1, i => by
    have := blk_seq xs n (i + 1)
    rw [List.range'_succ, List.flatMap_cons, ← this, blk, blocks, nat2, List.map_append]
    rfl
def mulN (xs : List Int) : List Nat := blocks (blk xs 0 (xs.length - 1))
def mul (xs : List Int) (i : Nat) : Nat := (mulN xs).getD i 1
theorem seqI_mul (xs : List Int) : seqI xs = nat2 (mulN xs) := by
  rw [mulN, blk_seq, seqI, seqP, List.range_eq_range']
theorem seqI_get (xs : List Int) (i : Nat) : (seqI xs).getD i 1 = mul xs i := by
  rw [seqI_mul, nat2, mul, List.getD_eq_getElem?_getD, List.getD_eq_getElem?_getD, List.getElem?_map]
  cases (mulN xs)[i]? <;> rfl
theorem mul_good {xs : List Int} (h : Br xs) : GoodM (mul xs) ∧ mul xs 0 ≤ 64 := by
  have h1 := h.pos
  have hc := blk_chain h (xs.length - 1) 0 (by omega)
  obtain ⟨g1, g2, _⟩ := blocks_good _ _ hc
  refine ⟨goodM_of g1, Nat.le_trans g2 ?_⟩
  have := h.dhi 0 h1
  rw [ddN]; omega
def prx (M : Nat → Nat) (i j : Nat) : Bool := decide (sumM M i (j - i) ≤ M i)
def prs (M : Nat → Nat) (i j : Nat) : List Nat := (List.range (min i j)).filter fun a => prx M a j
def cd (M : Nat → Nat) (i j : Nat) : Int := match prs M (min i (j - 1)) j with
  | [] => 0
  | a :: _ => (j : Int) - a
def c_l_m (f : List V → List V) (q : List V → Prop) : Contract := fun
  | [.slc false 2 (.int .i64 0) a0] => some ([q a0], .slc true 22 (.slc true 2 (.int .i64 0) []) (f a0))
  | _ => none
def codeK (xs : List Int) (k : Nat) : List Int := tab' (fun j => cd (mul xs) (j + 1) (j + 1)) (k - 1)
end Go.Ax
/-
  The greatest number of common points. No conditions but those of the contracts.
-/
set_option linter.all false
namespace Go.Ax
open Go.Proofs

def fstD (X Y : List Int) : Option Nat := (List.range X.length).find? fun t => X.getD t 0 != Y.getD t 0
def gc (xs ys : List Int) : Int × Int := match fstD (codeK xs 201) (codeK ys 201) with
  | some i => ((i : Int) + 1, 0)
  | none => (0, 4)
end Go.Ax
/-
  Common points of two branches: whether they can share c points, their intersection numbers. No conditions but those of the contracts.
-/
set_option linter.all false
namespace Go.Ax
open Go.Proofs

set_option maxHeartbeats 1000000 in
set_option maxRecDepth 100000 in
theorem s_slicesEqual : Sat Try.prog 48 (c_ll_b f0_eqI q_II) := by
  intro args ps r h hp
  unfold c_ll_b at h
  split at h
  · rename_i a0 a1
    simp only [Option.some.injEq, Prod.mk.injEq] at h
    obtain ⟨rfl, rfl⟩ := h
    obtain ⟨⟨xs, hxs⟩, ys, hys⟩ : q_II a0 a1 := (alls_cons.1 hp).1
    have hxl : a0.length = xs.length := by rw [hxs, I_length]
    have hyl : a1.length = ys.length := by rw [hys, I_length]
    have hf0 : f0_eqI a0 a1 = decide (xs = ys) := by rw [f0_eqI, hxs, hys, unI_I, unI_I]
    have gx : ∀ i, a0.getD i (.int .i64 0) = .int .i64 (xs.getD i 0) := fun i => by rw [hxs, I_getD]
    have gy : ∀ i, a1.getD i (.int .i64 0) = .int .i64 (ys.getD i 0) := fun i => by rw [hys, I_getD]
    refine fnOk_ofI (T := tab) (B := []) (Bi := []) [0, 1, 4, 5, 12, 13] Try.func48 rfl rfl (by kernel_rfl) (Nat.le_of_ble_eq_true rfl) mixed tabOk (by exact bookNil) (by exact bookINil) (by kernel_rfl) ?_
    intro L lp rr hL hr hf hlp
    have hlen := hf.1.1
    obtain ⟨n, hn⟩ : ∃ n : Int, n = xs.length := ⟨_, rfl⟩
    conv => cbv
    simp only [stdEqs hL, imp_self, true_and, and_true, bif_or, bif_and, Bool.or_eq_true, Bool.or_eq_false_iff, Bool.and_eq_true, Bool.and_eq_false_iff, decide_eq_true_eq, decide_eq_false_iff_not, Bool.not_eq_true', Bool.not_eq_false', beq_iff_eq, beq_eq_false_iff_ne, ne_eq, toNat0, toNat1, ok_int, toI_int, I_frzs, I_length, I_getD, ok_ints, toL_slc, hxl, hyl]
    refine ⟨fun h => ?_, fun h => ?_⟩
    · rw [hr, hf0, decide_eq_false]
      rintro rfl
      omega
    refine hlp Int _ _ _ [0, 1, 12, 13] (fun x => [(0, none, .val (.slc false 2 (.int .i64 0) a0)), (1, none, .val (.slc false 2 (.int .i64 0) a1)), (12, none, .val (.int .i64 n)), (13, none, .val (.int .i64 x))])
      (fun x => 0 ≤ x ∧ x ≤ xs.length ∧ xs.take x.toNat = ys.take x.toNat) (fun x => (xs.length - x).toNat) 0 (by subst hL; rw [hn, ← hxl]; rfl) (by simp) ?_
    rintro i ⟨i0, i1, hI⟩ hfx ag hag
    conv => cbv
    simp only [stdEqs hL, imp_self, true_and, and_true, bif_or, bif_and, Bool.or_eq_true, Bool.or_eq_false_iff, Bool.and_eq_true, Bool.and_eq_false_iff, decide_eq_true_eq, decide_eq_false_iff_not, Bool.not_eq_true', Bool.not_eq_false', beq_iff_eq, beq_eq_false_iff_ne, ne_eq, toNat0, toNat1, ok_int, toI_int, I_frzs, I_length, I_getD, ok_ints, toL_slc, hxl, hyl, gx, gy]
    refine ⟨fun h2 => ⟨i0, by omega, i0, by omega, fun h4 => ?_, fun h4 => ?_⟩, fun h2 => ?_⟩
    · rw [hr, hf0, decide_eq_false]
      rintro rfl
      exact h4 rfl
    · rw [wrap_id (n := i + 1) (by omega) (by omega)]
      refine hag (i + 1) ⟨by omega, by omega, ?_⟩ (by omega)
      have e1 : i.toNat < xs.length := by omega
      have e2 : i.toNat < ys.length := by omega
      rw [toNat_succ i0, List.take_succ_eq_append_getElem e1, List.take_succ_eq_append_getElem e2, hI]
      simp only [List.getD_eq_getElem?_getD, List.getElem?_eq_getElem e1, List.getElem?_eq_getElem e2, Option.getD_some] at h4
      rw [h4]
    · rw [List.take_of_length_le (by omega), List.take_of_length_le (by omega)] at hI
      rw [hr, hf0, decide_eq_true hI]
  · cases h
def cshL (X Y : List Int) (c : Nat) : Bool := decide (X.take (c - 1) = Y.take (c - 1)) && (X.getD (c - 1) 0 != Y.getD (c - 1) 0 || X.getD (c - 1) 0 == 0)
def shr (xs ys : List Int) (c : Nat) : Bool := cshL (codeK xs 201) (codeK ys 201) c
theorem shr_comm (xs ys : List Int) (c : Nat) : shr xs ys c = shr ys xs c := by
  rw [shr, shr, cshL, cshL]
  by_cases h : (codeK xs 201).getD (c - 1) 0 = (codeK ys 201).getD (c - 1) 0
  · rw [h, decide_eq_decide.2 (eq_comm)]
  · have h' : ¬ (codeK ys 201).getD (c - 1) 0 = (codeK xs 201).getD (c - 1) 0 := fun e => h e.symm
    simp only [bne_iff_ne.2 h, bne_iff_ne.2 h', Bool.true_or, Bool.and_true]
    rw [decide_eq_decide.2 (eq_comm)]
end Go.Ax
