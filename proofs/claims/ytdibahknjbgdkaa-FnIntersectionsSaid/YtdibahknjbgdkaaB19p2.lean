import Derived.Test.YtdibahknjbgdkaaB13p2
import Derived.Test.YtdibahknjbgdkaaB09p2
/-
  Draws of two branches, of numbers of points. No conditions but those of the contracts.
-/
set_option linter.all false
namespace Go.Ax
open Go.Proofs

theorem U8_frzs2 : ∀ xs : List Int, V.frzs (U8 xs) = U8 xs
  | [] => rfl
  | x :: xs => by
    have := U8_frzs2 xs
    simp only [U8] at this
    simp only [U8, List.map_cons, V.frzs, V.frz, this]
def cnF (es : List V) (σ : Int × Int) (most : Int) : Int × Int × Int :=
  if nxv es σ 14 = 0 then (pkv es (nxs es σ 14) [-1, W (most + 1), 1099511627776, -4611686018427387904], pks es (nxs es σ 14) [-1, W (most + 1), 1099511627776, -4611686018427387904])
  else (nxv es (nxs es σ 14) (W (most + 1)), nxs es (nxs es σ 14) (W (most + 1)))
def f_cn (es : List V) (a h m : Int) : Int × Int × Int := cnF es (a, h) m
def ic_cn (f : List V → Int → Int → Int → Int × Int × Int) (q : List V → Int → Int → Int → Prop) : IContract := fun
  | [.box 77 (.agg [.slc false 5 (.int .u8 0) a0, .int .i64 a1, .int .u64 a2]), .int .i64 a3] => some ([q a0 a1 a2 a3], .int .i64 (f a0 a1 a2 a3).1, .box 77 (.agg [.slc false 5 (.int .u8 0) a0, .int .i64 (f a0 a1 a2 a3).2.1, .int .u64 (f a0 a1 a2 a3).2.2]))
  | _ => none
set_option maxHeartbeats 1000000 in
set_option maxRecDepth 100000 in
theorem s_spec_l01Count : SatI Try.prog 49 1000 (ic_cn f_cn q_nx) := by
  intro args ps r y h hp
  unfold ic_cn at h
  split at h
  · rename_i a0 a1 a2 a3
    simp only [Option.some.injEq, Prod.mk.injEq] at h
    obtain ⟨rfl, rfl, rfl⟩ := h
    have hq : q_src a0 a1 a2 := (alls_cons.1 hp).1
    generalize H_f0_nx : f0_nx = F_f0_nx
    generalize H_f1_nx : f1_nx = F_f1_nx
    generalize H_f2_nx : f2_nx = F_f2_nx
    generalize H_q_nx : q_nx = F_q_nx
    generalize H_f0_pk : f0_pk = F_f0_pk
    generalize H_f1_pk : f1_pk = F_f1_pk
    generalize H_f2_pk : f2_pk = F_f2_pk
    generalize H_q_pk : q_pk = F_q_pk
    refine fnIW_of (T := tab) (B := []) (Bi := [(56, 0, false, ic_nx F_f0_nx F_f1_nx F_f2_nx F_q_nx), (57, 0, false, ic_pk F_f0_pk F_f1_pk F_f2_pk F_q_pk)]) 0 [2000002811, 0, 1, 4] Try.func49 rfl rfl (by kernel_rfl) (Nat.le_of_ble_eq_true rfl) mixed tabOk (by subst H_f0_nx H_f1_nx H_f2_nx H_q_nx H_f0_pk H_f1_pk H_f2_pk H_q_pk; exact bookNil) (by subst H_f0_nx H_f1_nx H_f2_nx H_q_nx H_f0_pk H_f1_pk H_f2_pk H_q_pk; exact (bookICons s_spec_l01Next (bookICons s_spec_l01Pick bookINil))) (by kernel_rfl) rfl rfl sh_src rfl ?_
    intro L lp rr yy hL hr hy hf hlp
    conv => cbv
    subst H_f0_nx H_f1_nx H_f2_nx H_q_nx H_f0_pk H_f1_pk H_f2_pk H_q_pk
    simp only [stdEqs hL, imp_self, true_and, and_true, bif_or, bif_and, Bool.or_eq_true, Bool.or_eq_false_iff, Bool.and_eq_true, Bool.and_eq_false_iff, decide_eq_true_eq, decide_eq_false_iff_not, Bool.not_eq_true', Bool.not_eq_false', beq_iff_eq, beq_eq_false_iff_ne, ne_eq, toNat0, toNat1, ok_int, toI_int, I_frzs, I_length, I_getD, ok_ints, toL_slc, true_and]
    have s1 : q_src a0 (f1_nx a0 a1 a2 14) (f2_nx a0 a1 a2 14) := src_nx hq
    have fin : ∀ (l A H : Int), cnF a0 (a1, a2) a3 = (l, A, H) → V.int .i64 l = rr ∧ V.box 77 (V.agg [.slc false 5 (.int .u8 0) a0, .int .i64 A, .int .u64 H]) = yy := by
      intro l A H e
      rw [hr, hy, f_cn, e]
      exact ⟨rfl, rfl⟩
    refine ⟨hq, fun h => ⟨⟨s1, ⟨[-1, W (a3 + 1), 1099511627776, -4611686018427387904], rfl⟩, (by show (1 : Nat) ≤ 4; decide), (by show (4 : Nat) ≤ 2147483647; decide)⟩, ?_⟩, fun h => ⟨s1, ?_⟩⟩
    · have e : cnF a0 (a1, a2) a3 = (pkv a0 (nxs a0 (a1, a2) 14) [-1, W (a3 + 1), 1099511627776, -4611686018427387904], pks a0 (nxs a0 (a1, a2) 14) [-1, W (a3 + 1), 1099511627776, -4611686018427387904]) := if_pos h
      exact fin _ _ _ e
    · have e : cnF a0 (a1, a2) a3 = (nxv a0 (nxs a0 (a1, a2) 14) (W (a3 + 1)), nxs a0 (nxs a0 (a1, a2) 14) (W (a3 + 1))) := if_neg h
      exact fin _ _ _ e
  · cases h

def twB (es : List V) (A : List Int) (σ : Int × Int) : List Int := A.set (A.length - 1) (W (W (A.getD (A.length - 1) 0 + 1) + nxv es σ 3))
def twS (es : List V) (A : List Int) (τ : Int × Int) : List Int × List Int × Int × Int := (A, (spF es τ.1 τ.2).1, (spF es τ.1 τ.2).2)
def twG (es : List V) (A : List Int) (v : Int) (σ : Int × Int) : List Int × List Int × Int × Int :=
  if v = 0 then (A, A, σ)
  else if v = 1 then (if isBr A = true then (A, cut A (nxv es σ A.length), nxs es σ A.length) else twS es A σ)
  else if v = 2 then (if 1 < A.length then (if isBr (twB es A σ) = true then (A, twB es A σ, nxs es σ 3) else twS es A (nxs es σ 3)) else twS es A σ)
  else twS es A σ
def twF (es : List V) (a h : Int) : List Int × List Int × Int × Int := twG es (spF es a h).1 (nxv es (spF es a h).2 4) (nxs es (spF es a h).2 4)
theorem twG_src {es : List V} {A : List Int} {v : Int} {σ : Int × Int} (h3 : q_src es σ.1 σ.2) (h2 : A.length ≤ 5) : q_src es (twG es A v σ).2.2.1 (twG es A v σ).2.2.2 ∧ (twG es A v σ).1.length ≤ 5 ∧ (twG es A v σ).2.1.length ≤ 5 := by
  have sp : ∀ τ : Int × Int, q_src es τ.1 τ.2 → q_src es (twS es A τ).2.2.1 (twS es A τ).2.2.2 ∧ (twS es A τ).1.length ≤ 5 ∧ (twS es A τ).2.1.length ≤ 5 := fun τ hτ => ⟨(spF_src hτ).1, h2, (spF_src hτ).2⟩
  by_cases v0 : v = 0
  · rw [twG, if_pos v0]; exact ⟨h3, h2, h2⟩
  by_cases v1 : v = 1
  · by_cases hb : isBr A = true
    · rw [twG, if_neg v0, if_pos v1, if_pos hb]
      refine ⟨src_nxs h3, h2, ?_⟩
      simp only [cut, List.length_map, List.length_take]
      omega
    · rw [twG, if_neg v0, if_pos v1, if_neg hb]; exact sp _ h3
  by_cases v2 : v = 2
  · by_cases hn : 1 < A.length
    · by_cases hb : isBr (twB es A σ) = true
      · rw [twG, if_neg v0, if_neg v1, if_pos v2, if_pos hn, if_pos hb]
        exact ⟨src_nxs h3, h2, by simp only [twB, List.length_set]; exact h2⟩
      · rw [twG, if_neg v0, if_neg v1, if_pos v2, if_pos hn, if_neg hb]; exact sp _ (src_nxs h3)
    · rw [twG, if_neg v0, if_neg v1, if_pos v2, if_neg hn]; exact sp _ h3
  · rw [twG, if_neg v0, if_neg v1, if_neg v2]; exact sp _ h3
theorem twF_src {es : List V} {a h : Int} (hq : q_src es a h) : q_src es (twF es a h).2.2.1 (twF es a h).2.2.2 ∧ (twF es a h).1.length ≤ 5 ∧ (twF es a h).2.1.length ≤ 5 := by
  obtain ⟨h1, h2⟩ := spF_src hq
  exact twG_src (src_nxs (σ := (spF es a h).2) (n := 4) h1) h2
def f_tw (es : List V) (a h : Int) : List V × List V × Int × Int := (I (twF es a h).1, I (twF es a h).2.1, (twF es a h).2.2)
def ic_tw (f : List V → Int → Int → List V × List V × Int × Int) (q : List V → Int → Int → Prop) : IContract := fun
  | [.box 77 (.agg [.slc false 5 (.int .u8 0) a0, .int .i64 a1, .int .u64 a2])] => some ([q a0 a1 a2], .tup [.agg [.slc false 2 (.int .i64 0) (f a0 a1 a2).1], .agg [.slc false 2 (.int .i64 0) (f a0 a1 a2).2.1]], .box 77 (.agg [.slc false 5 (.int .u8 0) a0, .int .i64 (f a0 a1 a2).2.2.1, .int .u64 (f a0 a1 a2).2.2.2]))
  | _ => none
set_option maxHeartbeats 1000000 in
set_option maxRecDepth 100000 in
theorem s_spec_l10Two : SatI Try.prog 47 1000 (ic_tw f_tw q_src) := by
  intro args ps r y h hp
  unfold ic_tw at h
  split at h
  · rename_i a0 a1 a2
    simp only [Option.some.injEq, Prod.mk.injEq] at h
    obtain ⟨rfl, rfl, rfl⟩ := h
    have hq : q_src a0 a1 a2 := (alls_cons.1 hp).1
    generalize H_f0_nx : f0_nx = F_f0_nx
    generalize H_f1_nx : f1_nx = F_f1_nx
    generalize H_f2_nx : f2_nx = F_f2_nx
    generalize H_q_nx : q_nx = F_q_nx
    generalize H_f_sp : f_sp = F_f_sp
    generalize H_q_src : q_src = F_q_src
    generalize H_same : same = F_same
    generalize H_IsIs : IsIs = F_IsIs
    generalize H_f0_isBr : f0_isBr = F_f0_isBr
    generalize H_f0_cut : f0_cut = F_f0_cut
    generalize H_q_cut : q_cut = F_q_cut
    refine fnIF_of (T := tab) (B := [(74, c_b_b F_same F_IsIs), (32, c_b_bool F_f0_isBr F_IsIs), (54, c_bi_b F_f0_cut F_q_cut)]) (Bi := [(56, 0, false, ic_nx F_f0_nx F_f1_nx F_f2_nx F_q_nx), (26, 1000, false, ic_sp F_f_sp F_q_src)]) 0 [1000014005, 2000007800, 2000007820, 2000007821, 2000007826, 2000007995, 2000012800, 2000012837, 2000012838, 2000012839, 2000012840, 2000012841, 2000012842, 2000012843, 2000012844, 2000012845, 2000012846, 2000012847, 2000012849, 2000012995, 2000014802, 2000014803, 2000014855, 2000014998, 2000015800, 2000015856, 2000015858, 2000015995, 0, 2, 3, 4, 5, 6, 10] Try.func47 rfl rfl (by kernel_rfl) (Nat.le_of_ble_eq_true rfl) mixed tabOk (by subst H_f0_nx H_f1_nx H_f2_nx H_q_nx H_f_sp H_q_src H_same H_IsIs H_f0_isBr H_f0_cut H_q_cut; exact (bookCons s_spec_l09Own (bookCons s_spec_l03Is (bookCons s_spec_l03Cut bookNil)))) (by subst H_f0_nx H_f1_nx H_f2_nx H_q_nx H_f_sp H_q_src H_same H_IsIs H_f0_isBr H_f0_cut H_q_cut; exact (bookICons s_spec_l01Next (bookICons s_spec_l03Spoil bookINil))) (by kernel_rfl) rfl rfl sh_src rfl ?_
    intro L lp rr yy hL hr hy hf hlp
    conv => cbv
    subst H_f0_nx H_f1_nx H_f2_nx H_q_nx H_f_sp H_q_src H_same H_IsIs H_f0_isBr H_f0_cut H_q_cut
    obtain ⟨S, hS⟩ : ∃ S, S = spF a0 a1 a2 := ⟨_, rfl⟩
    have hS2 := spF_src hq
    rw [← hS] at hS2
    obtain ⟨A, A2, H2⟩ := S
    simp only at hS2
    have Es : f_sp a0 a1 a2 = (I A, A2, H2) := by rw [f_sp, ← hS]
    have Ef : ∀ a h, f_sp a0 a h = (I (spF a0 a h).1, (spF a0 a h).2) := fun _ _ => rfl
    have hT : ∀ z, twG a0 A (f0_nx a0 A2 H2 4) (f1_nx a0 A2 H2 4, f2_nx a0 A2 H2 4) = z → twF a0 a1 a2 = z := fun z hz => by rw [twF, ← hS]; exact hz
    have Eb : ∀ l : List Int, f0_isBr (I l) = isBr l := fun l => by rw [f0_isBr, unI_I]
    have Ec : ∀ (l : List Int) (k : Int), f0_cut (I l) k = I (cut l k) := fun l k => by rw [f0_cut, unI_I]
    have s1 : q_src a0 A2 H2 := hS2.1
    have s2 : q_src a0 (f1_nx a0 A2 H2 4) (f2_nx a0 A2 H2 4) := src_nx s1
    have al := hS2.2
    have fin : ∀ (l1 l2 : List Int) (τ : Int × Int), twF a0 a1 a2 = (l1, l2, τ) → V.tup [V.agg [V.slc false 2 (.int .i64 0) (I l1)], V.agg [V.slc false 2 (.int .i64 0) (I l2)]] = rr ∧ V.box 77 (V.agg [.slc false 5 (.int .u8 0) a0, .int .i64 τ.1, .int .u64 τ.2]) = yy := by
      intro l1 l2 τ e
      rw [hr, hy, f_tw, e]
      exact ⟨rfl, rfl⟩
    simp only [stdEqs hL, imp_self, true_and, and_true, bif_or, bif_and, Bool.or_eq_true, Bool.or_eq_false_iff, Bool.and_eq_true, Bool.and_eq_false_iff, decide_eq_true_eq, decide_eq_false_iff_not, Bool.not_eq_true', Bool.not_eq_false', beq_iff_eq, beq_eq_false_iff_ne, ne_eq, toNat0, toNat1, ok_int, toI_int, I_frzs, I_length, I_getD, ok_ints, toL_slc, true_and, Es, Ef, same, I_frzs, Eb, Ec]
    generalize hv : f0_nx a0 A2 H2 4 = v at hT ⊢
    generalize hA3 : f1_nx a0 A2 H2 4 = A3 at hT s2 ⊢
    generalize hH3 : f2_nx a0 A2 H2 4 = H3 at hT s2 ⊢
    have isA : IsIs (I A) := ⟨⟨A, rfl⟩, by rw [I_length]; omega⟩
    refine ⟨hq, s1, fun v0 => ⟨isA, ?_⟩, fun v0 => ⟨fun v1 => ⟨isA, fun hb => ?_, fun hb => ?_⟩, fun v1 => ⟨fun v2 => ⟨isA, fun hn => ?_, fun hn => ?_⟩, fun v2 => ⟨s2, ?_⟩⟩⟩⟩
    · exact fin _ _ (A3, H3) (hT _ (if_pos v0))
    · have hB := br_of hb
      have hk := f0_nx_in (n := A.length) s2 (by have := hB.pos; omega)
      refine ⟨s2, ⟨IsBr.isP ⟨A, rfl, hB⟩, hk.1, by rw [I_length]; exact hk.2, ?_⟩, ?_⟩
      · rw [unI_I]
        have := hB.dpos (f0_nx a0 A3 H3 A.length).toNat (by omega)
        omega
      · exact fin _ _ (nxs a0 (A3, H3) A.length) (hT _ ((if_neg v0).trans ((if_pos v1).trans (if_pos hb))))
    · exact ⟨s2, fin _ _ (spF a0 A3 H3).2 (hT _ ((if_neg v0).trans ((if_pos v1).trans (if_neg (by rw [hb]; decide)))))⟩
    · have hn' : 1 < A.length := by omega
      have w1 : IntKind.wrap .i64 ((A.length : Int) - 1) = (A.length : Int) - 1 := wrap_id (by omega) (by omega)
      have e1 : ((A.length : Int) - 1).toNat = A.length - 1 := by omega
      have eB : V.frzs ((I A).set (A.length - 1) (V.int .i64 (W (W (A.getD (A.length - 1) 0 + 1) + f0_nx a0 A3 H3 3)))) = I (twB a0 A (A3, H3)) := by rw [I_set, I_frzs]; rfl
      have isB : IsIs (I (twB a0 A (A3, H3))) := ⟨⟨_, rfl⟩, by rw [I_length, twB, List.length_set]; omega⟩
      simp only [w1, e1, eB, Eb, I_frzs]
      refine ⟨by omega, by omega, by omega, s2, by omega, by omega, by omega, isB, fun hb => ?_, fun hb => ⟨src_nx s2, ?_⟩⟩
      · exact fin _ _ (nxs a0 (A3, H3) 3) (hT _ ((if_neg v0).trans ((if_neg v1).trans ((if_pos v2).trans ((if_pos hn').trans (if_pos hb))))))
      · exact fin _ _ (spF a0 (f1_nx a0 A3 H3 3) (f2_nx a0 A3 H3 3)).2 (hT _ ((if_neg v0).trans ((if_neg v1).trans ((if_pos v2).trans ((if_pos hn').trans (if_neg (by rw [hb]; decide)))))))
    · exact ⟨s2, fin _ _ (spF a0 A3 H3).2 (hT _ ((if_neg v0).trans ((if_neg v1).trans ((if_pos v2).trans (if_neg (by omega))))))⟩
    · exact fin _ _ (spF a0 A3 H3).2 (hT _ ((if_neg v0).trans ((if_neg v1).trans (if_neg v2))))
  · cases h

def prF (es : List V) (h : Int) : List Int × List Int × Int :=
  let s := twF es 0 h
  let σ1 := nxs es s.2.2 4
  let σ2 := nxs es σ1 10
  let σ3 := nxs es σ2 40
  let l := [W (1 + nxv es s.2.2 4), W (1 + nxv es σ1 10), W (1 + nxv es σ2 40), 200, 201, 0]
  let σ4 := pks es σ3 l
  let c := pkv es σ3 l
  (s.1, s.2.1, if ((isBr s.1 = true ∧ isBr s.2.1 = true) ∧ nxv es σ4 3 = 0) ∧ 0 < grt s.1 s.2.1 then grt s.1 s.2.1 else c)
def c_u_AAi (f : List V → List V × List V × Int) (q : List V → Prop) : Contract := fun
  | [.slc false 5 (.int .u8 0) a0] => some ([q a0], .tup [.agg [.slc false 2 (.int .i64 0) ((f a0).1)], .agg [.slc false 2 (.int .i64 0) ((f a0).2.1)], .int .i64 ((f a0).2.2)])
  | _ => none
def f_pr (a : List V) : List V × List V × Int := (I (prF a (f0_from a)).1, I (prF a (f0_from a)).2.1, (prF a (f0_from a)).2.2)
set_option maxHeartbeats 1000000 in
set_option maxRecDepth 100000 in
theorem s_spec_l10Pair : Sat Try.prog 36 (c_u_AAi f_pr IsU) := by
  intro args ps r h hp
  unfold c_u_AAi at h
  split at h
  · rename_i a0
    simp only [Option.some.injEq, Prod.mk.injEq] at h
    obtain ⟨rfl, rfl⟩ := h
    have hq : IsU a0 := (alls_cons.1 hp).1
    have hfr : V.frzs a0 = a0 := by
      obtain ⟨xs, hxs, _⟩ := hq
      rw [hxs, U8_frzs2]
    generalize H_f0_from : f0_from = F_f0_from
    generalize H_IsU : IsU = F_IsU
    generalize H_f0_nx : f0_nx = F_f0_nx
    generalize H_f1_nx : f1_nx = F_f1_nx
    generalize H_f2_nx : f2_nx = F_f2_nx
    generalize H_q_nx : q_nx = F_q_nx
    generalize H_f0_pk : f0_pk = F_f0_pk
    generalize H_f1_pk : f1_pk = F_f1_pk
    generalize H_f2_pk : f2_pk = F_f2_pk
    generalize H_q_pk : q_pk = F_q_pk
    generalize H_f_tw : f_tw = F_f_tw
    generalize H_q_src : q_src = F_q_src
    generalize H_f0_isBr : f0_isBr = F_f0_isBr
    generalize H_IsIs : IsIs = F_IsIs
    generalize H_f_grt : f_grt = F_f_grt
    generalize H_q_BB : q_BB = F_q_BB
    refine fnOk_ofF (T := tab) (B := [(27, c_from F_f0_from F_IsU), (32, c_b_bool F_f0_isBr F_IsIs), (48, c_BB_i F_f_grt F_q_BB)]) (Bi := [(56, 0, false, ic_nx F_f0_nx F_f1_nx F_f2_nx F_q_nx), (57, 0, false, ic_pk F_f0_pk F_f1_pk F_f2_pk F_q_pk), (47, 1000, false, ic_tw F_f_tw F_q_src)]) [2000003827, 2000008802, 2000008803, 2000008847, 2000008998, 3000008002, 0, 2, 3, 4, 5, 6, 7, 8, 9] Try.func36 rfl rfl (by kernel_rfl) (Nat.le_of_ble_eq_true rfl) mixed tabOk (by subst H_f0_from H_IsU H_f0_nx H_f1_nx H_f2_nx H_q_nx H_f0_pk H_f1_pk H_f2_pk H_q_pk H_f_tw H_q_src H_f0_isBr H_IsIs H_f_grt H_q_BB; exact (bookCons s_spec_l01From (bookCons s_spec_l03Is (bookCons s_spec_l10Greatest bookNil)))) (by subst H_f0_from H_IsU H_f0_nx H_f1_nx H_f2_nx H_q_nx H_f0_pk H_f1_pk H_f2_pk H_q_pk H_f_tw H_q_src H_f0_isBr H_IsIs H_f_grt H_q_BB; exact (bookICons s_spec_l01Next (bookICons s_spec_l01Pick (bookICons s_spec_l10Two bookINil)))) (by kernel_rfl) ?_
    intro L lp rr hL hr hf hlp
    conv => cbv
    subst H_f0_nx H_f1_nx H_f2_nx H_q_nx H_f0_pk H_f1_pk H_f2_pk H_q_pk H_f_tw H_q_src H_IsIs H_f0_isBr H_f0_from H_IsU H_f_grt H_q_BB
    obtain ⟨T, hT⟩ : ∃ T, T = twF a0 0 (f0_from a0) := ⟨_, rfl⟩
    have q0 : q_src a0 0 (f0_from a0) := ⟨hq, Int.le_refl _, Int.natCast_nonneg _⟩
    have hT2 := twF_src q0
    rw [← hT] at hT2
    obtain ⟨A, B, A2, H2⟩ := T
    simp only at hT2
    obtain ⟨s2, al, bl⟩ := hT2
    have Et : f_tw a0 0 (f0_from a0) = (I A, I B, A2, H2) := by rw [f_tw, ← hT]
    have Eb : ∀ l : List Int, f0_isBr (I l) = isBr l := fun l => by rw [f0_isBr, unI_I]
    have Eg : f_grt (I A) (I B) = grt A B := by rw [f_grt, unI_I, unI_I]
    have isA : IsIs (I A) := ⟨⟨A, rfl⟩, by rw [I_length]; omega⟩
    have isB : IsIs (I B) := ⟨⟨B, rfl⟩, by rw [I_length]; omega⟩
    have s3 : q_src a0 (f1_nx a0 A2 H2 4) (f2_nx a0 A2 H2 4) := src_nx s2
    have hPr : prF a0 (f0_from a0) = (A, B, if ((isBr A = true ∧ isBr B = true) ∧ nxv a0 (pks a0 (nxs a0 (nxs a0 (nxs a0 (A2, H2) 4) 10) 40) [W (1 + nxv a0 (A2, H2) 4), W (1 + nxv a0 (nxs a0 (A2, H2) 4) 10), W (1 + nxv a0 (nxs a0 (nxs a0 (A2, H2) 4) 10) 40), 200, 201, 0]) 3 = 0) ∧ 0 < grt A B then grt A B
        else pkv a0 (nxs a0 (nxs a0 (nxs a0 (A2, H2) 4) 10) 40) [W (1 + nxv a0 (A2, H2) 4), W (1 + nxv a0 (nxs a0 (A2, H2) 4) 10), W (1 + nxv a0 (nxs a0 (nxs a0 (A2, H2) 4) 10) 40), 200, 201, 0]) := by
      simp only [prF, ← hT]
    have hrr : ∀ c, prF a0 (f0_from a0) = (A, B, c) → V.tup [V.agg [V.slc false 2 (.int .i64 0) (I A)], V.agg [V.slc false 2 (.int .i64 0) (I B)], V.int .i64 c] = rr := by
      intro c e
      rw [hr, f_pr, e]
    simp only [nxv, nxs, pks, pkv] at hPr
    simp only [stdEqs hL, imp_self, true_and, and_true, bif_or, bif_and, Bool.or_eq_true, Bool.or_eq_false_iff, Bool.and_eq_true, Bool.and_eq_false_iff, decide_eq_true_eq, decide_eq_false_iff_not, Bool.not_eq_true', Bool.not_eq_false', beq_iff_eq, beq_eq_false_iff_ne, ne_eq, toNat0, toNat1, ok_int, toI_int, I_frzs, I_length, I_getD, ok_ints, toL_slc, true_and, hfr, Et, I_frzs, Eb]
    generalize hv1 : f0_nx a0 A2 H2 4 = v1 at hPr ⊢
    generalize hA3 : f1_nx a0 A2 H2 4 = A3 at hPr s3 ⊢
    generalize hH3 : f2_nx a0 A2 H2 4 = H3 at hPr s3 ⊢
    have s4 : q_src a0 (f1_nx a0 A3 H3 10) (f2_nx a0 A3 H3 10) := src_nx s3
    generalize hv2 : f0_nx a0 A3 H3 10 = v2 at hPr ⊢
    generalize hA4 : f1_nx a0 A3 H3 10 = A4 at hPr s4 ⊢
    generalize hH4 : f2_nx a0 A3 H3 10 = H4 at hPr s4 ⊢
    have s5 : q_src a0 (f1_nx a0 A4 H4 40) (f2_nx a0 A4 H4 40) := src_nx s4
    generalize hv3 : f0_nx a0 A4 H4 40 = v3 at hPr ⊢
    generalize hA5 : f1_nx a0 A4 H4 40 = A5 at hPr s5 ⊢
    generalize hH5 : f2_nx a0 A4 H4 40 = H5 at hPr s5 ⊢
    obtain ⟨l, hl⟩ : ∃ l : List Int, l = [W (1 + v1), W (1 + v2), W (1 + v3), 200, 201, 0] := ⟨_, rfl⟩
    have hl6 : l.length = 6 := by rw [hl]; rfl
    have eL : V.frzs (V.frzs [V.int .i64 (IntKind.wrap .i64 (1 + v1)), V.int .i64 (IntKind.wrap .i64 (1 + v2)), V.int .i64 (IntKind.wrap .i64 (1 + v3)), V.int .i64 200, V.int .i64 201, V.int .i64 0]) = I l := by rw [hl]; rfl
    rw [← hl] at hPr
    have qp : q_pk a0 A5 H5 (I l) := ⟨s5, ⟨l, rfl⟩, by rw [I_length, hl6]; decide, by rw [I_length, hl6]; decide⟩
    have s6 : q_src a0 (f1_pk a0 A5 H5 (I l)) (f2_pk a0 A5 H5 (I l)) := src_nx s5
    simp only [eL]
    generalize hc : f0_pk a0 A5 H5 (I l) = c at hPr ⊢
    generalize hA6 : f1_pk a0 A5 H5 (I l) = A6 at hPr s6 ⊢
    generalize hH6 : f2_pk a0 A5 H5 (I l) = H6 at hPr s6 ⊢
    generalize hv6 : f0_nx a0 A6 H6 3 = v6 at hPr ⊢
    simp only [Eg]
    refine ⟨hq, q0, s2, s3, s4, qp, isA, fun _ => isB, fun hb => ⟨hb, s6, ?_⟩, fun hb => ⟨fun h => ?_, fun h => ?_⟩⟩
    · refine ⟨fun h => ⟨⟨⟨A, rfl, br_of hb.1⟩, B, rfl, br_of hb.2⟩, fun h2 => hrr _ ?_, fun h2 => hrr _ ?_⟩, fun h => hrr _ ?_⟩
      · rw [hPr, if_pos ⟨h, h2⟩]
      · rw [hPr, if_neg (fun h3 => h2 h3.2)]
      · rw [hPr, if_neg (fun h3 => ?_)]
        rcases h with (h | h) | h
        · rw [h] at hb; cases hb.1
        · rw [h] at hb; cases hb.2
        · exact h h3.1.2
    · exfalso
      rcases hb with hb | hb
      · rw [hb] at h; cases h.1.1
      · rw [hb] at h; cases h.1.2
    · refine hrr _ ?_
      rw [hPr, if_neg (fun h3 => ?_)]
      rcases hb with hb | hb
      · rw [hb] at h3; cases h3.1.1.1
      · rw [hb] at h3; cases h3.1.1.2
  · cases h
end Go.Ax
