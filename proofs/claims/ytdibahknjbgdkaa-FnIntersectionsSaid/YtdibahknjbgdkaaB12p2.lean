import Derived.Test.YtdibahknjbgdkaaB11p2
/-
  Draws: small branches. No conditions but those of the contracts.
-/
set_option linter.all false
namespace Go.Ax
open Go.Proofs

def cpU (o : Int) : Nat → Int → Int
  | 0, c => c
  | k + 1, c => if gcdW c o > 1 then cpU o k (c + 1) else c
def cpT (c o : Int) : Int := c + (1 - c) % o
def cpo (c o : Int) : Int := cpU o ((cpT c o - c).toNat + 1) c
theorem cpT_le {c o : Int} (ho : 2 ≤ o) : c ≤ cpT c o ∧ cpT c o < c + o := by
  have h1 := Int.emod_nonneg (1 - c) (show o ≠ 0 by omega)
  have h2 := Int.emod_lt_of_pos (1 - c) (show 0 < o by omega)
  rw [cpT]; omega
theorem cpT_gcd {c o : Int} (hc : 1 ≤ c) (ho : 2 ≤ o) : gcdW (cpT c o) o = 1 := by
  have h0 := (cpT_le (c := c) ho).1
  have h1 : cpT c o % o = 1 := by
    rw [cpT, Int.add_emod, Int.emod_emod, ← Int.add_emod, show c + (1 - c) = 1 by omega, Int.emod_eq_of_lt (by omega) (by omega)]
  rw [gcdW_nat (by omega) (by omega)]
  obtain ⟨t, ht⟩ : ∃ t : Nat, cpT c o = t := ⟨(cpT c o).toNat, by omega⟩
  obtain ⟨p, hp⟩ : ∃ p : Nat, o = p := ⟨o.toNat, by omega⟩
  rw [ht, hp] at h1
  rw [ht, hp, Int.toNat_natCast, Int.toNat_natCast, Nat.gcd_comm, Nat.gcd_rec]
  have : t % p = 1 := by exact_mod_cast h1
  rw [this, Nat.gcd_one_left]
  rfl
theorem cpU_le (o : Int) : ∀ (k : Nat) (c : Int), c ≤ cpU o k c ∧ cpU o k c ≤ c + k
  | 0, c => by simp [cpU]
  | k + 1, c => by
    have := cpU_le o k (c + 1)
    simp only [cpU]
    split <;> omega
theorem cpo_le {c o : Int} (ho : 2 ≤ o) : c ≤ cpo c o ∧ cpo c o ≤ c + o := by
  have h1 := cpU_le o ((cpT c o - c).toNat + 1) c
  have h2 := cpT_le (c := c) ho
  rw [cpo]; omega

abbrev nxv (es : List V) (σ : Int × Int) (n : Int) : Int := f0_nx es σ.1 σ.2 n
abbrev nxs (es : List V) (σ : Int × Int) (n : Int) : Int × Int := (f1_nx es σ.1 σ.2 n, f2_nx es σ.1 σ.2 n)
abbrev pkv (es : List V) (σ : Int × Int) (l : List Int) : Int := f0_pk es σ.1 σ.2 (I l)
abbrev pks (es : List V) (σ : Int × Int) (l : List Int) : Int × Int := (f1_pk es σ.1 σ.2 (I l), f2_pk es σ.1 σ.2 (I l))
theorem nxv_in {es : List V} {σ : Int × Int} {n : Int} (hq : q_src es σ.1 σ.2) (hn : 1 ≤ n) : 0 ≤ nxv es σ n ∧ nxv es σ n < n := f0_nx_in hq hn
theorem src_nxs {es : List V} {σ : Int × Int} {n : Int} (hq : q_src es σ.1 σ.2) : q_src es (nxs es σ n).1 (nxs es σ n).2 := src_nx hq
theorem src_pks {es : List V} {σ : Int × Int} {l : List Int} (hq : q_src es σ.1 σ.2) : q_src es (pks es σ l).1 (pks es σ l).2 := src_nx hq
theorem pkv_in {es : List V} {σ : Int × Int} {l : List Int} (hq : q_src es σ.1 σ.2) (hl : l ≠ []) : pkv es σ l ∈ l := by
  have h1 : 1 ≤ (l.length : Int) := by
    cases l with
    | nil => exact absurd rfl hl
    | cons x l => simp only [List.length_cons]; omega
  have h2 := f0_nx_in (n := (I l).length) hq (by rw [I_length]; exact h1)
  rw [pkv, f0_pk, unI_I]
  rw [I_length] at h2 ⊢
  have h3 : (f0_nx es σ.1 σ.2 l.length).toNat < l.length := by omega
  rw [List.getD_eq_getElem?_getD, List.getElem?_eq_getElem h3]
  exact List.getElem_mem h3

abbrev SmS : Type := List (List Int) × Int × Int × Int
def smR (es : List V) (most : Int) (s : SmS) : SmS :=
  let σ0 := (s.2.2.1, s.2.2.2)
  let own := 2 + nxv es σ0 4
  let σ1 := nxs es σ0 4
  if most < s.2.1 * own then (s.1, s.2.1, σ1) else
  let m := pkv es σ1 [4, 8, 12]
  let σ2 := pks es σ1 [4, 8, 12]
  let c0 := 1 + nxv es σ2 m
  let σ3 := nxs es σ2 m
  let c1 := cpo c0 own
  let c2 := if s.1.length = 0 then cpo (c1 + own) own else c1
  (s.1 ++ [[c2, own]], s.2.1 * own, σ3)
def smN (es : List V) (most : Int) : Nat → SmS → SmS
  | 0, s => s
  | k + 1, s => smN es most k (smR es most s)
structure SmOk (es : List V) (most : Int) (s : SmS) (k : Nat) : Prop where
  len : s.1.length + k ≤ 3
  two : ∀ p ∈ s.1, ∃ c o, p = [c, o] ∧ 1 ≤ c ∧ c ≤ 100 ∧ 2 ≤ o ∧ o ≤ 5
  pr : prd s.1 = s.2.1
  n1 : 1 ≤ s.2.1
  n2 : s.2.1 ≤ most
  src : q_src es s.2.2.1 s.2.2.2
theorem prd_snoc (l : List (List Int)) (c o : Int) : prd (l ++ [[c, o]]) = prd l * o := by
  rw [prd_append]
  simp [prd]
theorem SmOk.round {es : List V} {most : Int} {s : SmS} {k : Nat} (h : SmOk es most s (k + 1)) : SmOk es most (smR es most s) k := by
  obtain ⟨ps, n, a, b⟩ := s
  obtain ⟨h1, h2, h3, h4, h5, h6⟩ := h
  simp only at h1 h2 h3 h4 h5 h6
  have ho := nxv_in (σ := (a, b)) (n := 4) h6 (by decide)
  have hs := src_nxs (σ := (a, b)) (n := 4) h6
  unfold smR
  simp only
  split
  · exact ⟨by simp only; omega, h2, h3, h4, h5, hs⟩
  · rename_i hm
    have hs2 := src_pks (σ := nxs es (a, b) 4) (l := [4, 8, 12]) hs
    have hp := pkv_in (σ := nxs es (a, b) 4) (l := [4, 8, 12]) hs (by simp)
    obtain ⟨m, hmm⟩ : ∃ m, m = pkv es (nxs es (a, b) 4) [4, 8, 12] := ⟨_, rfl⟩
    rw [← hmm] at hp ⊢
    have hm2 : 1 ≤ m ∧ m ≤ 12 := by simp at hp; omega
    have hc := nxv_in (σ := pks es (nxs es (a, b) 4) [4, 8, 12]) (n := m) hs2 (by omega)
    have hs3 := src_nxs (σ := pks es (nxs es (a, b) 4) [4, 8, 12]) (n := m) hs2
    obtain ⟨o, hoo⟩ : ∃ o, o = 2 + nxv es (a, b) 4 := ⟨_, rfl⟩
    obtain ⟨c0, hc0⟩ : ∃ c0, c0 = 1 + nxv es (pks es (nxs es (a, b) 4) [4, 8, 12]) m := ⟨_, rfl⟩
    rw [← hoo] at hm ⊢
    rw [← hc0]
    have l1 := cpo_le (c := c0) (o := o) (by omega)
    have l2 := cpo_le (c := cpo c0 o + o) (o := o) (by omega)
    have hno : 1 * 1 ≤ n * o := Int.mul_le_mul (by omega) (by omega) (by omega) (by omega)
    refine ⟨by simp only [List.length_append, List.length_cons, List.length_nil]; omega, fun p hp => ?_, by simp only; rw [prd_snoc, h3], by simp only; omega, by simp only; omega, hs3⟩
    rcases List.mem_append.1 hp with hp | hp
    · exact h2 p hp
    · simp only [List.mem_singleton] at hp
      refine ⟨_, _, hp, ?_⟩
      split <;> omega
theorem SmOk.run {es : List V} {most : Int} : ∀ {k : Nat} {s : SmS}, SmOk es most s k → SmOk es most (smN es most k s) 0
  | 0, _, h => h
  | k + 1, _, h => h.round.run
theorem SmOk.prs {es : List V} {most : Int} {s : SmS} {k : Nat} (h : SmOk es most s k) (hm : most ≤ 64) : Prs s.1 := ⟨by have := h.len; omega, h.two, by have := h.pr; have := h.n2; omega⟩

abbrev smPk (es : List V) (σ : Int × Int) : List Int × Int × Int := ([pkv es σ [1, 2, 3]], pks es σ [1, 2, 3])
def smF (es : List V) (a h most term : Int) : List Int × Int × Int :=
  let s := smN es most (1 + nxv es (a, h) 3).toNat ([], 1, nxs es (a, h) 3)
  if okT s.1 = true then
    if term < (bonT s.1).getD s.1.length 0 then smPk es s.2.2
    else if nxv es s.2.2 12 = 0 then smPk es (nxs es s.2.2 12)
    else (bonT s.1, nxs es s.2.2 12)
  else smPk es s.2.2
def f_sm (es : List V) (a h most term : Int) : List V × Int × Int := (I (smF es a h most term).1, (smF es a h most term).2)
def q_sm (es : List V) (a h most _ : Int) : Prop := q_src es a h ∧ 1 ≤ most ∧ most ≤ 64
def ic_sm (f : List V → Int → Int → Int → Int → List V × Int × Int) (q : List V → Int → Int → Int → Int → Prop) : IContract := fun
  | [.box 77 (.agg [.slc false 5 (.int .u8 0) a0, .int .i64 a1, .int .u64 a2]), .int .i64 a3, .int .i64 a4] => some ([q a0 a1 a2 a3 a4], .agg [.slc true 2 (.int .i64 0) (f a0 a1 a2 a3 a4).1], .box 77 (.agg [.slc false 5 (.int .u8 0) a0, .int .i64 (f a0 a1 a2 a3 a4).2.1, .int .u64 (f a0 a1 a2 a3 a4).2.2]))
  | _ => none
set_option maxHeartbeats 1000000 in
set_option maxRecDepth 100000 in
theorem s_spec_l03Small : SatI Try.prog 76 1000 (ic_sm f_sm q_sm) := by
  intro args ps r y h hp
  unfold ic_sm at h
  split at h
  · rename_i a0 a1 a2 a3 a4
    simp only [Option.some.injEq, Prod.mk.injEq] at h
    obtain ⟨rfl, rfl, rfl⟩ := h
    obtain ⟨hq, m1, m2⟩ : q_sm a0 a1 a2 a3 a4 := (alls_cons.1 hp).1
    obtain ⟨s0, hs0⟩ : ∃ s0 : SmS, s0 = ([], 1, nxs a0 (a1, a2) 3) := ⟨_, rfl⟩
    have hk := nxv_in (σ := (a1, a2)) (n := 3) hq (by decide)
    obtain ⟨k0, hk0⟩ : ∃ k0 : Int, k0 = 1 + nxv a0 (a1, a2) 3 := ⟨_, rfl⟩
    obtain ⟨sE, hsE⟩ : ∃ sE : SmS, sE = smN a0 a3 k0.toNat s0 := ⟨_, rfl⟩
    have ok0 : SmOk a0 a3 s0 k0.toNat := by
      rw [hs0]
      exact ⟨by simp only [List.length_nil]; omega, by simp, rfl, by simp, by simp only; omega, src_nxs (σ := (a1, a2)) hq⟩
    generalize H_f0_nx : f0_nx = F_f0_nx
    generalize H_f1_nx : f1_nx = F_f1_nx
    generalize H_f2_nx : f2_nx = F_f2_nx
    generalize H_q_nx : q_nx = F_q_nx
    generalize H_f0_pk : f0_pk = F_f0_pk
    generalize H_f1_pk : f1_pk = F_f1_pk
    generalize H_f2_pk : f2_pk = F_f2_pk
    generalize H_q_pk : q_pk = F_q_pk
    generalize H_gcdW : gcdW = F_gcdW
    generalize H_always : always = F_always
    generalize H_f_bon : f_bon = F_f_bon
    generalize H_q_bon : q_bon = F_q_bon
    refine fnIW_of (T := tab) (B := [(62, c_ii_i F_gcdW F_always), (83, c_m_Bi F_f_bon F_q_bon)]) (Bi := [(56, 0, false, ic_nx F_f0_nx F_f1_nx F_f2_nx F_q_nx), (57, 0, false, ic_pk F_f0_pk F_f1_pk F_f2_pk F_q_pk)]) 0 [2000007832, 2000018888, 0, 1, 2, 6, 7, 8, 9, 10, 11, 12, 13] Try.func76 rfl rfl (by kernel_rfl) (Nat.le_of_ble_eq_true rfl) mixed tabOk (by subst H_f0_nx H_f1_nx H_f2_nx H_q_nx H_f0_pk H_f1_pk H_f2_pk H_q_pk H_gcdW H_always H_f_bon H_q_bon; exact (bookCons s_spec_l01Gcd (bookCons s_spec_BranchOfNewton bookNil))) (by subst H_f0_nx H_f1_nx H_f2_nx H_q_nx H_f0_pk H_f1_pk H_f2_pk H_q_pk H_gcdW H_always H_f_bon H_q_bon; exact (bookICons s_spec_l01Next (bookICons s_spec_l01Pick bookINil))) (by kernel_rfl) rfl rfl sh_src rfl ?_
    intro L lp rr yy hL hr hy hf hlp
    conv => cbv
    obtain ⟨b1, hb1⟩ : ∃ b1, b1 = f1_nx a0 a1 a2 3 := ⟨_, rfl⟩
    obtain ⟨b2, hb2⟩ : ∃ b2, b2 = f2_nx a0 a1 a2 3 := ⟨_, rfl⟩
    have e0 : F_f0_nx a0 a1 a2 3 = k0 - 1 := by rw [← H_f0_nx]; show nxv a0 (a1, a2) 3 = _; omega
    have e1 : F_f1_nx a0 a1 a2 3 = b1 := by rw [← H_f1_nx, hb1]
    have e2 : F_f2_nx a0 a1 a2 3 = b2 := by rw [← H_f2_nx, hb2]
    have Qn : ∀ a h n, q_src a0 a h → F_q_nx a0 a h n := fun a h n hs => by rw [← H_q_nx]; exact hs
    have hs0' : s0 = ([], 1, b1, b2) := by rw [hs0, hb1, hb2]
    simp only [stdEqs hL, imp_self, true_and, and_true, bif_or, bif_and, Bool.or_eq_true, Bool.or_eq_false_iff, Bool.and_eq_true, Bool.and_eq_false_iff, decide_eq_true_eq, decide_eq_false_iff_not, Bool.not_eq_true', Bool.not_eq_false', beq_iff_eq, beq_eq_false_iff_ne, ne_eq, toNat0, toNat1, ok_int, toI_int, I_frzs, I_length, I_getD, ok_ints, toL_slc, true_and, e0, e1, e2, show 1 + (k0 - 1) = k0 by omega, wrap_id (n := k0) (by omega) (by omega)]
    refine ⟨Qn _ _ _ hq, ?_⟩
    refine hlp (List V × Int × Int × Int × Int) _ _ _ [0, 1, 2, 6, 7, 8, 9] (fun x => [(0, none, .val (.box 77 (.agg [.slc false 5 (.int .u8 0) a0, .int .i64 x.2.2.1, .int .u64 x.2.2.2.1]))), (1, none, .val (.int .i64 a3)), (2, none, .val (.int .i64 a4)), (6, none, .val (.box 26 (.agg [.slc true 2 (.int .i64 0) []]))), (7, none, .val (.slc true 24 (.slc true 2 (.int .i64 0) []) x.1)), (8, none, .val (.int .i64 x.2.1)), (9, none, .val (.int .i64 x.2.2.2.2))])
      (fun x => 0 ≤ x.2.2.2.2 ∧ ∃ ps, x.1 = II true ps ∧ SmOk a0 a3 (ps, x.2.1, x.2.2.1, x.2.2.2.1) x.2.2.2.2.toNat ∧ smN a0 a3 x.2.2.2.2.toNat (ps, x.2.1, x.2.2.1, x.2.2.2.1) = sE) (fun x => x.2.2.2.2.toNat) (([], 1, b1, b2, k0)) (by subst hL; rfl) ?_ ?_
    · exact ⟨by simp only; omega, [], rfl, by simp only; rw [← hs0']; exact ok0, by simp only; rw [← hs0', hsE]⟩
    rintro ⟨es, n, a, h, k⟩ ⟨i0, ps, hes, hok, hsm⟩ hfx ag hag
    simp only at i0 hes hok hsm
    obtain ⟨pl, hpl⟩ : ∃ pl : Int, pl = es.length := ⟨_, rfl⟩
    have hpl2 : pl = ps.length := by rw [hpl, hes, II_length]
    have hsrc : q_src a0 a h := hok.src
    obtain ⟨o, ho⟩ : ∃ o, o = 2 + nxv a0 (a, h) 4 := ⟨_, rfl⟩
    obtain ⟨A1, hA1⟩ : ∃ A1, A1 = f1_nx a0 a h 4 := ⟨_, rfl⟩
    obtain ⟨H1, hH1⟩ : ∃ H1, H1 = f2_nx a0 a h 4 := ⟨_, rfl⟩
    obtain ⟨m, hm⟩ : ∃ m, m = f0_pk a0 A1 H1 (I [4, 8, 12]) := ⟨_, rfl⟩
    obtain ⟨A2, hA2⟩ : ∃ A2, A2 = f1_pk a0 A1 H1 (I [4, 8, 12]) := ⟨_, rfl⟩
    obtain ⟨H2, hH2⟩ : ∃ H2, H2 = f2_pk a0 A1 H1 (I [4, 8, 12]) := ⟨_, rfl⟩
    obtain ⟨c0, hc0⟩ : ∃ c0, c0 = 1 + f0_nx a0 A2 H2 m := ⟨_, rfl⟩
    obtain ⟨A3, hA3⟩ : ∃ A3, A3 = f1_nx a0 A2 H2 m := ⟨_, rfl⟩
    obtain ⟨H3, hH3⟩ : ∃ H3, H3 = f2_nx a0 A2 H2 m := ⟨_, rfl⟩
    have hR : smR a0 a3 (ps, n, a, h) = if a3 < n * o then (ps, n, A1, H1) else (ps ++ [[if ps.length = 0 then cpo (cpo c0 o + o) o else cpo c0 o, o]], n * o, A3, H3) := by
      subst hA3 hH3 hc0 hA2 hH2 hm hA1 hH1 ho
      rfl
    have o1 := nxv_in (σ := (a, h)) (n := 4) hsrc (by decide)
    have s1 : q_src a0 A1 H1 := by rw [hA1, hH1]; exact src_nx hsrc
    have mp : m ∈ [4, 8, 12] := by rw [hm]; exact pkv_in (σ := (A1, H1)) (l := [4, 8, 12]) s1 (by simp)
    have m12 : 1 ≤ m ∧ m ≤ 12 := by simp at mp; omega
    have s2 : q_src a0 A2 H2 := by rw [hA2, hH2]; exact src_nx s1
    have c1 := f0_nx_in (n := m) s2 (by omega)
    have s3 : q_src a0 A3 H3 := by rw [hA3, hH3]; exact src_nx s2
    have n1 : 1 ≤ n := hok.n1
    have n2 : n ≤ a3 := hok.n2
    have no0 : n * 2 ≤ n * o := Int.mul_le_mul_of_nonneg_left (by omega) (by omega)
    have no1 : n * o ≤ 64 * 5 := Int.mul_le_mul (by omega) (by omega) (by omega) (by omega)
    have g0 : F_f0_nx a0 a h 4 = o - 2 := by rw [← H_f0_nx]; show nxv a0 (a, h) 4 = _; omega
    have g1 : F_f1_nx a0 a h 4 = A1 := by rw [← H_f1_nx, hA1]
    have g2 : F_f2_nx a0 a h 4 = H1 := by rw [← H_f2_nx, hH1]
    have g3 : ∀ l, l = I [4, 8, 12] → F_f0_pk a0 A1 H1 l = m ∧ F_f1_pk a0 A1 H1 l = A2 ∧ F_f2_pk a0 A1 H1 l = H2 ∧ F_q_pk a0 A1 H1 l := by
      intro l hl
      rw [hl, ← H_f0_pk, ← H_f1_pk, ← H_f2_pk, ← H_q_pk, hm, hA2, hH2]
      exact ⟨rfl, rfl, rfl, s1, ⟨_, rfl⟩, by simp, by simp⟩
    obtain ⟨g4, g5, g6, g7⟩ := g3 (V.frzs (V.frzs [V.int IntKind.i64 4, V.int IntKind.i64 8, V.int IntKind.i64 12])) rfl
    have g8 : F_f0_nx a0 A2 H2 m = c0 - 1 := by rw [← H_f0_nx]; omega
    have g9 : F_f1_nx a0 A2 H2 m = A3 := by rw [← H_f1_nx, hA3]
    have g10 : F_f2_nx a0 A2 H2 m = H3 := by rw [← H_f2_nx, hH3]
    have Eg : ∀ x, F_gcdW x o = gcdW x o := fun x => by rw [← H_gcdW]
    have Qa : ∀ x, F_always x o := fun x => by rw [← H_always]; trivial
    have wo : IntKind.wrap .i64 (2 + (o - 2)) = o := by rw [show 2 + (o - 2) = o by omega]; exact wrap_id (by omega) (by omega)
    have wno : IntKind.wrap .i64 (n * o) = n * o := wrap_id (by omega) (by omega)
    have wc0 : IntKind.wrap .i64 (1 + (c0 - 1)) = c0 := by rw [show 1 + (c0 - 1) = c0 by omega]; exact wrap_id (by omega) (by omega)
    have hst : 0 < k → SmOk a0 a3 (smR a0 a3 (ps, n, a, h)) (k - 1).toNat ∧ smN a0 a3 (k - 1).toNat (smR a0 a3 (ps, n, a, h)) = sE := by
      intro hk
      have e : k.toNat = (k - 1).toNat + 1 := by omega
      rw [e] at hok hsm
      exact ⟨hok.round, hsm⟩
    have kl := hok.len
    simp only at kl
    have cT1 := cpT_le (c := c0) (o := o) (by omega)
    conv => cbv
    simp only [stdEqs hL, imp_self, true_and, and_true, bif_or, bif_and, Bool.or_eq_true, Bool.or_eq_false_iff, Bool.and_eq_true, Bool.and_eq_false_iff, decide_eq_true_eq, decide_eq_false_iff_not, Bool.not_eq_true', Bool.not_eq_false', beq_iff_eq, beq_eq_false_iff_ne, ne_eq, toNat0, toNat1, ok_int, toI_int, I_frzs, I_length, I_getD, ok_ints, toL_slc, true_and, ← hpl, g0, g1, g2, g4, g5, g6, g7, g8, g9, g10, wo, wno, wc0]
    refine ⟨fun h1 => ⟨Qn _ _ _ hsrc, fun h2 => ?_, fun h2 => ⟨Qn _ _ _ s2, ?_⟩⟩, fun h1 => ?_⟩
    · rw [wrap_id (n := k - 1) (by omega) (by omega)]
      obtain ⟨t1, t2⟩ := hst h1
      rw [hR, if_pos h2] at t1 t2
      exact hag (es, n, A1, H1, k - 1) ⟨by simp only; omega, ps, hes, t1, t2⟩ (by simp only; omega)
    · obtain ⟨t1, t2⟩ := hst h1
      rw [hR, if_neg h2] at t1 t2
      refine hlp (Int) _ _ _ [0, 1, 2, 6, 7, 8, 9, 10, 11] (fun x => [(0, none, .val (.box 77 (.agg [.slc false 5 (.int .u8 0) a0, .int .i64 A3, .int .u64 H3]))), (1, none, .val (.int .i64 a3)), (2, none, .val (.int .i64 a4)), (6, none, .val (.box 26 (.agg [.slc true 2 (.int .i64 0) []]))), (7, none, .val (.slc true 24 (.slc true 2 (.int .i64 0) []) es)), (8, none, .val (.int .i64 n)), (9, none, .val (.int .i64 k)), (10, none, .val (.int .i64 o)), (11, none, .val (.int .i64 x))])
        (fun x => c0 ≤ x ∧ x ≤ cpT c0 o ∧ cpU o ((cpT c0 o - x).toNat + 1) x = cpo c0 o) (fun x => (cpT c0 o - x).toNat) (c0) (by subst hL; rfl) ?_ ?_
      · exact ⟨by omega, by omega, rfl⟩
      rintro z ⟨x0, x1, hx⟩ hfx2 ag2 hag2
      conv => cbv
      simp only [stdEqs hL, imp_self, true_and, and_true, bif_or, bif_and, Bool.or_eq_true, Bool.or_eq_false_iff, Bool.and_eq_true, Bool.and_eq_false_iff, decide_eq_true_eq, decide_eq_false_iff_not, Bool.not_eq_true', Bool.not_eq_false', beq_iff_eq, beq_eq_false_iff_ne, ne_eq, toNat0, toNat1, ok_int, toI_int, I_frzs, I_length, I_getD, ok_ints, toL_slc, true_and, ← hpl, Eg]
      refine ⟨Qa _, fun h3 => ?_, fun h3 => ?_⟩
      · rw [wrap_id (n := z + 1) (by omega) (by omega)]
        have hne : z ≠ cpT c0 o := fun e => by
          rw [e, cpT_gcd (by omega) (by omega)] at h3
          omega
        refine hag2 (z + 1) ⟨by omega, by omega, ?_⟩ (by omega)
        rw [← hx, show (cpT c0 o - z).toNat = (cpT c0 o - (z + 1)).toNat + 1 by omega]
        exact (if_pos (show gcdW z o > 1 from h3)).symm
      · have hx2 : cpo c0 o = z := by
          rw [← hx]
          exact if_neg (show ¬ gcdW z o > 1 from h3)
        rw [hx2] at t1 t2
        have wk : IntKind.wrap .i64 (k - 1) = k - 1 := wrap_id (by omega) (by omega)
        refine ⟨fun h4 => ?_, fun h4 => ?_⟩
        · have hp0 : ps.length = 0 := by omega
          rw [if_pos hp0] at t1 t2
          have cT2 := cpT_le (c := z + o) (o := o) (by omega)
          rw [wrap_id (n := z + o) (by omega) (by omega)]
          refine hlp (Int) _ _ _ [0, 1, 2, 6, 7, 8, 9, 10, 11] (fun x => [(0, none, .val (.box 77 (.agg [.slc false 5 (.int .u8 0) a0, .int .i64 A3, .int .u64 H3]))), (1, none, .val (.int .i64 a3)), (2, none, .val (.int .i64 a4)), (6, none, .val (.box 26 (.agg [.slc true 2 (.int .i64 0) []]))), (7, none, .val (.slc true 24 (.slc true 2 (.int .i64 0) []) es)), (8, none, .val (.int .i64 n)), (9, none, .val (.int .i64 k)), (10, none, .val (.int .i64 o)), (11, none, .val (.int .i64 x))])
            (fun x => z + o ≤ x ∧ x ≤ cpT (z + o) o ∧ cpU o ((cpT (z + o) o - x).toNat + 1) x = cpo (z + o) o) (fun x => (cpT (z + o) o - x).toNat) (z + o) (by subst hL; rfl) ?_ ?_
          · exact ⟨by omega, by omega, rfl⟩
          rintro y ⟨y0, y1, hy1⟩ hfx3 ag3 hag3
          conv => cbv
          simp only [stdEqs hL, imp_self, true_and, and_true, bif_or, bif_and, Bool.or_eq_true, Bool.or_eq_false_iff, Bool.and_eq_true, Bool.and_eq_false_iff, decide_eq_true_eq, decide_eq_false_iff_not, Bool.not_eq_true', Bool.not_eq_false', beq_iff_eq, beq_eq_false_iff_ne, ne_eq, toNat0, toNat1, ok_int, toI_int, I_frzs, I_length, I_getD, ok_ints, toL_slc, true_and, ← hpl, Eg]
          refine ⟨Qa _, fun h5 => ?_, fun h5 => ?_⟩
          · rw [wrap_id (n := y + 1) (by omega) (by omega)]
            have hne : y ≠ cpT (z + o) o := fun e => by
              rw [e, cpT_gcd (by omega) (by omega)] at h5
              omega
            refine hag3 (y + 1) ⟨by omega, by omega, ?_⟩ (by omega)
            rw [← hy1, show (cpT (z + o) o - y).toNat = (cpT (z + o) o - (y + 1)).toNat + 1 by omega]
            exact (if_pos (show gcdW y o > 1 from h5)).symm
          · have hy2 : cpo (z + o) o = y := by
              rw [← hy1]
              exact if_neg (show ¬ gcdW y o > 1 from h5)
            rw [hy2] at t1 t2
            simp only [wno, wk]
            (repeat' first | (exact solid_one _) | (exact solid1 rfl) | (exact noown_one _) | (apply And.intro) | (intro _)) <;> (try first | exact True.intro | omega | rfl | (simp only [List.length_cons, List.length_nil, I_length]; omega))
            exact hag (_, n * o, A3, H3, k - 1) ⟨by simp only; omega, ps ++ [[y, o]], by simp only; rw [II_append, hes]; rfl, t1, t2⟩ (by simp only; omega)
        · have hp0 : ¬ ps.length = 0 := by omega
          rw [if_neg hp0] at t1 t2
          simp only [wno, wk]
          (repeat' first | (exact solid_one _) | (exact solid1 rfl) | (exact noown_one _) | (apply And.intro) | (intro _)) <;> (try first | exact True.intro | omega | rfl | (simp only [List.length_cons, List.length_nil, I_length]; omega))
          exact hag (_, n * o, A3, H3, k - 1) ⟨by simp only; omega, ps ++ [[z, o]], by simp only; rw [II_append, hes]; rfl, t1, t2⟩ (by simp only; omega)
    · have hkz : k.toNat = 0 := by omega
      rw [hkz] at hsm hok
      have hsm' : sE = (ps, n, a, h) := hsm.symm
      have hF : smF a0 a1 a2 a3 a4 = if okT ps = true then (if a4 < (bonT ps).getD ps.length 0 then smPk a0 (a, h) else if nxv a0 (a, h) 12 = 0 then smPk a0 (nxs a0 (a, h) 12) else (bonT ps, nxs a0 (a, h) 12)) else smPk a0 (a, h) := by
        unfold smF
        simp only
        rw [← hs0, ← hk0, ← hsE, hsm']
      have hP : Prs ps := hok.prs (by omega)
      have hfz : V.frzs es = II false ps := by rw [hes, II_frzs]
      have bl : (bonT ps).length = ps.length + 1 := by simp only [bonT, List.length_cons, bonGo_len]
      have Qb : F_q_bon (II false ps) := by rw [← H_q_bon]; exact ⟨ps, rfl, hP⟩
      have Eb : F_f_bon (II false ps) = if okT ps = true then (I (bonT ps), 0) else ([], 5) := by rw [← H_f_bon, f_bon, unII_II]
      subst H_f0_nx H_f1_nx H_f2_nx H_q_nx H_f0_pk H_f1_pk H_f2_pk H_q_pk
      rw [hfz, Eb]
      have Qp : ∀ σ : Int × Int, q_src a0 σ.1 σ.2 → q_pk a0 σ.1 σ.2 (V.frzs (V.frzs [V.int IntKind.i64 1, V.int IntKind.i64 2, V.int IntKind.i64 3])) := fun σ hs => ⟨hs, ⟨[1, 2, 3], rfl⟩, by decide, by decide⟩
      have fin : ∀ (l : List Int) (A H : Int), smF a0 a1 a2 a3 a4 = (l, A, H) → V.agg [V.slc true 2 (.int .i64 0) (I l)] = rr ∧ V.box 77 (V.agg [.slc false 5 (.int .u8 0) a0, .int .i64 A, .int .u64 H]) = yy := by
        intro l A H e
        rw [hr, hy, f_sm, e]
        exact ⟨rfl, rfl⟩
      have h50 : ((5 : Int) = 0) = False := eq_false (by decide)
      have pl3 := hP.len
      cases hT : okT ps with
      | false =>
        rw [hT, if_neg (by decide)] at hF
        simp only [Bool.false_eq_true, if_false, h50, false_and, false_imp_iff, not_false_eq_true, true_or, true_imp_iff, and_false, true_and, and_true]
        exact ⟨Qb, rfl, Qp (a, h) hsrc, fin [pkv a0 (a, h) [1, 2, 3]] _ _ hF⟩
      | true =>
        rw [hT, if_pos rfl] at hF
        have wl : IntKind.wrap .i64 ((ps.length + 1 : Nat) - 1 : Int) = ps.length := by rw [show ((ps.length + 1 : Nat) - 1 : Int) = ps.length by omega]; exact wrap_id (by omega) (by omega)
        simp only [stdEqs hL, imp_self, true_and, and_true, bif_or, bif_and, Bool.or_eq_true, Bool.or_eq_false_iff, Bool.and_eq_true, Bool.and_eq_false_iff, decide_eq_true_eq, decide_eq_false_iff_not, Bool.not_eq_true', Bool.not_eq_false', beq_iff_eq, beq_eq_false_iff_ne, ne_eq, toNat0, toNat1, ok_int, toI_int, I_frzs, I_length, I_getD, ok_ints, toL_slc, if_true, I_length, bl, wl, I_getD, Int.toNat_natCast, true_and, not_true, false_or]
        refine ⟨Qb, I_noFzs _, fun _ => by omega, fun _ => by omega, fun _ => by omega, fun h2 => ⟨h2, hsrc, fun h3 => ?_, fun h3 => ?_⟩, fun h2 => ⟨fun h3 => ?_, fun h3 => absurd h2 h3.1⟩⟩
        · have h4 : nxv a0 (a, h) 12 = 0 := h3.resolve_left h2
          rw [if_neg h2, if_pos h4] at hF
          exact ⟨Qp (nxs a0 (a, h) 12) (src_nxs hsrc), fin [pkv a0 (nxs a0 (a, h) 12) [1, 2, 3]] _ _ hF⟩
        · rw [if_neg h2, if_neg (show ¬ nxv a0 (a, h) 12 = 0 from h3.2)] at hF
          exact fin _ _ _ hF
        · rw [if_pos h2] at hF
          exact ⟨Qp (a, h) hsrc, fin [pkv a0 (a, h) [1, 2, 3]] _ _ hF⟩
  · cases h

theorem smF_src {es : List V} {a h most term : Int} (hq : q_sm es a h most term) : q_src es (smF es a h most term).2.1 (smF es a h most term).2.2 ∧ 1 ≤ (smF es a h most term).1.length ∧ (smF es a h most term).1.length ≤ 4 := by
  obtain ⟨hs, m1, m2⟩ := hq
  have hk := nxv_in (σ := (a, h)) (n := 3) hs (by decide)
  have ok0 : SmOk es most (([], 1, nxs es (a, h) 3) : SmS) (1 + nxv es (a, h) 3).toNat := ⟨by simp only [List.length_nil]; omega, by simp, rfl, by simp, by simp only; omega, src_nxs (σ := (a, h)) hs⟩
  have hr := ok0.run
  unfold smF
  simp only
  generalize smN es most (1 + nxv es (a, h) 3).toNat ([], 1, nxs es (a, h) 3) = s at hr ⊢
  have h1 := hr.src
  have h2 := hr.len
  have pk : ∀ σ : Int × Int, q_src es σ.1 σ.2 → q_src es (smPk es σ).2.1 (smPk es σ).2.2 ∧ 1 ≤ (smPk es σ).1.length ∧ (smPk es σ).1.length ≤ 4 := fun σ hσ => ⟨src_pks hσ, by simp, by simp⟩
  split
  · split
    · exact pk _ h1
    · split
      · exact pk _ (src_nxs h1)
      · exact ⟨src_nxs h1, by simp only [bonT, List.length_cons]; omega, by simp only [bonT, List.length_cons, bonGo_len]; omega⟩
  · exact pk _ h1
end Go.Ax
