/-
  Delta invariants and lengths of branches. No conditions but those of the contracts.
-/
import Derived.Test.YtpbkkbjgmlfloaaFsp
set_option linter.all false
namespace Go.Ax
open Go.Proofs

def Low (l : List Int) : Prop := ∀ m ∈ l, 1 ≤ m ∧ m ≤ 64
theorem Low.take {l : List Int} (h : Low l) (n : Nat) : Low (l.take n) := fun m hm => h m (List.mem_of_mem_take hm)
theorem Low.at {l : List Int} (h : Low l) {i : Nat} (hi : i < l.length) : 1 ≤ l.getD i 0 ∧ l.getD i 0 ≤ 64 := by
  rw [List.getD_eq_getElem?_getD, List.getElem?_eq_getElem hi]
  exact h _ (List.getElem_mem hi)
theorem flatS_take_len (S : List (List Int)) (i : Nat) : (flatS (S.take i)).length ≤ (flatS S).length := by
  conv => rhs; rw [← List.take_append_drop i S]
  rw [flatS, flatS, List.flatMap_append, List.length_append]
  omega
theorem flatS_runsI (xs : List Int) : flatS (runsI xs) = seqI xs := flatS_runs xs _
theorem seqI_len {xs : List Int} (h : Br xs) : (seqI xs).length ≤ 200000 := by
  have h1 := h.len
  have h2 := h.pos
  have := seqP_len h (xs.length - 1) (by omega)
  rw [seqI]; omega
def c_B_i (f : List V → Int) (q : List V → Prop) : Contract := fun
  | [.agg [.slc false 2 (.int .i64 0) a0]] => some ([q a0], .int .i64 (f a0))
  | _ => none
theorem ex_ne {a b : Nat} (ha : 0 < a) (hb : 0 < b) : 1 ≤ (ex a b).length := by
  rw [ex_pos hb, List.length_append, List.length_replicate]
  by_cases h : a / b = 0
  · have hab : a < b := (Nat.div_eq_zero_iff.1 h).resolve_left (by omega)
    rw [Nat.mod_eq_of_lt hab, ex_pos ha, List.length_append, List.length_replicate]
    have : 1 ≤ b / a := Nat.div_pos (by omega) ha
    omega
  · have : 1 ≤ a / b := Nat.one_le_iff_ne_zero.2 h
    omega
theorem seqI_ne {xs : List Int} (h : Br xs) (h1 : xs.length ≠ 1) : 1 ≤ (seqI xs).length := by
  have hp := h.pos
  obtain ⟨n, hn⟩ : ∃ n, xs.length - 1 = n + 1 := ⟨xs.length - 2, by omega⟩
  rw [seqI, hn, seqP_succ, List.length_append]
  have k1 := kkI_in h (i := n) (by omega)
  have k2 := h.dpos n (by omega)
  have := ex_ne (a := (kkI xs n).toNat) (b := ((dv xs).getD n 0).toNat) (by omega) (by omega)
  rw [runI, exI, List.length_map]
  omega
theorem sq1_length {xs : List Int} (h : Br xs) : ((sq1 xs).length : Int) = max ((seqI xs).length : Int) 1 := by
  rw [sq1]
  split
  · rename_i h1
    rw [seqI, h1]
    simp only [seqP, List.range_zero, List.flatMap_nil, Nat.sub_self, List.length_nil, List.length_cons]
    omega
  · rename_i h1
    have := seqI_ne h h1
    omega
def f_cnt (a : List V) : Int := (sq1 (unI a)).length
theorem flatS_len_step {S : List (List Int)} {i : Nat} (hi : i < S.length) (h0 : 0 ≤ (S.getD i []).getD 0 0) : ((flatS (S.take (i + 1))).length : Int) = (flatS (S.take i)).length + (S.getD i []).getD 0 0 := by
  rw [flatS_step S i hi, List.length_append, List.length_replicate]
  omega
set_option maxRecDepth 100000 in
theorem s_spec_l04Count : Sat Try.prog 87 (c_B_i f_cnt IsBr) := by
  intro args ps r h hp
  unfold c_B_i at h
  split at h
  · rename_i a0
    simp only [Option.some.injEq, Prod.mk.injEq] at h
    obtain ⟨rfl, rfl⟩ := h
    have hq : IsBr a0 := (alls_cons.1 hp).1
    obtain ⟨xs, hxs, hb⟩ := id hq
    have g1 : V.frzs a0 = a0 := by rw [hxs, I_frzs]
    have hf0 : f_cnt a0 = (sq1 xs).length := by rw [f_cnt, hxs, unI_I]
    obtain ⟨S, hS⟩ : ∃ S, S = runsI xs := ⟨_, rfl⟩
    obtain ⟨vs, hvs⟩ : ∃ vs, vs = II true S := ⟨_, rfl⟩
    have e1 : f_runs a0 = vs := by rw [f_runs, hxs, unI_I, hvs, hS]
    have hsl : S.length ≤ 4096 := by
      have := runsP_len hb (xs.length - 1) (by have := hb.pos; omega)
      have := hb.len
      rw [hS, runsI]; omega
    have vl : vs.length = S.length := by rw [hvs, II_length]
    have gs : ∀ k, vs.getD k (.slc true 2 (.int .i64 0) []) = .slc true 2 (.int .i64 0) (I (S.getD k [])) := fun k => by rw [hvs, II_getD]
    have hS0 : ∀ i, i < S.length → (S.getD i []).length = 2 ∧ 0 ≤ (S.getD i []).getD 0 0 := fun i hi => by
      have hm := mem_getD hi
      rw [hS] at hm ⊢
      have h1 := runsP_mem _ _ hm
      exact ⟨h1.1, h1.2.1⟩
    have hlen : ∀ i, (flatS (S.take i)).length ≤ 200000 := fun i => by
      have h1 := flatS_take_len S i
      have h2 : (flatS S).length ≤ 200000 := by rw [hS, flatS_runsI]; exact seqI_len hb
      omega
    generalize H_f_runs : f_runs = F_f_runs
    generalize H_IsBr : IsBr = F_IsBr
    refine fnOk_ofI (T := tab) (B := [(69, c_B_m' F_f_runs F_IsBr)]) (Bi := []) [0, 1, 2, 3, 4, 5] Try.func87 rfl rfl (by kernel_rfl) (Nat.le_of_ble_eq_true rfl) mixed tabOk (by subst H_f_runs H_IsBr; exact (bookCons s_spec_l04Runs bookNil)) (by subst H_f_runs H_IsBr; exact bookINil) (by kernel_rfl) ?_
    intro L lp rr hL hr hf hlp
    conv => cbv
    have F1 : F_f_runs a0 = vs := by rw [← H_f_runs, e1]
    simp only [stdEqs hL, imp_self, true_and, and_true, bif_or, bif_and, Bool.or_eq_true, Bool.or_eq_false_iff, Bool.and_eq_true, Bool.and_eq_false_iff, decide_eq_true_eq, decide_eq_false_iff_not, Bool.not_eq_true', Bool.not_eq_false', beq_iff_eq, beq_eq_false_iff_ne, ne_eq, toNat0, toNat1, ok_int, toI_int, I_frzs, I_length, I_getD, ok_ints, toL_slc, g1, F1]
    refine ⟨by rw [← H_IsBr]; exact hq, ?_⟩
    refine hlp (Int × Int) _ _ _ [3, 4, 5] (fun x => [(3, none, .val (.slc true 53 (.slc true 2 (.int .i64 0) []) vs)), (4, none, .val (.int .i64 x.1)), (5, none, .val (.int .i64 x.2))])
      (fun x => 0 ≤ x.2 ∧ x.2 ≤ S.length ∧ x.1 = (flatS (S.take x.2.toNat)).length) (fun x => (S.length - x.2).toNat) ((0, 0)) (by subst hL; rfl) ?_ ?_
    · exact ⟨by simp, by simp, rfl⟩
    rintro ⟨s, i⟩ ⟨i0, i1, hI⟩ hfx ag hag
    simp only at i0 i1 hI
    conv => cbv
    simp only [stdEqs hL, imp_self, true_and, and_true, bif_or, bif_and, Bool.or_eq_true, Bool.or_eq_false_iff, Bool.and_eq_true, Bool.and_eq_false_iff, decide_eq_true_eq, decide_eq_false_iff_not, Bool.not_eq_true', Bool.not_eq_false', beq_iff_eq, beq_eq_false_iff_ne, ne_eq, toNat0, toNat1, ok_int, toI_int, I_frzs, I_length, I_getD, ok_ints, toL_slc, vl, gs]
    refine ⟨fun h2 => ?_, fun h2 => ?_⟩
    · have hil : i.toNat < S.length := by omega
      have hst := flatS_len_step hil (hS0 _ hil).2
      obtain ⟨r, hR⟩ : ∃ r, r = S.getD i.toNat [] := ⟨_, rfl⟩
      have hr0 := hS0 _ hil
      rw [← hR] at hr0 hst ⊢
      have hl1 := hlen i.toNat
      have hl2 := hlen (i.toNat + 1)
      have hrl := hr0.1
      rw [wrap_id (n := s + r.getD 0 0) (by omega) (by omega), wrap_id (n := i + 1) (by omega) (by omega)]
      (repeat' first | (exact solid_one _) | (exact solid1 rfl) | (exact noown_one _) | (apply And.intro) | (intro _)) <;> (try first | exact True.intro | omega | rfl | (simp only [List.length_cons, List.length_nil, I_length]; omega))
      refine hag (s + r.getD 0 0, i + 1) ⟨by simp only; omega, by simp only; omega, ?_⟩ (by simp only; omega)
      simp only [toNat_succ i0]
      omega
    · rw [hr, hf0, hI, List.take_of_length_le (by omega), hS, flatS_runsI, sq1_length hb]
  · cases h
end Go.Ax
