import Derived.Test.YtdibahknjbgdkaaB12p2
import Derived.Test.YtdibahknjbgdkaaB08p2
import Derived.Test.YtdibahknjbgdkaaB04p2
/-
  Draws: branches, and what is seldom none. No conditions but those of the contracts.
-/
set_option linter.all false
namespace Go.Ax
open Go.Proofs

def drF (es : List V) (a h : Int) : List Int × Int × Int :=
  let σ := pks es (a, h) [6, 12, 30, 64]
  let s := smF es σ.1 σ.2 (pkv es (a, h) [6, 12, 30, 64]) 400
  if s.1.length = 1 ∧ 1 < s.1.getD 0 0 then
    ([s.1.getD 0 0, W (W (s.1.getD 0 0 * W (1 + nxv es s.2 9)) + 1)], nxs es s.2 9)
  else s
theorem drF_src {es : List V} {a h : Int} (hq : q_src es a h) : q_src es (drF es a h).2.1 (drF es a h).2.2 ∧ 1 ≤ (drF es a h).1.length ∧ (drF es a h).1.length ≤ 4 := by
  have hp := pkv_in (σ := (a, h)) (l := [6, 12, 30, 64]) hq (by simp)
  have h1 := smF_src (most := pkv es (a, h) [6, 12, 30, 64]) (term := 400) ⟨src_pks (σ := (a, h)) (l := [6, 12, 30, 64]) hq, by simp at hp; omega, by simp at hp; omega⟩
  unfold drF
  simp only
  split
  · exact ⟨src_nxs (σ := (smF es _ _ _ _).2) h1.1, by simp, by simp⟩
  · exact h1
def f_dr (es : List V) (a h : Int) : List V × Int × Int := (I (drF es a h).1, (drF es a h).2)
def ic_dr (f : List V → Int → Int → List V × Int × Int) (q : List V → Int → Int → Prop) : IContract := fun
  | [.box 77 (.agg [.slc false 5 (.int .u8 0) a0, .int .i64 a1, .int .u64 a2])] => some ([q a0 a1 a2], .agg [.slc true 2 (.int .i64 0) (f a0 a1 a2).1], .box 77 (.agg [.slc false 5 (.int .u8 0) a0, .int .i64 (f a0 a1 a2).2.1, .int .u64 (f a0 a1 a2).2.2]))
  | _ => none
set_option maxHeartbeats 1000000 in
set_option maxRecDepth 100000 in
theorem s_spec_l03Draw : SatI Try.prog 55 1000 (ic_dr f_dr q_src) := by
  intro args ps r y h hp
  unfold ic_dr at h
  split at h
  · rename_i a0 a1 a2
    simp only [Option.some.injEq, Prod.mk.injEq] at h
    obtain ⟨rfl, rfl, rfl⟩ := h
    have hq : q_src a0 a1 a2 := (alls_cons.1 hp).1
    obtain ⟨m, hm⟩ : ∃ m, m = f0_pk a0 a1 a2 (I [6, 12, 30, 64]) := ⟨_, rfl⟩
    obtain ⟨A1, hA1⟩ : ∃ A1, A1 = f1_pk a0 a1 a2 (I [6, 12, 30, 64]) := ⟨_, rfl⟩
    obtain ⟨H1, hH1⟩ : ∃ H1, H1 = f2_pk a0 a1 a2 (I [6, 12, 30, 64]) := ⟨_, rfl⟩
    obtain ⟨S, hS⟩ : ∃ S, S = smF a0 A1 H1 m 400 := ⟨_, rfl⟩
    have hF : drF a0 a1 a2 = if S.1.length = 1 ∧ 1 < S.1.getD 0 0 then ([S.1.getD 0 0, W (W (S.1.getD 0 0 * W (1 + nxv a0 S.2 9)) + 1)], nxs a0 S.2 9) else S := by
      subst hS hA1 hH1 hm
      rfl
    have mp : m ∈ [6, 12, 30, 64] := by rw [hm]; exact pkv_in (σ := (a1, a2)) (l := [6, 12, 30, 64]) hq (by simp)
    have s1 : q_src a0 A1 H1 := by rw [hA1, hH1]; exact src_nx hq
    have qs : q_sm a0 A1 H1 m 400 := ⟨s1, by simp at mp; omega, by simp at mp; omega⟩
    have hS2 := smF_src qs
    rw [← hS] at hS2
    obtain ⟨sl, A2, H2⟩ := S
    simp only at hF hS2
    have Es : f_sm a0 A1 H1 m 400 = (I sl, A2, H2) := by rw [f_sm, ← hS]
    obtain ⟨bl, hbl⟩ : ∃ bl, bl = I sl := ⟨_, rfl⟩
    obtain ⟨n, hn⟩ : ∃ n : Int, n = bl.length := ⟨_, rfl⟩
    have hnl : n = sl.length := by rw [hn, hbl, I_length]
    have gx : ∀ k, bl.getD k (.int .i64 0) = .int .i64 (sl.getD k 0) := fun k => by rw [hbl, I_getD]
    generalize H_f0_nx : f0_nx = F_f0_nx
    generalize H_f1_nx : f1_nx = F_f1_nx
    generalize H_f2_nx : f2_nx = F_f2_nx
    generalize H_q_nx : q_nx = F_q_nx
    generalize H_f0_pk : f0_pk = F_f0_pk
    generalize H_f1_pk : f1_pk = F_f1_pk
    generalize H_f2_pk : f2_pk = F_f2_pk
    generalize H_q_pk : q_pk = F_q_pk
    generalize H_f_sm : f_sm = F_f_sm
    generalize H_q_sm : q_sm = F_q_sm
    refine fnIW_of (T := tab) (B := []) (Bi := [(56, 0, false, ic_nx F_f0_nx F_f1_nx F_f2_nx F_q_nx), (57, 0, false, ic_pk F_f0_pk F_f1_pk F_f2_pk F_q_pk), (76, 1000, false, ic_sm F_f_sm F_q_sm)]) 0 [2000001806, 2000003033, 2000003800, 2000003820, 2000003821, 2000003822, 2000003823, 2000003824, 2000003825, 2000003826, 2000003827, 2000003829, 2000003999, 0, 2, 3] Try.func55 rfl rfl (by kernel_rfl) (Nat.le_of_ble_eq_true rfl) mixed tabOk (by subst H_f0_nx H_f1_nx H_f2_nx H_q_nx H_f0_pk H_f1_pk H_f2_pk H_q_pk H_f_sm H_q_sm; exact bookNil) (by subst H_f0_nx H_f1_nx H_f2_nx H_q_nx H_f0_pk H_f1_pk H_f2_pk H_q_pk H_f_sm H_q_sm; exact (bookICons s_spec_l01Next (bookICons s_spec_l01Pick (bookICons s_spec_l03Small bookINil)))) (by kernel_rfl) rfl rfl sh_src rfl ?_
    intro L lp rr yy hL hr hy hf hlp
    conv => cbv
    subst H_f0_nx H_f1_nx H_f2_nx H_q_nx H_f0_pk H_f1_pk H_f2_pk H_q_pk H_f_sm H_q_sm
    have p0 : f0_pk a0 a1 a2 (V.frzs (V.frzs [V.int IntKind.i64 6, V.int IntKind.i64 12, V.int IntKind.i64 30, V.int IntKind.i64 64])) = m := hm.symm
    have p1 : f1_pk a0 a1 a2 (V.frzs (V.frzs [V.int IntKind.i64 6, V.int IntKind.i64 12, V.int IntKind.i64 30, V.int IntKind.i64 64])) = A1 := hA1.symm
    have p2 : f2_pk a0 a1 a2 (V.frzs (V.frzs [V.int IntKind.i64 6, V.int IntKind.i64 12, V.int IntKind.i64 30, V.int IntKind.i64 64])) = H1 := hH1.symm
    have p3 : q_pk a0 a1 a2 (V.frzs (V.frzs [V.int IntKind.i64 6, V.int IntKind.i64 12, V.int IntKind.i64 30, V.int IntKind.i64 64])) := ⟨hq, ⟨[6, 12, 30, 64], rfl⟩, by decide, by decide⟩
    simp only [p0, p1, p2, Es, ← hbl, gx, stdEqs hL, imp_self, true_and, and_true, bif_or, bif_and, Bool.or_eq_true, Bool.or_eq_false_iff, Bool.and_eq_true, Bool.and_eq_false_iff, decide_eq_true_eq, decide_eq_false_iff_not, Bool.not_eq_true', Bool.not_eq_false', beq_iff_eq, beq_eq_false_iff_ne, ne_eq, toNat0, toNat1, ok_int, toI_int, I_frzs, I_length, I_getD, ok_ints, toL_slc, true_and, ← hn]
    have fin : ∀ (l : List Int) (A H : Int), drF a0 a1 a2 = (l, A, H) → V.agg [V.slc true 2 (.int .i64 0) (I l)] = rr ∧ V.box 77 (V.agg [.slc false 5 (.int .u8 0) a0, .int .i64 A, .int .u64 H]) = yy := by
      intro l A H e
      rw [hr, hy, f_dr, e]
      exact ⟨rfl, rfl⟩
    refine ⟨p3, qs, fun _ => by omega, fun _ => by omega, fun _ => by omega, fun _ => trivial, fun h => ?_, fun h => ?_⟩
    · rw [if_pos ⟨by omega, h.2⟩] at hF
      exact ⟨by omega, by omega, by omega, by omega, by omega, by omega, hS2.1, fin [_, _] _ _ hF⟩
    · rw [if_neg (fun h' => by omega)] at hF
      rw [hbl]
      exact fin _ _ _ hF
  · cases h

def spF (es : List V) (a h : Int) : List Int × Int × Int :=
  let s := drF es a h
  let v := nxv es s.2 30
  let σ := nxs es s.2 30
  if v = 0 then (s.1.set 0 (pkv es σ [0, -1, 65, 2]), pks es σ [0, -1, 65, 2])
  else if v = 1 then (s.1 ++ [pkv es σ [2001, 1999, 5, 1099511627776]], pks es σ [2001, 1999, 5, 1099511627776])
  else if v = 2 then (s.1.drop 1, σ) else (s.1, σ)
theorem spF_src {es : List V} {a h : Int} (hq : q_src es a h) : q_src es (spF es a h).2.1 (spF es a h).2.2 ∧ (spF es a h).1.length ≤ 5 := by
  obtain ⟨h1, h2, h3⟩ := drF_src hq
  have h4 := src_nxs (σ := (drF es a h).2) (n := 30) h1
  unfold spF
  simp only
  split
  · exact ⟨src_pks (σ := nxs es (drF es a h).2 30) h4, by simp only [List.length_set]; omega⟩
  · split
    · exact ⟨src_pks (σ := nxs es (drF es a h).2 30) h4, by simp only [List.length_append, List.length_cons, List.length_nil]; omega⟩
    · split
      · refine ⟨h4, ?_⟩
        simp only [List.length_drop]
        omega
      · refine ⟨h4, ?_⟩
        show (drF es a h).1.length ≤ 5
        omega
def f_sp (es : List V) (a h : Int) : List V × Int × Int := (I (spF es a h).1, (spF es a h).2)
def ic_sp (f : List V → Int → Int → List V × Int × Int) (q : List V → Int → Int → Prop) : IContract := fun
  | [.box 77 (.agg [.slc false 5 (.int .u8 0) a0, .int .i64 a1, .int .u64 a2])] => some ([q a0 a1 a2], .agg [.slc false 2 (.int .i64 0) (f a0 a1 a2).1], .box 77 (.agg [.slc false 5 (.int .u8 0) a0, .int .i64 (f a0 a1 a2).2.1, .int .u64 (f a0 a1 a2).2.2]))
  | _ => none
set_option maxHeartbeats 1000000 in
set_option maxRecDepth 100000 in
theorem s_spec_l03Spoil : SatI Try.prog 26 1000 (ic_sp f_sp q_src) := by
  intro args ps r y h hp
  unfold ic_sp at h
  split at h
  · rename_i a0 a1 a2
    simp only [Option.some.injEq, Prod.mk.injEq] at h
    obtain ⟨rfl, rfl, rfl⟩ := h
    have hq : q_src a0 a1 a2 := (alls_cons.1 hp).1
    obtain ⟨S, hS⟩ : ∃ S, S = drF a0 a1 a2 := ⟨_, rfl⟩
    have hS2 := drF_src hq
    rw [← hS] at hS2
    have hF : spF a0 a1 a2 = if nxv a0 S.2 30 = 0 then (S.1.set 0 (pkv a0 (nxs a0 S.2 30) [0, -1, 65, 2]), pks a0 (nxs a0 S.2 30) [0, -1, 65, 2])
        else if nxv a0 S.2 30 = 1 then (S.1 ++ [pkv a0 (nxs a0 S.2 30) [2001, 1999, 5, 1099511627776]], pks a0 (nxs a0 S.2 30) [2001, 1999, 5, 1099511627776])
        else if nxv a0 S.2 30 = 2 then (S.1.drop 1, nxs a0 S.2 30) else (S.1, nxs a0 S.2 30) := by
      subst hS
      rfl
    obtain ⟨sl, A2, H2⟩ := S
    simp only at hF hS2
    have Es : f_dr a0 a1 a2 = (I sl, A2, H2) := by rw [f_dr, ← hS]
    obtain ⟨bl, hbl⟩ : ∃ bl, bl = I sl := ⟨_, rfl⟩
    obtain ⟨n, hn⟩ : ∃ n : Int, n = bl.length := ⟨_, rfl⟩
    have hnl : n = sl.length := by rw [hn, hbl, I_length]
    have gx : ∀ k, bl.getD k (.int .i64 0) = .int .i64 (sl.getD k 0) := fun k => by rw [hbl, I_getD]
    generalize H_f0_nx : f0_nx = F_f0_nx
    generalize H_f1_nx : f1_nx = F_f1_nx
    generalize H_f2_nx : f2_nx = F_f2_nx
    generalize H_q_nx : q_nx = F_q_nx
    generalize H_f0_pk : f0_pk = F_f0_pk
    generalize H_f1_pk : f1_pk = F_f1_pk
    generalize H_f2_pk : f2_pk = F_f2_pk
    generalize H_q_pk : q_pk = F_q_pk
    generalize H_f_dr : f_dr = F_f_dr
    generalize H_q_src : q_src = F_q_src
    refine fnIW_of (T := tab) (B := []) (Bi := [(56, 0, false, ic_nx F_f0_nx F_f1_nx F_f2_nx F_q_nx), (57, 0, false, ic_pk F_f0_pk F_f1_pk F_f2_pk F_q_pk), (55, 1000, false, ic_dr F_f_dr F_q_src)]) 0 [1000008003, 1000009003, 2000004800, 2000004810, 2000004811, 2000004813, 2000004814, 2000004999, 2000006800, 2000006818, 2000006819, 2000006821, 2000006822, 2000006999, 0, 2, 3, 7] Try.func26 rfl rfl (by kernel_rfl) (Nat.le_of_ble_eq_true rfl) mixed tabOk (by subst H_f0_nx H_f1_nx H_f2_nx H_q_nx H_f0_pk H_f1_pk H_f2_pk H_q_pk H_f_dr H_q_src; exact bookNil) (by subst H_f0_nx H_f1_nx H_f2_nx H_q_nx H_f0_pk H_f1_pk H_f2_pk H_q_pk H_f_dr H_q_src; exact (bookICons s_spec_l01Next (bookICons s_spec_l01Pick (bookICons s_spec_l03Draw bookINil)))) (by kernel_rfl) rfl rfl sh_src rfl ?_
    intro L lp rr yy hL hr hy hf hlp
    conv => cbv
    subst H_f0_nx H_f1_nx H_f2_nx H_q_nx H_f0_pk H_f1_pk H_f2_pk H_q_pk H_f_dr H_q_src
    simp only [Es, stdEqs hL, imp_self, true_and, and_true, bif_or, bif_and, Bool.or_eq_true, Bool.or_eq_false_iff, Bool.and_eq_true, Bool.and_eq_false_iff, decide_eq_true_eq, decide_eq_false_iff_not, Bool.not_eq_true', Bool.not_eq_false', beq_iff_eq, beq_eq_false_iff_ne, ne_eq, toNat0, toNat1, ok_int, toI_int, I_frzs, I_length, I_getD, ok_ints, toL_slc, true_and]
    have s0 : q_src a0 A2 H2 := hS2.1
    have s1 : q_src a0 (f1_nx a0 A2 H2 30) (f2_nx a0 A2 H2 30) := src_nx s0
    have n1 : 1 ≤ sl.length := hS2.2.1
    have n2 : sl.length ≤ 4 := hS2.2.2
    have fin : ∀ (l : List Int) (A H : Int), spF a0 a1 a2 = (l, A, H) → V.agg [V.slc false 2 (.int .i64 0) (I l)] = rr ∧ V.box 77 (V.agg [.slc false 5 (.int .u8 0) a0, .int .i64 A, .int .u64 H]) = yy := by
      intro l A H e
      rw [hr, hy, f_sp, e]
      exact ⟨rfl, rfl⟩
    have hF' : spF a0 a1 a2 = if f0_nx a0 A2 H2 30 = 0 then (sl.set 0 (pkv a0 (nxs a0 (A2, H2) 30) [0, -1, 65, 2]), pks a0 (nxs a0 (A2, H2) 30) [0, -1, 65, 2])
        else if f0_nx a0 A2 H2 30 = 1 then (sl ++ [pkv a0 (nxs a0 (A2, H2) 30) [2001, 1999, 5, 1099511627776]], pks a0 (nxs a0 (A2, H2) 30) [2001, 1999, 5, 1099511627776])
        else if f0_nx a0 A2 H2 30 = 2 then (sl.drop 1, nxs a0 (A2, H2) 30) else (sl, nxs a0 (A2, H2) 30) := hF
    refine ⟨hq, s0, fun h => ?_, fun h => ⟨fun h' => ?_, fun h' => ⟨fun h2 => ?_, fun h2 => ?_⟩⟩⟩
    · rw [if_pos h] at hF'
      refine ⟨⟨s1, ⟨[0, -1, 65, 2], rfl⟩, by decide, by decide⟩, by omega, by omega, by omega, ?_⟩
      have e : V.frzs ((I sl).set 0 (V.int .i64 (pkv a0 (nxs a0 (A2, H2) 30) [0, -1, 65, 2]))) = I (sl.set 0 (pkv a0 (nxs a0 (A2, H2) 30) [0, -1, 65, 2])) := by rw [I_set, I_frzs]
      have f := fin _ _ _ hF'
      rw [← e] at f
      exact f
    · rw [if_neg h, if_pos h'] at hF'
      refine ⟨⟨s1, ⟨[2001, 1999, 5, 1099511627776], rfl⟩, by decide, by decide⟩, rfl, ?_, solid_one _, ?_⟩
      · rw [List.length_singleton]; omega
      have e : V.frzs (I sl ++ [V.int .i64 (pkv a0 (nxs a0 (A2, H2) 30) [2001, 1999, 5, 1099511627776])]) = I (sl ++ [pkv a0 (nxs a0 (A2, H2) 30) [2001, 1999, 5, 1099511627776]]) := by
        rw [show [V.int .i64 (pkv a0 (nxs a0 (A2, H2) 30) [2001, 1999, 5, 1099511627776])] = I [pkv a0 (nxs a0 (A2, H2) 30) [2001, 1999, 5, 1099511627776]] from rfl, I_append, I_frzs]
      have f := fin _ _ _ hF'
      rw [← e] at f
      exact f
    · rw [if_neg h, if_neg h', if_pos h2] at hF'
      refine ⟨by omega, by omega, by omega, ?_⟩
      have f := fin _ _ _ hF'
      rw [Int.toNat_natCast, show List.take sl.length (I sl) = I sl from List.take_of_length_le (by rw [I_length]; exact Nat.le_refl _), I_drop]
      rw [I_frzs]
      exact f
    · rw [if_neg h, if_neg h', if_neg h2] at hF'
      exact fin _ _ _ hF'
  · cases h
end Go.Ax
/-
  The law of polar invariants: their sums, at all that is drawn. No conditions but those of the contracts.
-/
set_option linter.all false
namespace Go.Ax
open Go.Proofs

def q_by (es : List V) : Prop := ∃ xs : List Int, es = U8 xs ∧ ∀ x ∈ xs, 0 ≤ x ∧ x ≤ 255
def yesU (_ : List V) : Bool := true
theorem U8_frzs : ∀ xs : List Int, V.frzs (U8 xs) = U8 xs
  | [] => rfl
  | x :: xs => by
    have := U8_frzs xs
    simp only [U8] at this
    simp only [U8, List.map_cons, V.frzs, V.frz, this]
theorem by_big {a : List V} (h : q_by a) (hb : f_big a = false) : IsU a := by
  obtain ⟨xs, hxs, hr⟩ := h
  refine ⟨xs, hxs, hr, ?_⟩
  have hl : a.length = xs.length := by rw [hxs, U8, List.length_map]
  simp only [f_big, decide_eq_false_iff_not] at hb
  omega
end Go.Ax
/-
  What an argument of bytes is. No conditions.
-/
set_option linter.all false
namespace Go.Proofs.Ytdibahknjbgdkaa
open Go.ChangeShapes Go.WideShapes Go.ChangeAt Go.RowKit Go.Ax

theorem wt_byte {x : V} (h : Wt tab 5 x) : ∃ n, x = .int .u8 n ∧ 0 ≤ n ∧ n ≤ 255 := by
  cases h with
  | int _ ti k n h hk hn =>
    cases h; cases hk
    refine ⟨n, rfl, ?_⟩
    simp [Lit.wf] at hn
    have h1 : IntKind.u8.min = 0 := rfl
    have h2 : IntKind.u8.max = 255 := rfl
    omega
  | bool _ ti b h hk => cases h; cases hk
  | str _ ti b h hk => cases h; cases hk
  | slc _ ti e es h hk => cases h; cases hk
  | agg _ ti e es h hk => cases h; cases hk
theorem wt_bytes {x : V} (h : Wt tab 22 x) : ∃ es, x = .slc false 5 (.int .u8 0) es ∧ q_by es := by
  cases h with
  | int _ ti k n h hk hn => cases h; cases hk
  | bool _ ti b h hk => cases h; cases hk
  | str _ ti b h hk => cases h; cases hk
  | slc _ ti e es h hk hl he =>
    cases h; cases hk
    refine ⟨es, rfl, ?_⟩
    clear hl
    induction es with
    | nil => exact ⟨[], rfl, by simp⟩
    | cons y es ih =>
      obtain ⟨l, hl, hr⟩ := ih (fun i y hy => he (i + 1) y (by simpa using hy))
      obtain ⟨n, hn, h0, h1⟩ := wt_byte (he 0 y rfl)
      refine ⟨n :: l, by rw [hl, hn]; rfl, fun x hx => ?_⟩
      rcases List.mem_cons.1 hx with rfl | hx
      · exact ⟨h0, h1⟩
      · exact hr x hx
  | agg _ ti e es h hk => cases h; cases hk
end Go.Proofs.Ytdibahknjbgdkaa
