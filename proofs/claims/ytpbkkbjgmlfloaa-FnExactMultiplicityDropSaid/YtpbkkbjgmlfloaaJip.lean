/-
  Blown up curves: impl.blownUp. No conditions but those of the contracts.
-/
import Derived.Test.YtpbkkbjgmlfloaaJhp
import Derived.Test.YtpbkkbjgmlfloaaJcp
set_option linter.all false
namespace Go.Ax
open Go.Proofs

def c_C_Ri (f : List V → List V → List V × Int) (q : List V → List V → Prop) : Contract := fun
  | [.agg [.slc false 58 (.agg [.slc false 2 (.int .i64 0) []]) a0, .slc false 53 (.slc false 2 (.int .i64 0) []) a1]] => some ([q a0 a1], .tup [.slc true 31 (.agg [.slc true 58 (.agg [.slc true 2 (.int .i64 0) []]) [], .slc true 53 (.slc true 2 (.int .i64 0) []) []]) ((f a0 a1).1), .int .i64 ((f a0 a1).2)])
  | _ => none
set_option maxRecDepth 100000 in
theorem s_impl_blownUp : Sat Try.prog 24 (c_C_Ri f_bup q_cv) := by
  intro args ps r h hp
  unfold c_C_Ri at h
  split at h
  · rename_i a0 a1
    simp only [Option.some.injEq, Prod.mk.injEq] at h
    obtain ⟨rfl, rfl⟩ := h
    have hq0 : q_cv a0 a1 := (alls_cons.1 hp).1
    obtain ⟨⟨⟨bs, hbs, hb1, hb2⟩, ⟨ms, hms, hm1, hm2⟩⟩, hcv⟩ := (alls_cons.1 hp).1
    rw [hbs, hms, unBB_BB, unII_II] at hcv
    have g1 : V.frzs a0 = a0 := by rw [hbs, BB_frzs]
    have g2 : V.frzs a1 = a1 := by rw [hms, II_frzs]
    have hbl : a0.length = bs.length := by rw [hbs, BB_length]
    have hml : a1.length = ms.length := by rw [hms, II_length]
    have gb : ∀ k, a0.getD k (.agg [.slc false 2 (.int .i64 0) []]) = .agg [.slc false 2 (.int .i64 0) (I (bs.getD k []))] := fun k => by rw [hbs, BB_getD]
    have gm : ∀ k, a1.getD k (.slc false 2 (.int .i64 0) []) = .slc false 2 (.int .i64 0) (I (ms.getD k [])) := fun k => by rw [hms, II_getD]
    have hm0 : ∀ x y : Nat, (ms.getD x []).getD y 0 = mm ms x y := fun _ _ => rfl
    obtain ⟨n, hn⟩ : ∃ n : Int, n = bs.length := ⟨_, rfl⟩
    have n1 := hcv.n1
    have n6 := hcv.n6
    have hmn : ms.length = bs.length := hcv.tab.len
    have hbr : ∀ i, i < bs.length → Br (bs.getD i []) := fun i hi => br_of (hcv.br i hi)
    have rl : ∀ k, k < bs.length → (ms.getD k []).length = bs.length := fun k hk => (hcv.tab.row k hk).1
    have mmr : ∀ i k, i < bs.length → k < bs.length → 0 ≤ mm ms i k ∧ mm ms i k ≤ 200 := fun i k hi hk => hcv.tab.range hi hk
    have mmo : ∀ i k, i < bs.length → k < bs.length → i ≠ k → 1 ≤ mm ms i k ∧ mm ms i k ≤ 200 := fun i k hi hk hne => ((hcv.tab.row i hi).2 k hk).2 hne
    obtain ⟨tl, htl⟩ : ∃ tl, tl = (tanS ms bs.length).1 := ⟨_, rfl⟩
    obtain ⟨tn, htn⟩ : ∃ tn, tn = (tanS ms bs.length).2 := ⟨_, rfl⟩
    have tlen : tl.length = bs.length := by rw [htl]; exact (tanS_in ms _).1
    have tn0 : 0 ≤ tn ∧ tn ≤ bs.length := by rw [htn]; exact ⟨(tanS_in ms _).2.1, (tanS_in ms _).2.2.1⟩
    have hcon : ∀ x : Int, 0 ≤ x → tl.contains x = decide (x < tn) := fun x hx => by rw [htl, htn]; exact tanS_contains ms _ x hx
    obtain ⟨vt, hvt⟩ : ∃ vt, vt = I tl := ⟨_, rfl⟩
    have hvl : vt.length = bs.length := by rw [hvt, I_length, tlen]
    have gvt : ∀ k, vt.getD k (.int .i64 0) = .int .i64 (tl.getD k 0) := fun k => by rw [hvt, I_getD]
    have g5 : V.frzs vt = vt := by rw [hvt, I_frzs]
    have hf0 : f_bup a0 a1 = bupR (blS bs ms tl tn.toNat) := by
      rw [f_bup, bl, hbl, hbs, hms, unBB_BB, unII_II, ← htl, ← htn]
    generalize H_f_tan : f_tan = F_f_tan
    generalize H_q_cv : q_cv = F_q_cv
    generalize H_f_has : f_has = F_f_has
    generalize H_q_lI : q_lI = F_q_lI
    generalize H_f_part : f_part = F_f_part
    generalize H_q_part : q_part = F_q_part
    generalize H_f_str : f_str = F_f_str
    generalize H_IsBr : IsBr = F_IsBr
    refine fnOk_ofI (T := tab) (B := [(50, c_C_l F_f_tan F_q_cv), (51, c_lxi_b F_f_has F_q_lI), (52, c_Cl_C F_f_part F_q_part), (53, c_B_Bi F_f_str F_IsBr)]) (Bi := []) [2000020997, 0, 1, 2, 3, 4, 5, 6, 7, 8, 9, 10, 11, 12, 13, 14, 15, 25, 26, 27, 44, 45, 46, 66, 67] Try.func24 rfl rfl (by kernel_rfl) (Nat.le_of_ble_eq_true rfl) mixed tabOk (by subst H_f_tan H_q_cv H_f_has H_q_lI H_f_part H_q_part H_f_str H_IsBr; exact (bookCons s_impl_tangents (bookCons s_slicesContains (bookCons s_impl_partOf (bookCons s_impl_StrictTransform bookNil))))) (by subst H_f_tan H_q_cv H_f_has H_q_lI H_f_part H_q_part H_f_str H_IsBr; exact bookINil) (by kernel_rfl) ?_
    intro L lp rr hL hr hf hlp
    have Et : F_f_tan a0 a1 = vt := by rw [← H_f_tan, f_tan, hbl, hms, unII_II, hvt, htl]
    have Eh : ∀ x, 0 ≤ x → F_f_has vt x = decide (x < tn) := fun x hx => by rw [← H_f_has, f_has, hvt, unI_I]; exact hcon x hx
    conv => cbv
    simp only [stdEqs hL, imp_self, true_and, and_true, bif_or, bif_and, Bool.or_eq_true, Bool.or_eq_false_iff, Bool.and_eq_true, Bool.and_eq_false_iff, decide_eq_true_eq, decide_eq_false_iff_not, Bool.not_eq_true', Bool.not_eq_false', beq_iff_eq, beq_eq_false_iff_ne, ne_eq, toNat0, toNat1, ok_int, toI_int, I_frzs, I_length, I_getD, ok_ints, toL_slc, g1, g2, Et]
    refine ⟨by rw [← H_q_cv]; exact hq0, ?_⟩
    refine hlp (List V × Int) _ _ _ [1, 4, 5, 6] (fun x => [(1, none, .val (.box 31 (.agg [.slc false 58 (.agg [.slc false 2 (.int .i64 0) []]) a0, .slc false 53 (.slc false 2 (.int .i64 0) []) a1]))), (4, none, .val (.slc true 2 (.int .i64 0) vt)), (5, none, .val (.slc true 31 (.agg [.slc true 58 (.agg [.slc true 2 (.int .i64 0) []]) [], .slc true 53 (.slc true 2 (.int .i64 0) []) []]) x.1)), (6, none, .val (.int .i64 x.2))])
      (fun x => 0 ≤ x.2 ∧ x.2 ≤ tn ∧ ∃ o, blS bs ms tl x.2.toNat = some o ∧ x.1 = CC true o) (fun x => (tn - x.2).toNat) (([], 0)) (by subst hL; rfl) ?_ ?_
    · exact ⟨by simp, by simp only; omega, [], rfl, rfl⟩
    rintro ⟨es, t⟩ ⟨t0, t1, o, ho, hes⟩ hfx ag hag
    simp only at t0 t1 ho hes
    have hel : es.length = t.toNat := by rw [hes, CC_length, blS_len _ ho]
    conv => cbv
    simp only [stdEqs hL, imp_self, true_and, and_true, bif_or, bif_and, Bool.or_eq_true, Bool.or_eq_false_iff, Bool.and_eq_true, Bool.and_eq_false_iff, decide_eq_true_eq, decide_eq_false_iff_not, Bool.not_eq_true', Bool.not_eq_false', beq_iff_eq, beq_eq_false_iff_ne, ne_eq, toNat0, toNat1, ok_int, toI_int, I_frzs, I_length, I_getD, ok_ints, toL_slc, g5, Eh t t0]
    refine ⟨?_, fun h2 => ?_, fun h2 => ?_⟩
    · rw [← H_q_lI]; exact ⟨⟨_, hvt⟩, by rw [hvl]; omega⟩
    · refine hlp (List V × Int) _ _ _ [1, 4, 5, 6, 7, 25, 26, 27] (fun y => [(1, none, .val (.box 31 (.agg [.slc false 58 (.agg [.slc false 2 (.int .i64 0) []]) a0, .slc false 53 (.slc false 2 (.int .i64 0) []) a1]))), (4, none, .val (.slc true 2 (.int .i64 0) vt)), (5, none, .val (.slc true 31 (.agg [.slc true 58 (.agg [.slc true 2 (.int .i64 0) []]) [], .slc true 53 (.slc true 2 (.int .i64 0) []) []]) es)), (6, none, .val (.int .i64 t)), (7, none, .val (.slc true 2 (.int .i64 0) y.1)), (25, none, .rf 4 0 []), (26, none, .val (.int .i64 n)), (27, none, .val (.int .i64 y.2))])
        (fun y => 0 ≤ y.2 ∧ y.2 ≤ n ∧ y.1 = I (plN tl t y.2.toNat)) (fun y => (n - y.2).toNat) (([], 0)) (by subst hL; rw [hn, ← hvl]; rfl) ?_ ?_
      · exact ⟨by simp, by simp only; omega, rfl⟩
      rintro ⟨ps, k⟩ ⟨k0, k1, hps⟩ hfx2 ag2 hag2
      simp only at k0 k1 hps
      conv => cbv
      simp only [stdEqs hL, imp_self, true_and, and_true, bif_or, bif_and, Bool.or_eq_true, Bool.or_eq_false_iff, Bool.and_eq_true, Bool.and_eq_false_iff, decide_eq_true_eq, decide_eq_false_iff_not, Bool.not_eq_true', Bool.not_eq_false', beq_iff_eq, beq_eq_false_iff_ne, ne_eq, toNat0, toNat1, ok_int, toI_int, I_frzs, I_length, I_getD, ok_ints, toL_slc, hvl, gvt]
      refine ⟨fun h3 => ⟨k0, by omega, by omega, fun h4 => ?_, fun h4 => ?_⟩, fun h3 => ?_⟩
      · have hpl : ps.length ≤ 1000 := by rw [hps, I_length]; have := (plN_in tl t k.toNat).2; omega
        rw [wrap_id (n := k + 1) (by omega) (by omega)]
        refine ⟨rfl, by simp only [List.length_cons, List.length_nil]; omega, solid_one _, hag2 (_, k + 1) ⟨by simp only; omega, by simp only; omega, ?_⟩ (by simp only; omega)⟩
        simp only [toNat_succ k0]
        rw [plN, if_pos h4, hps, ← I_append, show ((k.toNat : Nat) : Int) = k by omega]
        rfl
      · rw [wrap_id (n := k + 1) (by omega) (by omega)]
        refine hag2 (_, k + 1) ⟨by simp only; omega, by simp only; omega, ?_⟩ (by simp only; omega)
        simp only [toNat_succ k0]
        rw [plN, if_neg h4, hps]
      obtain ⟨ls, hls⟩ : ∃ ls, ls = plN tl t tl.length := ⟨_, rfl⟩
      have hps' : ps = I ls := by rw [hps, hls, show k.toNat = tl.length by omega]
      have lin : InL bs.length ls := by rw [hls, ← tlen]; exact (plN_in tl t _).1
      have lle : ls.length ≤ bs.length := by rw [hls, ← tlen]; exact (plN_in tl t _).2
      have htt : ((t.toNat : Nat) : Int) = t := by omega
      have hls2 : ls = plN tl (t.toNat : Nat) tl.length := by rw [htt]; exact hls
      have hbad : ∀ j : Nat, j < ls.length → 399 < (sq1 (bs.getD (ls.getD j 0).toNat [])).length → blS bs ms tl tn.toNat = none := by
        rw [hls2]
        intro j hj hb
        have h1 := blS_none (blS_bad (bs := bs) (ms := ms) hj hb) (tn.toNat - (t.toNat + 1))
        rwa [show t.toNat + 1 + (tn.toNat - (t.toNat + 1)) = tn.toNat by omega] at h1
      have hgood : (∀ j, j < ls.length → (sq1 (bs.getD (ls.getD j 0).toNat [])).length ≤ 399) → blS bs ms tl (t.toNat + 1) = some (o ++ [(stB bs ls ls.length, stM ms ls ls.length 0)]) := by
        rw [hls2]
        exact fun hb => blS_good ho hb
      obtain ⟨m, hm⟩ : ∃ m : Int, m = ls.length := ⟨_, rfl⟩
      obtain ⟨pb, hpb⟩ : ∃ pb, pb = BB true (stB bs ls 0) := ⟨_, rfl⟩
      obtain ⟨pm, hpm⟩ : ∃ pm, pm = II true (stM ms ls 0 0) := ⟨_, rfl⟩
      have hpbl : pb.length = ls.length := by rw [hpb, BB_length, stB_len]
      have Ep : F_f_part a0 a1 ps = (pb, pm) := by rw [← H_f_part, f_part, hbs, hms, hps', unBB_BB, unII_II, unI_I, hpb, hpm, stB_zero, stM_zero]
      have gps : V.frzs ps = ps := by rw [hps', I_frzs]
      simp only [g1, g2, gps, Ep]
      refine ⟨by rw [← H_q_part]; exact ⟨hq0, ls, hps', by rwa [hbl], by omega⟩, by rw [hpb]; exact BB_noFzs _, by rw [hpm]; exact II_noFzs _, ?_⟩
      refine hlp ((List V × List V) × Int) _ _ _ [1, 4, 5, 6, 10, 44, 45, 46] (fun x => [(1, none, .val (.box 31 (.agg [.slc false 58 (.agg [.slc false 2 (.int .i64 0) []]) a0, .slc false 53 (.slc false 2 (.int .i64 0) []) a1]))), (4, none, .val (.slc true 2 (.int .i64 0) vt)), (5, none, .val (.slc true 31 (.agg [.slc true 58 (.agg [.slc true 2 (.int .i64 0) []]) [], .slc true 53 (.slc true 2 (.int .i64 0) []) []]) es)), (6, none, .val (.int .i64 t)), (10, none, .val (.box 31 (.agg [.slc true 58 (.agg [.slc true 2 (.int .i64 0) []]) x.1.1, .slc true 53 (.slc true 2 (.int .i64 0) []) x.1.2]))), (44, none, .rf 10 0 [0, 0]), (45, none, .val (.int .i64 m)), (46, none, .val (.int .i64 x.2))])
        (fun x => 0 ≤ x.2 ∧ x.2 ≤ m ∧ x.1.1 = BB true (stB bs ls x.2.toNat) ∧ x.1.2 = II true (stM ms ls x.2.toNat 0) ∧ ∀ j : Nat, j < x.2.toNat → (sq1 (bs.getD (ls.getD j 0).toNat [])).length ≤ 399) (fun x => (m - x.2).toNat) (((pb, pm), 0)) (by subst hL; rw [hm, ← hpbl]; rfl) ?_ ?_
      · exact ⟨by simp, by simp only; omega, hpb, hpm, fun j hj => by simp at hj⟩
      rintro ⟨⟨fs, gs⟩, i⟩ ⟨i0, i1, hfs, hgs, hok⟩ hfx3 ag3 hag3
      simp only at i0 i1 hfs hgs hok
      conv => cbv
      simp only [stdEqs hL, decide_eq_true_eq, decide_eq_false_iff_not]
      refine ⟨fun h4 => ?_, fun h4 => ?_⟩
      · have hil : i.toNat < ls.length := by omega
        have hxl := lin i.toNat hil
        obtain ⟨xi, hxi⟩ : ∃ xi, xi = bs.getD (ls.getD i.toNat 0).toNat [] := ⟨_, rfl⟩
        have hbx : Br xi := by rw [hxi]; exact hbr _ (by omega)
        have hfl : fs.length = ls.length := by rw [hfs, BB_length, stB_len]
        have hgl : gs.length = ls.length := by rw [hgs, II_length, stM_len]
        have gf : fs.getD i.toNat (.agg [.slc true 2 (.int .i64 0) []]) = .agg [.slc true 2 (.int .i64 0) (I xi)] := by rw [hfs, BB_getD, stB_get hil, ← hxi]
        have gst : ∀ x d : V, (fs.set i.toNat x).getD i.toNat d = x := fun x d => by rw [List.getD_eq_getElem?_getD, List.getElem?_set_self (by omega)]; rfl
        obtain ⟨⟨vs, cs⟩, hvs⟩ : ∃ p, p = f_str (I xi) := ⟨_, rfl⟩
        have Es : F_f_str (I xi) = (vs, cs) := by rw [← H_f_str, hvs]
        have hvf : V.noFzs vs = true ∧ (cs ≠ 0 → 399 < (sq1 xi).length ∧ cs = 3) ∧ (cs = 0 → (sq1 xi).length ≤ 399 ∧ vs = I (strI xi)) := by
          rw [f_str, unI_I] at hvs
          split at hvs
          · obtain ⟨rfl, rfl⟩ := Prod.mk.injEq .. ▸ hvs
            exact ⟨rfl, fun _ => ⟨by omega, rfl⟩, fun h => absurd h (by decide)⟩
          · obtain ⟨rfl, rfl⟩ := Prod.mk.injEq .. ▸ hvs
            exact ⟨I_noFzs _, fun h => absurd rfl h, fun _ => ⟨by omega, rfl⟩⟩
        simp only [stdEqs hL, imp_self, true_and, and_true, bif_or, bif_and, Bool.or_eq_true, Bool.or_eq_false_iff, Bool.and_eq_true, Bool.and_eq_false_iff, decide_eq_true_eq, decide_eq_false_iff_not, Bool.not_eq_true', Bool.not_eq_false', beq_iff_eq, beq_eq_false_iff_ne, ne_eq, toNat0, toNat1, ok_int, toI_int, I_frzs, I_length, I_getD, ok_ints, toL_slc, hfl, gf, ok_bran, toL_bran, fld_bran, gst, List.length_set, Es]
        refine ⟨i0, by omega, hil, hil, by rw [← H_IsBr]; exact ⟨xi, rfl, hbx⟩, hvf.1, fun hc => ?_, fun hc => ⟨i0, by omega, hil, .inr ⟨.agg [.slc true 2 (.int .i64 0) []], rfl, rfl, rfl⟩, ?_⟩⟩
        · have h5 := hvf.2.1 hc
          rw [hr, hf0, hbad i.toNat hil (by rw [← hxi]; exact h5.1), bupR, h5.2]
        obtain ⟨hx399, hvs2⟩ := hvf.2.2 hc
        obtain ⟨fs2, hfs2⟩ : ∃ fs2, fs2 = (fs.set i.toNat (.agg [.hole 1])).set i.toNat (.agg [.slc true 2 (.int .i64 0) vs]) := ⟨_, rfl⟩
        have hfs3 : fs2 = BB true (stB bs ls (i.toNat + 1)) := by rw [hfs2, List.set_set, hvs2, hfs, BB_set, hxi, stB_set]
        have hfs4 : fs2.length = ls.length := by rw [hfs3, BB_length, stB_len]
        refine hlp (List V × Int) _ _ _ [1, 4, 5, 6, 10, 11, 44, 45, 46, 66, 67] (fun w => [(1, none, .val (.box 31 (.agg [.slc false 58 (.agg [.slc false 2 (.int .i64 0) []]) a0, .slc false 53 (.slc false 2 (.int .i64 0) []) a1]))), (4, none, .val (.slc true 2 (.int .i64 0) vt)), (5, none, .val (.slc true 31 (.agg [.slc true 58 (.agg [.slc true 2 (.int .i64 0) []]) [], .slc true 53 (.slc true 2 (.int .i64 0) []) []]) es)), (6, none, .val (.int .i64 t)), (10, none, .val (.box 31 (.agg [.slc true 58 (.agg [.slc true 2 (.int .i64 0) []]) fs2, .slc true 53 (.slc true 2 (.int .i64 0) []) w.1]))), (11, none, .val (.int .i64 i)), (44, none, .rf 10 0 [0, 0]), (45, none, .val (.int .i64 m)), (46, none, .val (.int .i64 i)), (66, none, .val (.int .i64 m)), (67, none, .val (.int .i64 w.2))])
          (fun w => 0 ≤ w.2 ∧ w.2 ≤ m ∧ w.1 = II true (stM ms ls i.toNat w.2.toNat)) (fun w => (m - w.2).toNat) ((gs, 0)) (by subst hL; rw [hm, ← hfs4, hfs2]; rfl) ?_ ?_
        · exact ⟨by simp, by simp only; omega, hgs⟩
        rintro ⟨hs, c⟩ ⟨c0, c1, hhs⟩ hfx4 ag4 hag4
        simp only at c0 c1 hhs
        have hhl : hs.length = ls.length := by rw [hhs, II_length, stM_len]
        have gh : hs.getD i.toNat (.slc true 2 (.int .i64 0) []) = .slc true 2 (.int .i64 0) (I (dcR ms ls i.toNat c.toNat)) := by rw [hhs, II_getD, stM_get hil]
        have hcl : c < m → c.toNat < ls.length := fun _ => by omega
        obtain ⟨z, hz⟩ : ∃ z, z = mm ms (ls.getD i.toNat 0).toNat (ls.getD c.toNat 0).toNat := ⟨_, rfl⟩
        have hzr : c < m → 0 ≤ z ∧ z ≤ 200 := fun hc => by
          have hxc := lin c.toNat (hcl hc)
          rw [hz]; exact mmr _ _ (by omega) (by omega)
        have gz : c < m → (dcR ms ls i.toNat c.toNat).getD c.toNat 0 = z := fun hc => by rw [dcR_get (hcl hc), hz]
        conv => cbv
        simp only [stdEqs hL, imp_self, true_and, and_true, bif_or, bif_and, Bool.or_eq_true, Bool.or_eq_false_iff, Bool.and_eq_true, Bool.and_eq_false_iff, decide_eq_true_eq, decide_eq_false_iff_not, Bool.not_eq_true', Bool.not_eq_false', beq_iff_eq, beq_eq_false_iff_ne, ne_eq, toNat0, toNat1, ok_int, toI_int, I_frzs, I_length, I_getD, ok_ints, toL_slc, hhl, gh, dcR_len]
        refine ⟨fun h6 => ⟨fun h7 => ?_, fun h7 => ?_⟩, fun h6 => ?_⟩
        · have hcl := hcl h6
          have hzr := hzr h6
          rw [gz h6, wrap_id (n := z - 1) (by omega) (by omega), wrap_id (n := c + 1) (by omega) (by omega)]
          refine ⟨i0, by omega, hil, hil, c0, by omega, hil, hcl, hil, c0, by omega, hil, hcl, hag4 (_, c + 1) ⟨by simp only; omega, by simp only; omega, ?_⟩ (by simp only; omega)⟩
          simp only [toNat_succ c0]
          rw [← stM_set (by omega), ← hz, hhs, ← II_set, ← I_set]
        · rw [wrap_id (n := c + 1) (by omega) (by omega)]
          refine hag4 (_, c + 1) ⟨by simp only; omega, by simp only; omega, ?_⟩ (by simp only; omega)
          simp only [toNat_succ c0]
          rw [hhs, show c.toNat = i.toNat by omega, stM_skip]
        · rw [wrap_id (n := i + 1) (by omega) (by omega)]
          refine hag3 ((_, _), i + 1) ⟨by simp only; omega, by simp only; omega, ?_, ?_, fun j hj => ?_⟩ (by simp only; omega)
          · simp only [toNat_succ i0]; exact hfs3
          · simp only [toNat_succ i0]
            rw [hhs, show c.toNat = ls.length by omega, stM_next]
          · simp only [toNat_succ i0] at hj
            by_cases hji : j = i.toNat
            · rw [hji, ← hxi]; exact hx399
            · exact hok j (by omega)
      · have hgd := hgood (fun j hj => hok j (by omega))
        have hfs' : fs = BB true (stB bs ls ls.length) := by rw [hfs, show i.toNat = ls.length by omega]
        have hgs' : gs = II true (stM ms ls ls.length 0) := by rw [hgs, show i.toNat = ls.length by omega]
        rw [wrap_id (n := t + 1) (by omega) (by omega)]
        refine ⟨by simp only [List.length_cons, List.length_nil]; omega, ?_, hag (_, t + 1) ⟨by simp only; omega, by simp only; omega, _, by simp only [toNat_succ t0]; exact hgd, ?_⟩ (by simp only; omega)⟩
        · exact solid1 rfl
        · simp only
          rw [CC_append, hes, hfs', hgs']
          rfl
    · have : t = tn := by omega
      rw [hr, hf0, ← this, ho, bupR, hes]
  · cases h
end Go.Ax
