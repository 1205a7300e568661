/-
  Contractions: spec.l12Contraction. No conditions but those of the contracts.
-/
import Derived.Test.YtpcjjklkiejeaaaHy
import Derived.Test.YtpcjjklkiejeaaaIp
import Derived.Test.YtpcjjklkiejeaaaIq
set_option linter.all false
namespace Go.Ax
open Go.Proofs
set_option maxHeartbeats 2000000

def f_ctrs (a b : List V) : List V × List V × List V × List V × List V × Bool := match ctI (unI a) (unII b) with
  | some x => (I x.2.2.2.1, II false x.2.2.2.2, I x.1, II false x.2.1, I x.2.2.1, true)
  | none => ([], [], [], [], [], false)
def c_G_Ctn (f : List V → List V → List V × List V × List V × List V × List V × Bool) (q : List V → List V → Prop) : Contract := fun
  | [.agg [.slc false 2 (.int .i64 0) a0, .slc false 22 (.slc false 2 (.int .i64 0) []) a1]] => some ([q a0 a1], .tup [.slc false 2 (.int .i64 0) ((f a0 a1).1), .slc false 22 (.slc false 2 (.int .i64 0) []) ((f a0 a1).2.1), .agg [.slc false 2 (.int .i64 0) ((f a0 a1).2.2.1), .slc false 22 (.slc false 2 (.int .i64 0) []) ((f a0 a1).2.2.2.1)], .slc false 2 (.int .i64 0) ((f a0 a1).2.2.2.2.1), .bool ((f a0 a1).2.2.2.2.2)])
  | _ => none
set_option maxRecDepth 100000 in
theorem s_spec_l12Contraction : Sat Try.prog 25 (c_G_Ctn f_ctrs q_ctr) := by
  intro args ps r h hp
  unfold c_G_Ctn at h
  split at h
  · rename_i a0 a1
    simp only [Option.some.injEq, Prod.mk.injEq] at h
    obtain ⟨rfl, rfl⟩ := h
    obtain ⟨ws, es, hws, hes, g, hS⟩ : q_ctr a0 a1 := (alls_cons.1 hp).1
    have g0 : V.frzs a0 = a0 := by rw [hws, I_frzs]
    have g1 : V.frzs a1 = a1 := by rw [hes, II_frzs]
    have hwl : a0.length = ws.length := by rw [hws, I_length]
    have n2 := g.n2
    have n3 := g.el
    have hf2 : ctI ws es = none → f_ctrs a0 a1 = ([], [], [], [], [], false) := fun h => by rw [f_ctrs, hws, hes, unI_I, unII_II, h]
    have hf3 : ∀ x, ctI ws es = some x → f_ctrs a0 a1 = (I x.2.2.2.1, II false x.2.2.2.2, I x.1, II false x.2.1, I x.2.2.1, true) := fun x h => by rw [f_ctrs, hws, hes, unI_I, unII_II, h]
    obtain ⟨n, hn⟩ : ∃ n : Int, n = ws.length := ⟨_, rfl⟩
    generalize H_f_cpG : f_cpG = F_f_cpG
    generalize H_q_cpG : q_cpG = F_q_cpG
    generalize H_f_can : f_can = F_f_can
    generalize H_q_ctd : q_ctd = F_q_ctd
    generalize H_f_near : f_near = F_f_near
    generalize H_q_near : q_near = F_q_near
    generalize H_f_lct : f_lct = F_f_lct
    generalize H_same : same = F_same
    generalize H_IsIs : IsIs = F_IsIs
    refine fnOk_ofF (T := tab) (B := [(40, c_G_G F_f_cpG F_q_cpG), (41, c_Gi_b F_f_can F_q_ctd), (42, c_Gi_l F_f_near F_q_near), (43, c_Gi_Xb F_f_lct F_q_ctd), (44, c_laws_toInt64S F_same F_IsIs)]) (Bi := []) [1000021008, 1000024008, 1000024010, 1000024011, 2000001618, 2000021086, 2000024093, 2000024094, 2000024096, 3000024001, 3000024003, 0, 1, 2, 3, 4, 5, 6, 7, 8, 9, 10, 11, 12, 13, 14, 15, 16] Try.func25 rfl rfl (by kernel_rfl) (Nat.le_of_ble_eq_true rfl) mixed tabOk (by subst H_f_cpG H_q_cpG H_f_can H_q_ctd H_f_near H_q_near H_f_lct H_same H_IsIs; exact (bookCons s_spec_l11Own (bookCons s_spec_l11Can (bookCons s_spec_l11Near (bookCons s_spec_l11Contract (bookCons s_spec_l01Own bookNil)))))) (by subst H_f_cpG H_q_cpG H_f_can H_q_ctd H_f_near H_q_near H_f_lct H_same H_IsIs; exact bookINil) (by kernel_rfl) ?_
    intro L lp rr hL hr hf hlp
    have Ec : F_f_cpG a0 a1 = (a0, II true es) := by rw [← H_f_cpG, f_cpG, hes, unII_II]
    have Es : ∀ l, F_same l = l := fun l => by rw [← H_same]; rfl
    conv => cbv
    simp only [stdEqs hL, imp_self, true_and, and_true, bif_or, bif_and, Bool.or_eq_true, Bool.or_eq_false_iff, Bool.and_eq_true, Bool.and_eq_false_iff, decide_eq_true_eq, decide_eq_false_iff_not, Bool.not_eq_true', Bool.not_eq_false', beq_iff_eq, beq_eq_false_iff_ne, ne_eq, toNat0, toNat1, ok_int, toI_int, I_frzs, I_length, I_getD, ok_ints, toL_slc, g0, g1, Ec]
    rw [II_frzs, ← hes]
    refine ⟨by rw [← H_q_cpG]; exact ⟨⟨⟨_, hws⟩, by omega⟩, _, hes, by omega, fun e he => by rw [(g.ed e he).1]; decide⟩, ?_⟩
    refine hlp (List V × Int) _ _ _ [1, 4, 7, 8, 9] (fun x => [(1, none, .val (.box 29 (.agg [.slc false 2 (.int .i64 0) a0, .slc false 22 (.slc false 2 (.int .i64 0) []) a1]))), (4, none, .val (.box 29 (.agg [.slc true 2 (.int .i64 0) [], .slc true 22 (.slc true 2 (.int .i64 0) []) []]))), (7, none, .val (.box 29 (.agg [.slc false 2 (.int .i64 0) a0, .slc false 22 (.slc false 2 (.int .i64 0) []) a1]))), (8, none, .val (.slc true 2 (.int .i64 0) x.1)), (9, none, .val (.int .i64 x.2))])
      (fun x => 0 ≤ x.2 ∧ x.2 ≤ n ∧ x.1 = I (iota x.2.toNat)) (fun x => (n - x.2).toNat) (([], 0)) (by subst hL; rfl) ?_ ?_
    · exact ⟨by simp, by simp only; omega, rfl⟩
    rintro ⟨os, i⟩ ⟨i0, i1, hO⟩ hfx ag hag
    simp only at i0 i1 hO
    have hol : os.length = i.toNat := by rw [hO, I_length, iota_len]
    conv => cbv
    simp only [stdEqs hL, imp_self, true_and, and_true, bif_or, bif_and, Bool.or_eq_true, Bool.or_eq_false_iff, Bool.and_eq_true, Bool.and_eq_false_iff, decide_eq_true_eq, decide_eq_false_iff_not, Bool.not_eq_true', Bool.not_eq_false', beq_iff_eq, beq_eq_false_iff_ne, ne_eq, toNat0, toNat1, ok_int, toI_int, I_frzs, I_length, I_getD, ok_ints, toL_slc, g0, g1, hwl, hol, ← hn]
    rw [wrap_id (n := i + 1) (by omega) (by omega)]
    refine ⟨fun h2 => ⟨rfl, by simp only [List.length_singleton]; omega, solid_one _, ?_⟩, fun h2 => ?_⟩
    · refine hag (_, i + 1) ⟨by simp only; omega, by simp only; omega, ?_⟩ (by simp only; omega)
      simp only [toNat_succ i0]
      rw [hO, show iota (i.toNat + 1) = iota i.toNat ++ [((i.toNat : Nat) : Int)] from tab_succ _ _, ← I_append, show ((i.toNat : Nat) : Int) = i by omega]
      rfl
    clear hag hfx ag
    have hO2 : os = I (iota ws.length) := by rw [hO, show i.toNat = ws.length by omega]
    refine hlp (((List V × List V) × List V × List V × List V) × Int) _ _ _ [4, 7, 8, 10, 11, 12] (fun x => [(4, none, .val (.box 29 (.agg [.slc true 2 (.int .i64 0) [], .slc true 22 (.slc true 2 (.int .i64 0) []) []]))), (7, none, .val (.box 29 (.agg [.slc false 2 (.int .i64 0) x.1.1.1, .slc false 22 (.slc false 2 (.int .i64 0) []) x.1.1.2]))), (8, none, .val (.slc true 2 (.int .i64 0) x.1.2.1)), (10, none, .val (.slc true 2 (.int .i64 0) x.1.2.2.1)), (11, none, .val (.slc true 22 (.slc true 2 (.int .i64 0) []) x.1.2.2.2)), (12, none, .val (.int .i64 x.2))])
      (fun x => 0 ≤ x.2 ∧ ∃ wx ex nm li nr, x.1.1.1 = I wx ∧ x.1.1.2 = II false ex ∧ x.1.2.1 = I nm ∧ x.1.2.2.1 = I li ∧ x.1.2.2.2 = II true nr ∧ GrN wx.length ex ∧ Sep ex ∧ x.2 ≤ wx.length ∧ (∀ u : Nat, u < x.2.toNat → canI wx ex (u : Int) = false) ∧ nm.length = wx.length ∧ li.length + wx.length ≤ 40 ∧ nr.length = li.length ∧ ctI ws es = itS ctF wx ex (nm, li, nr)) (fun x => (42 * (x.1.1.1.length : Int) + 42 - x.2).toNat) ((((a0, a1), os, [], []), 0)) (by subst hL; rfl) ?_ ?_
    · exact ⟨by simp, ws, es, iota ws.length, [], [], hws, hes, hO2, rfl, rfl, g, hS, by simp only; omega, fun u hu => by simp at hu, iota_len _, by simp only [List.length_nil]; omega, rfl, rfl⟩
    rintro ⟨⟨⟨os, fs⟩, ms, us, rs⟩, v⟩ ⟨v0, wx, ex, nm, li, nr, hO, hF, hM, hU, hR, gx, hSx, v1, hC, hml, hll, hrl, hI⟩ hfx ag hag
    simp only at v0 v1 hO hF hM hU hR hC
    have gos : V.frzs os = os := by rw [hO, I_frzs]
    have gfs : V.frzs fs = fs := by rw [hF, II_frzs]
    have hol : os.length = wx.length := by rw [hO, I_length]
    have hul : us.length = li.length := by rw [hU, I_length]
    have hrl2 : rs.length = li.length := by rw [hR, II_length, hrl]
    have hml2 : ms.length = wx.length := by rw [hM, I_length, hml]
    have gms : ∀ k, ms.getD k (.int .i64 0) = .int .i64 (nm.getD k 0) := fun k => by rw [hM, I_getD]
    have n2 := gx.n2
    obtain ⟨n, hn⟩ : ∃ n : Int, n = wx.length := ⟨_, rfl⟩
    obtain ⟨b, hb⟩ : ∃ b, b = canI wx ex v := ⟨_, rfl⟩
    have Eb : F_f_can os fs v = b := by rw [← H_f_can, hO, hF, can_I, hb]
    obtain ⟨L, hLn⟩ : ∃ L, L = near ex v := ⟨_, rfl⟩
    obtain ⟨vl, hvl⟩ : ∃ vl, vl = I L := ⟨_, rfl⟩
    have En : F_f_near os fs v = vl := by rw [← H_f_near, f_near, hF, unII_II, ← hLn, hvl]
    have hLin : ∀ x ∈ L, 0 ≤ x ∧ x < wx.length := fun x hx => near_in gx.ed (v := v) (by rw [← hLn]; exact hx)
    have hLl : L.length ≤ 1000 := by
      rw [hLn, near, List.length_append]
      have := nearA_len ex v
      have := nearB_len ex v
      have := gx.el
      omega
    have hvll : vl.length = L.length := by rw [hvl, I_length]
    obtain ⟨m, hm⟩ : ∃ m : Int, m = L.length := ⟨_, rfl⟩
    conv => cbv
    simp only [stdEqs hL, imp_self, true_and, and_true, bif_or, bif_and, Bool.or_eq_true, Bool.or_eq_false_iff, Bool.and_eq_true, Bool.and_eq_false_iff, decide_eq_true_eq, decide_eq_false_iff_not, Bool.not_eq_true', Bool.not_eq_false', beq_iff_eq, beq_eq_false_iff_ne, ne_eq, toNat0, toNat1, ok_int, toI_int, I_frzs, I_length, I_getD, ok_ints, toL_slc, gos, gfs, hol, ← hn, Eb, En]
    rw [wrap_id (n := v + 1) (by omega) (by omega)]
    have hvt : ((v.toNat : Nat) : Int) = v := by omega
    have hqc : v < n → F_q_ctd os fs v := fun h2 => by
      rw [← H_q_ctd]; exact ⟨⟨wx, ex, hO, hF, gx⟩, v0, by omega⟩
    refine ⟨fun h2 => ⟨hqc h2, fun h3 => ?_, fun h3 => ⟨?_, ?_⟩⟩, fun h2 => ?_⟩
    · refine hag (((_, _), _, _, _), v + 1) ⟨by simp only; omega, wx, ex, nm, li, nr, hO, hF, hM, hU, hR, gx, hSx, by simp only; omega, fun u hu => ?_, hml, hll, hrl, hI⟩ (by simp only [hol]; omega)
      simp only [toNat_succ v0] at hu
      by_cases e : u = v.toNat
      · rw [e, hvt, ← hb]; exact h3
      · exact hC u (by omega)
    · rw [← H_q_near]
      exact ⟨⟨_, hO⟩, ex, hF, by have := gx.el; omega, fun e he => (gx.ed e he).1⟩
    · have hfc := fstC_some (ws := wx) (es := ex) (v := v.toNat) (by omega) (by rw [hvt, ← hb]; exact h3) hC
      refine hlp (List V × Int) _ _ _ [4, 7, 8, 10, 11, 12, 13, 14] (fun x => [(4, none, .val (.box 29 (.agg [.slc true 2 (.int .i64 0) [], .slc true 22 (.slc true 2 (.int .i64 0) []) []]))), (7, none, .val (.box 29 (.agg [.slc false 2 (.int .i64 0) os, .slc false 22 (.slc false 2 (.int .i64 0) []) fs]))), (8, none, .val (.slc true 2 (.int .i64 0) ms)), (10, none, .val (.slc true 2 (.int .i64 0) us)), (11, none, .val (.slc true 22 (.slc true 2 (.int .i64 0) []) rs)), (12, none, .val (.int .i64 v)), (13, none, .val (.slc true 2 (.int .i64 0) x.1)), (14, none, .val (.int .i64 x.2))])
        (fun x => 0 ≤ x.2 ∧ x.2 ≤ m ∧ x.1 = I (mapK (fun i => nm.getD i.toNat 0) x.2.toNat L)) (fun x => (m - x.2).toNat) ((vl, 0)) (by subst hL; rfl) ?_ ?_
      · exact ⟨by simp, by simp only; omega, by simp only; rw [show (0 : Int).toNat = 0 from rfl, mapK_0, hvl]⟩
      rintro ⟨ns, i⟩ ⟨i0, i1, hN⟩ hfx2 ag2 hag2
      simp only at i0 i1 hN
      have hnl : ns.length = L.length := by rw [hN, I_length, mapK_len]
      have gns : ∀ k, ns.getD k (.int .i64 0) = .int .i64 ((mapK (fun i => nm.getD i.toNat 0) i.toNat L).getD k 0) := fun k => by rw [hN, I_getD]
      obtain ⟨z1, z2, ok, hz⟩ : ∃ z1 z2 ok, f_lct os fs v = (z1, z2, ok) := ⟨_, _, _, rfl⟩
      have Ez : F_f_lct os fs v = (z1, z2, ok) := by rw [← H_f_lct, hz]
      conv => cbv
      simp only [stdEqs hL, imp_self, true_and, and_true, bif_or, bif_and, Bool.or_eq_true, Bool.or_eq_false_iff, Bool.and_eq_true, Bool.and_eq_false_iff, decide_eq_true_eq, decide_eq_false_iff_not, Bool.not_eq_true', Bool.not_eq_false', beq_iff_eq, beq_eq_false_iff_ne, ne_eq, toNat0, toNat1, ok_int, toI_int, I_frzs, I_length, I_getD, ok_ints, toL_slc, gos, gfs, hnl, gns, mapK_at, hml2, gms, ← hm, Ez, Es]
      rw [wrap_id (n := i + 1) (by omega) (by omega)]
      refine ⟨fun h7 => ?_, fun h7 => ⟨hqc h2, fun h4 => ?_, fun h4 => ?_⟩⟩
      · have hin : i.toNat < L.length := by omega
        have htn := hLin _ (gAtD hin)
        refine ⟨i0, h7, hin, htn.1, htn.2, by omega, i0, h7, hin, ?_⟩
        refine hag2 (_, i + 1) ⟨by simp only; omega, by simp only; omega, ?_⟩ (by simp only; omega)
        simp only [toNat_succ i0]
        rw [hN, I_set, ← mapK_set (fun i => nm.getD i.toNat 0) L 0 hin]
      · have hi : incW wx (near ex v) = none := by
          cases hi : incW wx (near ex v) with
          | none => rfl
          | some w =>
            rw [f_lct, hO, hF, unI_I, unII_II, hi] at hz
            injection hz with _ hz
            injection hz with _ hz
            rw [h4] at hz
            cases hz
        have h5 : itS ctF wx ex (nm, li, nr) = none := itS_fail _ _ hfc (by rw [hvt]; exact hi)
        rw [hr, hf2 (hI.trans h5)]
        rfl
      · obtain ⟨w, hi⟩ : ∃ w, incW wx (near ex v) = some w := by
          cases hi : incW wx (near ex v) with
          | some w => exact ⟨w, rfl⟩
          | none =>
            rw [f_lct, hO, hF, unI_I, unII_II, hi] at hz
            injection hz with _ hz
            injection hz with _ hz
            rw [h4] at hz
            cases hz
        rw [f_lct, hO, hF, unI_I, unII_II, hi] at hz
        injection hz with hz1 hz
        injection hz with hz2 _
        have hwl2 := incW_len _ _ _ hi
        have hdl := dropAt_len (xs := w) (i := v.toNat) (by omega)
        have hdn := dropAt_len (xs := nm) (i := v.toNat) (by omega)
        obtain ⟨g2, hS2⟩ := nex_ok gx hSx (v := v.toNat) (by omega) (by rw [hvt, ← hb]; exact h3) (by rw [hvt]; exact hi)
        rw [hvt] at g2 hS2
        have hNs : ns = I (nmM nm L) := by rw [hN, mapK_all _ _ (by omega)]; rfl
        have hfm : V.frzs ms = I nm := by rw [hM, I_frzs]
        have Qs : ∀ l : List Int, l.length ≤ 1000 → F_IsIs (I l) := fun l hl => by rw [← H_IsIs]; exact ⟨⟨_, rfl⟩, by rw [I_length]; omega⟩
        rw [wrap_id (n := v + 1) (by omega) (by omega)]
        have ht2 : (v + 1).toNat = v.toNat + 1 := by omega
        have ht3 : nm.take nm.length = nm := List.take_length
        have hd0 : I (nm.take v.toNat) ++ I (nm.drop (v.toNat + 1)) = I (dropAt nm v.toNat) := by rw [I_append, dropAt]
        simp only [hfm, ht2, I_take, I_drop, I_frzs, I_length, List.drop_zero, Int.toNat_natCast, ht3, I_owneds, hd0]
        have hwt : (nm.take v.toNat).length = v.toNat := by rw [List.length_take]; omega
        have hwd : (nm.drop (v.toNat + 1)).length = nm.length - (v.toNat + 1) := List.length_drop ..
        have hvv : v.toNat < wx.length := by omega
        refine ⟨v0, by omega, hvv, rfl, by simp only [List.length_singleton]; omega, solid_one _, by simp only [List.length_singleton]; omega, solid1 (by simp [V.solid]), Int.le_refl _, v0, by omega, Qs _ (by omega), by omega, by omega, Int.le_refl _, trivial, by omega, I_solid _, ?_⟩
        refine hag (((_, _), _, _, _), 0) ⟨by simp, dropAt w v.toNat, nexE ex v, dropAt nm v.toNat, li ++ [nm.getD v.toNat 0], nr ++ [nmM nm L], hz1.symm, hz2.symm, rfl, ?_, ?_, g2, hS2, by simp only; omega, fun u hu => by simp at hu, by omega, by simp only [List.length_append, List.length_singleton]; omega, by simp [hrl], ?_⟩ ?_
        · rw [hU, ← I_append]; rfl
        · rw [hR, hNs, II_append]; rfl
        · have h5 := itS_step ctF (nm, li, nr) hfc (by rw [hvt]; exact hi)
          rw [hI, h5, hvt, ctF, hvt, ← hLn]
        · simp only [← hz1, hol, I_length]
          rw [show (delL w v.toNat (v.toNat + 1)).length = (dropAt w v.toNat).length from rfl]
          omega
    · have hfc := fstC_none (ws := wx) (es := ex) (fun u hu => hC u (by omega))
      have h5 : itS ctF wx ex (nm, li, nr) = some (wx, ex, nm, li, nr) := itS_end _ _ hfc
      have e1 : V.frzs (V.frzs us) = I li := by rw [hU, I_frzs, I_frzs]
      have e2 : V.frzs (V.frzs rs) = II false nr := by rw [hR, II_frzs, II_frzs]
      have e3 : V.frzs (V.frzs ms) = I nm := by rw [hM, I_frzs, I_frzs]
      rw [hr, hf3 _ (hI.trans h5), e1, e2, e3, hO, hF]
  · cases h
end Go.Ax
