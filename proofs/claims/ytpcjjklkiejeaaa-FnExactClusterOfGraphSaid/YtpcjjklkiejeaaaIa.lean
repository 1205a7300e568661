/-
  Contractions: impl.contract. No conditions but those of the contracts.
-/
import Derived.Test.YtpcjjklkiejeaaaHr
import Derived.Test.YtpcjjklkiejeaaaHy
import Derived.Test.YtpcjjklkiejeaaaIp
import Derived.Test.YtpcjjklkiejeaaaIq
set_option linter.all false
namespace Go.Ax
open Go.Proofs
set_option maxHeartbeats 2000000

def f_fper (n : Int) : List V := I (iota n.toNat)
def q_fper (n : Int) : Prop := 0 ≤ n ∧ n ≤ 1000000
def c_i_l (f : Int → List V) (q : Int → Prop) : Contract := fun
  | [.int .i64 a0] => some ([q a0], .slc true 2 (.int .i64 0) (f a0))
  | _ => none
set_option maxRecDepth 100000 in
theorem s_impl_firstPermutation : Sat Try.prog 50 (c_i_l f_fper q_fper) := by
  intro args ps r h hp
  unfold c_i_l at h
  split at h
  · rename_i m
    simp only [Option.some.injEq, Prod.mk.injEq] at h
    obtain ⟨rfl, rfl⟩ := h
    obtain ⟨m0, m1⟩ : q_fper m := (alls_cons.1 hp).1
    refine fnOk_ofI (T := tab) (B := []) (Bi := []) [0, 2, 3, 4, 6, 7] Try.func50 rfl rfl (by kernel_rfl) (Nat.le_of_ble_eq_true rfl) mixed tabOk (by exact bookNil) (by exact bookINil) (by kernel_rfl) ?_
    intro L lp rr hL hr hf hlp
    conv => cbv
    refine hlp (List V × Int) _ _ _ [3, 6, 7] (fun x => [(3, none, .val (.slc true 2 (.int .i64 0) x.1)), (6, none, .val (.int .i64 m)), (7, none, .val (.int .i64 x.2))])
      (fun x => 0 ≤ x.2 ∧ x.2 ≤ m ∧ x.1 = I (iota x.2.toNat)) (fun x => (m - x.2).toNat) (([], 0)) (by subst hL; rfl) ?_ ?_
    · exact ⟨by simp, m0, rfl⟩
    rintro ⟨os, i⟩ ⟨i0, i1, hO⟩ hfx ag hag
    simp only at i0 i1 hO
    have hol : os.length = i.toNat := by rw [hO, I_length, iota_len]
    conv => cbv
    simp only [stdEqs hL, imp_self, true_and, and_true, bif_or, bif_and, Bool.or_eq_true, Bool.or_eq_false_iff, Bool.and_eq_true, Bool.and_eq_false_iff, decide_eq_true_eq, decide_eq_false_iff_not, Bool.not_eq_true', Bool.not_eq_false', beq_iff_eq, beq_eq_false_iff_ne, ne_eq, toNat0, toNat1, ok_int, toI_int, I_frzs, I_length, I_getD, ok_ints, toL_slc, hol]
    rw [wrap_id (n := i + 1) (by omega) (by omega)]
    refine ⟨fun h2 => ⟨rfl, by simp only [List.length_singleton]; omega, solid_one _, ?_⟩, fun h2 => ?_⟩
    · refine hag (_, i + 1) ⟨by simp only; omega, by simp only; omega, ?_⟩ (by simp only; omega)
      simp only [toNat_succ i0]
      rw [hO, show iota (i.toNat + 1) = iota i.toNat ++ [((i.toNat : Nat) : Int)] from tab_succ _ _, ← I_append, show ((i.toNat : Nat) : Int) = i by omega]
      rfl
    · rw [hr, hO, f_fper, show i.toNat = m.toNat by omega]
  · cases h
def f_ctr (a b : List V) : List V × List V × List V × List V × List V × Int := match ctI (unI a) (unII b) with
  | some x => (I x.2.2.2.1, II true x.2.2.2.2, I x.1, II true x.2.1, I x.2.2.1, 0)
  | none => ([], [], [], [], [], 3)
def c_G_Ni (f : List V → List V → List V × List V × List V × List V × List V × Int) (q : List V → List V → Prop) : Contract := fun
  | [.agg [.slc false 2 (.int .i64 0) a0, .slc false 22 (.slc false 2 (.int .i64 0) []) a1]] => some ([q a0 a1], .tup [.agg [.slc true 2 (.int .i64 0) ((f a0 a1).1), .slc true 22 (.slc true 2 (.int .i64 0) []) ((f a0 a1).2.1), .agg [.slc true 2 (.int .i64 0) ((f a0 a1).2.2.1), .slc true 22 (.slc true 2 (.int .i64 0) []) ((f a0 a1).2.2.2.1)], .slc true 2 (.int .i64 0) ((f a0 a1).2.2.2.2.1)], .int .i64 ((f a0 a1).2.2.2.2.2)])
  | _ => none
set_option maxRecDepth 100000 in
theorem s_impl_contract : Sat Try.prog 29 (c_G_Ni f_ctr q_ctr) := by
  intro args ps r h hp
  unfold c_G_Ni at h
  split at h
  · rename_i a0 a1
    simp only [Option.some.injEq, Prod.mk.injEq] at h
    obtain ⟨rfl, rfl⟩ := h
    obtain ⟨ws, es, hws, hes, g, hS⟩ : q_ctr a0 a1 := (alls_cons.1 hp).1
    have g0 : V.frzs a0 = a0 := by rw [hws, I_frzs]
    have g1 : V.frzs a1 = a1 := by rw [hes, II_frzs]
    have hwl : a0.length = ws.length := by rw [hws, I_length]
    have n2 := g.n2
    have n3 := g.el
    have hf2 : ctI ws es = none → f_ctr a0 a1 = ([], [], [], [], [], 3) := fun h => by rw [f_ctr, hws, hes, unI_I, unII_II, h]
    have hf3 : ∀ x, ctI ws es = some x → f_ctr a0 a1 = (I x.2.2.2.1, II true x.2.2.2.2, I x.1, II true x.2.1, I x.2.2.1, 0) := fun x h => by rw [f_ctr, hws, hes, unI_I, unII_II, h]
    obtain ⟨ve, hve⟩ : ∃ ve, ve = II true es := ⟨_, rfl⟩
    obtain ⟨n, hn⟩ : ∃ n : Int, n = ws.length := ⟨_, rfl⟩
    obtain ⟨vp, hvp⟩ : ∃ vp, vp = I (iota ws.length) := ⟨_, rfl⟩
    generalize H_f_cpG : f_cpG = F_f_cpG
    generalize H_q_cpG : q_cpG = F_q_cpG
    generalize H_f_fper : f_fper = F_f_fper
    generalize H_q_fper : q_fper = F_q_fper
    generalize H_f_cbl : f_cbl = F_f_cbl
    generalize H_q_GrN : q_GrN = F_q_GrN
    generalize H_f_ctd : f_ctd = F_f_ctd
    generalize H_q_ctd : q_ctd = F_q_ctd
    generalize H_f_nbs : f_nbs = F_f_nbs
    generalize H_f_del : f_del = F_f_del
    generalize H_q_del : q_del = F_q_del
    refine fnOk_ofI (T := tab) (B := [(49, c_G_G F_f_cpG F_q_cpG), (50, c_i_l F_f_fper F_q_fper), (51, c_G_i F_f_cbl F_q_GrN), (52, c_Gi_Gi9 F_f_ctd F_q_ctd), (53, c_G_m F_f_nbs F_q_GrN)]) (Bi := [(54, 0, true, ic_del F_f_del F_q_del)]) [2000001012, 2000001016, 0, 1, 2, 3, 4, 5, 6, 7, 8, 10, 43, 44, 45, 40] Try.func29 rfl rfl (by kernel_rfl) (Nat.le_of_ble_eq_true rfl) mixed tabOk (by subst H_f_cpG H_q_cpG H_f_fper H_q_fper H_f_cbl H_q_GrN H_f_ctd H_q_ctd H_f_nbs H_f_del H_q_del; exact (bookCons s_impl_copyGraph (bookCons s_impl_firstPermutation (bookCons s_impl_contractible (bookCons s_impl_contracted (bookCons s_impl_neighboursOf bookNil)))))) (by subst H_f_cpG H_q_cpG H_f_fper H_q_fper H_f_cbl H_q_GrN H_f_ctd H_q_ctd H_f_nbs H_f_del H_q_del; exact (bookMCons s_delete bookINil)) (by kernel_rfl) ?_
    intro L lp rr hL hr hf hlp
    have Ec : F_f_cpG a0 a1 = (a0, ve) := by rw [← H_f_cpG, f_cpG, hes, unII_II, hve]
    have hvf : V.frzs ve = a1 := by rw [hve, hes, II_frzs]
    have Eb : F_f_cbl a0 a1 = cblI ws es := by rw [← H_f_cbl, f_cbl, hws, hes, unI_I, unII_II]
    have Ep : F_f_fper n = vp := by rw [← H_f_fper, f_fper, hvp, hn, Int.toNat_natCast]
    conv => cbv
    simp only [stdEqs hL, imp_self, true_and, and_true, bif_or, bif_and, Bool.or_eq_true, Bool.or_eq_false_iff, Bool.and_eq_true, Bool.and_eq_false_iff, decide_eq_true_eq, decide_eq_false_iff_not, Bool.not_eq_true', Bool.not_eq_false', beq_iff_eq, beq_eq_false_iff_ne, ne_eq, toNat0, toNat1, ok_int, toI_int, I_frzs, I_length, I_getD, ok_ints, toL_slc, g0, g1, hwl, ← hn, Ec, hvf, Eb, Ep]
    refine ⟨by rw [← H_q_cpG]; exact ⟨⟨⟨_, hws⟩, by omega⟩, _, hes, by omega, fun e he => by rw [(g.ed e he).1]; decide⟩, by rw [← H_q_fper]; exact ⟨by omega, by omega⟩, by rw [← H_q_GrN]; exact ⟨ws, es, hws, hes, g⟩, ?_⟩
    refine hlp ((List V × List V × List V × List V × List V) × Int) _ _ _ [2, 4, 5] (fun x => [(2, none, .val (.box 51 (.agg [.slc true 2 (.int .i64 0) [], .slc true 22 (.slc true 2 (.int .i64 0) []) [], .agg [.slc true 2 (.int .i64 0) [], .slc true 22 (.slc true 2 (.int .i64 0) []) []], .slc true 2 (.int .i64 0) []]))), (4, none, .val (.box 51 (.agg [.slc true 2 (.int .i64 0) x.1.1, .slc true 22 (.slc true 2 (.int .i64 0) []) x.1.2.1, .agg [.slc true 2 (.int .i64 0) x.1.2.2.1, .slc true 22 (.slc true 2 (.int .i64 0) []) x.1.2.2.2.1], .slc true 2 (.int .i64 0) x.1.2.2.2.2]))), (5, none, .val (.int .i64 x.2))])
      (fun x => ∃ li nr wx ex nm, x.1.1 = I li ∧ x.1.2.1 = II true nr ∧ x.1.2.2.1 = I wx ∧ x.1.2.2.2.1 = II true ex ∧ x.1.2.2.2.2 = I nm ∧ GrN wx.length ex ∧ Sep ex ∧ nm.length = wx.length ∧ li.length + wx.length ≤ 40 ∧ nr.length = li.length ∧ x.2 = cblI wx ex ∧ ctI ws es = itS ctF wx ex (nm, li, nr)) (fun x => x.1.2.2.1.length) ((([], [], a0, ve, vp), cblI ws es)) (by subst hL; rfl) ?_ ?_
    · exact ⟨[], [], ws, es, iota ws.length, rfl, rfl, hws, hve, hvp, g, hS, iota_len _, by simp only [List.length_nil]; omega, rfl, rfl, rfl⟩
    rintro ⟨⟨us, rs, os, fs, ms⟩, v⟩ ⟨li, nr, wx, ex, nm, hU, hR, hO, hF, hM, gx, hSx, hml, hll, hrl, hV, hI⟩ hfx ag hag
    simp only at hU hR hO hF hM hV
    have gos : V.frzs os = I wx := by rw [hO, I_frzs]
    have gfs : V.frzs fs = II false ex := by rw [hF, II_frzs]
    have hul : us.length = li.length := by rw [hU, I_length]
    have hrl2 : rs.length = li.length := by rw [hR, II_length, hrl]
    have hml2 : ms.length = wx.length := by rw [hM, I_length, hml]
    have gms : ∀ k, ms.getD k (.int .i64 0) = .int .i64 (nm.getD k 0) := fun k => by rw [hM, I_getD]
    have n2 := gx.n2
    obtain ⟨z1, z2, code, hz⟩ : ∃ z1 z2 code, f_ctd (I wx) (II false ex) v = (z1, z2, code) := ⟨_, _, _, rfl⟩
    have Ez : F_f_ctd (I wx) (II false ex) v = (z1, z2, code) := by rw [← H_f_ctd, hz]
    obtain ⟨vn, hvn⟩ : ∃ vn, vn = II true (nbs wx.length ex) := ⟨_, rfl⟩
    have En : F_f_nbs (I wx) (II false ex) = vn := by rw [← H_f_nbs, f_nbs, unII_II, I_length, hvn]
    have hvnl : vn.length = wx.length := by rw [hvn, II_length, nbs, tab_len]
    have gvn : ∀ j, vn.getD j (.slc true 2 (.int .i64 0) []) = .slc true 2 (.int .i64 0) (I ((nbs wx.length ex).getD j [])) := fun j => by rw [hvn, II_getD]
    conv => cbv
    simp only [stdEqs hL, imp_self, true_and, and_true, bif_or, bif_and, Bool.or_eq_true, Bool.or_eq_false_iff, Bool.and_eq_true, Bool.and_eq_false_iff, decide_eq_true_eq, decide_eq_false_iff_not, Bool.not_eq_true', Bool.not_eq_false', beq_iff_eq, beq_eq_false_iff_ne, ne_eq, toNat0, toNat1, ok_int, toI_int, I_frzs, I_length, I_getD, ok_ints, toL_slc, gos, gfs, Ez, En, hvnl, gvn]
    have hf1' : incW wx (near ex v) = none → code = 3 := fun h2 => by
      rw [f_ctd, unI_I, unII_II, h2] at hz
      injection hz with _ hz
      injection hz with _ hz
      exact hz.symm
    have hf2' : ∀ w, incW wx (near ex v) = some w → I (delL w v.toNat (v.toNat + 1)) = z1 ∧ II true (nexE ex v) = z2 ∧ code = 0 := fun w h2 => by
      rw [f_ctd, unI_I, unII_II, h2] at hz
      injection hz with hz1 hz
      injection hz with hz2 hz3
      exact ⟨hz1, hz2, hz3.symm⟩
    refine ⟨fun h2 => ?_, fun h2 => ?_⟩
    · obtain ⟨vt, hfc⟩ : ∃ vt, fstC wx ex = some vt := by
        cases hfc : fstC wx ex with
        | some vt => exact ⟨vt, rfl⟩
        | none =>
          rw [cblI, hfc] at hV
          simp only at hV
          omega
      have hv : v = (vt : Int) := by rw [hV, cblI, hfc]
      have hvt : v.toNat = vt := by omega
      obtain ⟨k1, k2, k3⟩ := of_fstC hfc
      have hfz : V.noFzs z1 = true ∧ V.noFzs z2 = true := by
        cases hi : incW wx (near ex v) with
        | none =>
          rw [f_ctd, unI_I, unII_II, hi] at hz
          injection hz with hz1 hz
          injection hz with hz2 _
          rw [← hz1, ← hz2]
          exact ⟨rfl, rfl⟩
        | some w =>
          obtain ⟨w1, w2, _⟩ := hf2' w hi
          rw [← w1, ← w2]
          exact ⟨I_noFzs _, II_noFzs _⟩
      have hq2 : F_q_GrN (I wx) (II false ex) := by rw [← H_q_GrN]; exact ⟨wx, ex, rfl, rfl, gx⟩
      have hvv : v.toNat < wx.length := by omega
      refine ⟨by rw [← H_q_ctd]; exact ⟨⟨wx, ex, rfl, rfl, gx⟩, by omega, by rw [I_length]; omega⟩, hfz.1, hfz.2, fun h3 => ?_, fun h3 => ⟨hq2, by rw [hvn]; exact II_noFzs _, h2, by omega, hvv, hvv, ?_⟩⟩
      · have hi : incW wx (near ex v) = none := by
          cases hi : incW wx (near ex v) with
          | none => rfl
          | some w => exact absurd (hf2' w hi).2.2 h3
        have h5 : itS ctF wx ex (nm, li, nr) = none := itS_fail _ _ hfc (by rw [← hv]; exact hi)
        rw [hr, hf2 (hI.trans h5), hf1' hi]
      obtain ⟨w, hi⟩ : ∃ w, incW wx (near ex v) = some w := by
        cases hi : incW wx (near ex v) with
        | some w => exact ⟨w, rfl⟩
        | none => have := hf1' hi; omega
      obtain ⟨w1, w2, _⟩ := hf2' w hi
      have w1 : I (dropAt w v.toNat) = z1 := w1
      have hwl2 := incW_len _ _ _ hi
      have hdl := dropAt_len (xs := w) (i := v.toNat) (by omega)
      obtain ⟨g2, hS2⟩ := nex_ok gx hSx k1 k2 (by rw [← hv]; exact hi)
      rw [← hv, ← hvt] at g2
      rw [← hv] at hS2
      obtain ⟨L, hLn⟩ : ∃ L, L = near ex v := ⟨_, rfl⟩
      have hnv : (nbs wx.length ex).getD v.toNat [] = L := by rw [nbs, tab_get _ _ _ _ hvv, hLn, show ((v.toNat : Nat) : Int) = v by omega]
      have hLin : ∀ x ∈ L, 0 ≤ x ∧ x < wx.length := fun x hx => near_in gx.ed (v := v) (by rw [← hLn]; exact hx)
      have hLl : L.length ≤ 1000 := by
        rw [hLn, near, List.length_append]
        have := nearA_len ex v
        have := nearB_len ex v
        have := gx.el
        omega
      obtain ⟨m, hm⟩ : ∃ m : Int, m = L.length := ⟨_, rfl⟩
      obtain ⟨vk, hvk⟩ : ∃ vk, vk = v.toNat := ⟨_, rfl⟩
      have hnv2 := hnv
      rw [← hvk] at hnv2
      have hvk2 : vk < wx.length := by omega
      simp only [← hvk, hnv2, ← hm]
      refine hlp (List V × Int) _ _ _ [2, 4, 5, 6, 8, 40, 43, 44, 45] (fun x => [(2, none, .val (.box 51 (.agg [.slc true 2 (.int .i64 0) [], .slc true 22 (.slc true 2 (.int .i64 0) []) [], .agg [.slc true 2 (.int .i64 0) [], .slc true 22 (.slc true 2 (.int .i64 0) []) []], .slc true 2 (.int .i64 0) []]))), (4, none, .val (.box 51 (.agg [.slc true 2 (.int .i64 0) us, .slc true 22 (.slc true 2 (.int .i64 0) []) rs, .agg [.slc true 2 (.int .i64 0) os, .slc true 22 (.slc true 2 (.int .i64 0) []) fs], .slc true 2 (.int .i64 0) ms]))), (5, none, .val (.int .i64 v)), (6, none, .val (.box 29 (.agg [.slc true 2 (.int .i64 0) z1, .slc true 22 (.slc true 2 (.int .i64 0) []) z2]))), (8, none, .val (.slc true 2 (.int .i64 0) x.1)), (40, none, .val (.slc true 22 (.slc true 2 (.int .i64 0) []) vn)), (43, none, .rf 40 0 [vk]), (44, none, .val (.int .i64 m)), (45, none, .val (.int .i64 x.2))])
        (fun x => 0 ≤ x.2 ∧ x.2 ≤ m ∧ x.1 = I (nmM nm (L.take x.2.toNat))) (fun x => (m - x.2).toNat) (([], 0)) (by subst hL; rfl) ?_ ?_
      · exact ⟨by simp, by simp only; omega, rfl⟩
      rintro ⟨ns, i⟩ ⟨i0, i1, hN⟩ hfx2 ag2 hag2
      simp only at i0 i1 hN
      have hnl : ns.length = i.toNat := by rw [hN, I_length, nmM, List.length_map, List.length_take]; omega
      conv => cbv
      simp only [stdEqs hL, imp_self, true_and, and_true, bif_or, bif_and, Bool.or_eq_true, Bool.or_eq_false_iff, Bool.and_eq_true, Bool.and_eq_false_iff, decide_eq_true_eq, decide_eq_false_iff_not, Bool.not_eq_true', Bool.not_eq_false', beq_iff_eq, beq_eq_false_iff_ne, ne_eq, toNat0, toNat1, ok_int, toI_int, I_frzs, I_length, I_getD, ok_ints, toL_slc, hvnl, gvn, hnv2, hml2, gms, hnl]
      rw [wrap_id (n := i + 1) (by omega) (by omega)]
      refine ⟨fun h7 => ?_, fun h7 => ?_⟩
      · have hin : i.toNat < L.length := by omega
        obtain ⟨t, ht⟩ : ∃ t, t = L.getD i.toNat 0 := ⟨_, rfl⟩
        have htn := hLin t (by rw [ht]; exact gAtD hin)
        simp only [← ht]
        refine ⟨hvk2, i0, by omega, hvk2, hin, htn.1, by omega, by omega, rfl, by simp only [List.length_singleton]; omega, solid_one _, ?_⟩
        refine hag2 (_, i + 1) ⟨by simp only; omega, by simp only; omega, ?_⟩ (by simp only; omega)
        simp only [toNat_succ i0]
        have htk : L.take (i.toNat + 1) = L.take i.toNat ++ [t] := by
          rw [List.take_succ, ht, List.getD_eq_getElem?_getD, List.getElem?_eq_getElem hin]; rfl
        rw [hN, htk, nmM, nmM, List.map_append, ← I_append]
        rfl
      · have hNs : ns = I (nmM nm L) := by rw [hN, List.take_of_length_le (by omega)]
        rw [wrap_id (n := v + 1) (by omega) (by omega)]
        have e1 : V.frzs z1 = I (dropAt w v.toNat) := by rw [← w1, I_frzs]
        have e2 : V.frzs z2 = II false (nexE ex v) := by rw [← w2, II_frzs]
        have Eb2 : F_f_cbl (I (dropAt w v.toNat)) (II false (nexE ex v)) = cblI (dropAt w v.toNat) (nexE ex v) := by rw [← H_f_cbl, f_cbl, unI_I, unII_II]
        have Ed : F_f_del ms v (v + 1) = I (dropAt nm v.toNat) := by
          rw [← H_f_del, f_del, hM, unI_I, show (v + 1).toNat = v.toNat + 1 by omega]
          rfl
        rw [e1, e2, Eb2, Ed]
        refine ⟨h2, by omega, hvv, rfl, by simp only [List.length_singleton]; omega, solid_one _, by simp only [List.length_singleton]; omega, solid1 (by simp [V.solid]), ?_, ?_, ?_⟩
        · rw [← H_q_del]
          exact ⟨nm, hM, h2, by omega, by omega, by omega, by omega⟩
        · rw [← H_q_GrN]
          exact ⟨_, _, rfl, rfl, g2⟩
        · have hdn := dropAt_len (xs := nm) (i := v.toNat) (by omega)
          refine hag ((_, _, _, _, _), _) ⟨li ++ [nm.getD v.toNat 0], nr ++ [nmM nm L], dropAt w v.toNat, nexE ex v, dropAt nm v.toNat, ?_, ?_, w1.symm, w2.symm, rfl, g2, hS2, by omega, by simp only [List.length_append, List.length_singleton]; omega, by simp [hrl], rfl, ?_⟩ ?_
          · rw [hU, ← I_append]; rfl
          · rw [hR, hNs, II_append]; rfl
          · rw [hI, itS_step ctF (nm, li, nr) hfc (by rw [← hv]; exact hi), ctF, ← hvt, show ((v.toNat : Nat) : Int) = v by omega, ← hLn]
          · simp only [hO, ← w1, I_length]
            omega
    · have hfc : fstC wx ex = none := by
        cases hfc : fstC wx ex with
        | none => rfl
        | some vt =>
          rw [cblI, hfc] at hV
          simp only at hV
          omega
      have h5 : itS ctF wx ex (nm, li, nr) = some (wx, ex, nm, li, nr) := itS_end _ _ hfc
      rw [hr, hf3 _ (hI.trans h5), hO, hF, hU, hR, hM]
  · cases h
end Go.Ax
