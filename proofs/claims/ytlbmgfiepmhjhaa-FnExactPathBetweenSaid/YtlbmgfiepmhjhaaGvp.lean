/-
  Neighbours in order, ValencesOf: both sides, the law. No conditions but those of the contracts.
-/
import Derived.Test.YtlbmgfiepmhjhaaGtp
import Derived.Test.YtlbmgfiepmhjhaaSup
import Derived.Test.YtlbmgfiepmhjhaaHpp
set_option linter.all false
namespace Go.Ax
open Go.Proofs

def inc (es : List (List Int)) (v : Int) : List Int := es.flatMap fun e => (if e0 e = v then [e1 e] else []) ++ (if e1 e = v then [e0 e] else [])
theorem inc_step (es : List (List Int)) (v : Int) (k : Nat) (h : k < es.length) : inc (es.take (k + 1)) v = inc (es.take k) v ++ ((if e0 (es.getD k []) = v then [e1 (es.getD k [])] else []) ++ (if e1 (es.getD k []) = v then [e0 (es.getD k [])] else [])) := by
  rw [take_succ_tot _ _ h, inc, inc, List.flatMap_append]
  simp
theorem inc_perm : ∀ (es : List (List Int)) (v : Int), (inc es v).Perm (near es v)
  | [], _ => List.Perm.refl _
  | e :: es, v => by
    have ih := inc_perm es v
    have e1' : inc (e :: es) v = ((if e0 e = v then [e1 e] else []) ++ (if e1 e = v then [e0 e] else [])) ++ inc es v := by simp [inc]
    have e2' : near (e :: es) v = ((if e1 e = v then [e0 e] else []) ++ nearA es v) ++ ((if e0 e = v then [e1 e] else []) ++ nearB es v) := by
      simp only [near, nearA, nearB, List.filter_cons, beq_iff_eq]
      congr 1
      · split <;> simp
      · split <;> simp
    rw [e1', e2']
    generalize (if e0 e = v then [e1 e] else []) = A
    generalize (if e1 e = v then [e0 e] else []) = B
    rw [near] at ih
    refine ((ih.append_left (A ++ B)).trans ?_)
    rw [List.append_assoc, List.append_assoc]
    refine (List.perm_append_comm_assoc A B _).trans ?_
    refine List.Perm.append_left B ?_
    refine (List.perm_append_comm_assoc A (nearA es v) _)
def stI' (n : Nat) (es : List (List Int)) : List (List Int) := tab' (fun i => inc es i) n
def stD (n : Nat) (es : List (List Int)) (k : Nat) : List (List Int) := tab' (fun i => if i < k then near es i else inc es i) n
theorem stI_step {n : Nat} {es : List (List Int)} {k : Nat} (hk : k < es.length) {a b : Nat} (ha : a < n) (hb : b < n) (hab : a ≠ b) (h0 : e0 (es.getD k []) = a) (h1 : e1 (es.getD k []) = b) :
    ((stI' n (es.take k)).set a ((stI' n (es.take k)).getD a [] ++ [(b : Int)])).set b ((stI' n (es.take k)).getD b [] ++ [(a : Int)]) = stI' n (es.take (k + 1)) := by
  have hs := fun v => inc_step es v k hk
  rw [h0, h1] at hs
  rw [stI', tab_get _ _ _ _ ha, tab_get _ _ _ _ hb, tab_setG _ _ ha, tab_setG _ _ hb, stI']
  refine tab_congr fun j hj => ?_
  rw [hs]
  by_cases hjb : j = b
  · rw [if_pos hjb, if_neg (by omega), if_pos (by omega), hjb]; simp
  · rw [if_neg hjb]
    by_cases hja : j = a
    · rw [if_pos hja, if_pos (by omega), if_neg (by omega), hja]; simp
    · rw [if_neg hja, if_neg (by omega), if_neg (by omega)]; simp
theorem stD_step {n : Nat} {es : List (List Int)} (hp : ∀ v, (near es v).Pairwise (· < ·)) {k : Nat} (hk : k < n) : (stD n es k).set k (srt ((stD n es k).getD k [])) = stD n es (k + 1) := by
  rw [stD, tab_get _ _ _ _ hk, if_neg (Nat.lt_irrefl _), srt_eq (inc_perm es k) (hp k), tab_setG _ _ hk, stD]
  refine tab_congr fun j hj => ?_
  by_cases h : j = k
  · rw [if_pos h, if_pos (by omega), h]
  · rw [if_neg h]
    by_cases h2 : j < k
    · rw [if_pos h2, if_pos (by omega)]
    · rw [if_neg h2, if_neg (by omega)]
def q_GrN (a b : List V) : Prop := ∃ ws es, a = I ws ∧ b = II false es ∧ GrN ws.length es
def nbs (n : Nat) (es : List (List Int)) : List (List Int) := tab' (fun i => near es i) n
def f_nbs (ws es : List V) : List V := II true (nbs ws.length (unII es))
set_option maxRecDepth 100000 in
theorem s_impl_neighboursOf : Sat Try.prog 37 (c_G_m f_nbs q_GrN) := by
  intro args ps r h hp
  unfold c_G_m at h
  split at h
  · rename_i a0 a1
    simp only [Option.some.injEq, Prod.mk.injEq] at h
    obtain ⟨rfl, rfl⟩ := h
    obtain ⟨ws, es, hws, hes, g⟩ : q_GrN a0 a1 := (alls_cons.1 hp).1
    have g0 : V.frzs a0 = a0 := by rw [hws, I_frzs]
    have g1 : V.frzs a1 = a1 := by rw [hes, II_frzs]
    have hel : a1.length = es.length := by rw [hes, II_length]
    have hwl : a0.length = ws.length := by rw [hws, I_length]
    have hf0 : f_nbs a0 a1 = II true (nbs ws.length es) := by rw [f_nbs, hes, unII_II, hwl]
    have ges : ∀ k, a1.getD k (.slc false 2 (.int .i64 0) []) = .slc false 2 (.int .i64 0) (I (es.getD k [])) := fun k => by rw [hes, II_getD]
    have n1 := g.n1
    have n2 := g.n2
    have n3 := g.el
    obtain ⟨n, hn⟩ : ∃ n : Int, n = ws.length := ⟨_, rfl⟩
    obtain ⟨m, hm⟩ : ∃ m : Int, m = es.length := ⟨_, rfl⟩
    generalize H_f_srt : f_srt = F_f_srt
    generalize H_IsIs : IsIs = F_IsIs
    refine fnOk_ofI (T := tab) (B := []) (Bi := [(76, 0, false, ic_sort F_f_srt F_IsIs)]) [2000005803, 2000005821, 2000005822, 2000005833, 2000006803, 2000006837, 2000006838, 2000006849, 3000005000, 3000005001, 3000006000, 3000006001, 0, 1, 2, 3, 5, 7, 13, 14, 15, 52, 53, 54] Try.func37 rfl rfl (by kernel_rfl) (Nat.le_of_ble_eq_true rfl) mixed tabOk (by subst H_f_srt H_IsIs; exact bookNil) (by subst H_f_srt H_IsIs; exact (bookICons s_sort bookINil)) (by kernel_rfl) ?_
    intro L lp rr hL hr hf hlp
    conv => cbv
    simp only [stdEqs hL, imp_self, true_and, and_true, bif_or, bif_and, Bool.or_eq_true, Bool.or_eq_false_iff, Bool.and_eq_true, Bool.and_eq_false_iff, decide_eq_true_eq, decide_eq_false_iff_not, Bool.not_eq_true', Bool.not_eq_false', beq_iff_eq, beq_eq_false_iff_ne, ne_eq, toNat0, toNat1, ok_int, toI_int, I_frzs, I_length, I_getD, ok_ints, toL_slc, hwl, ← hn, g0, g1, hel, ← hm]
    obtain ⟨s0, hs0⟩ : ∃ s0, s0 = List.replicate n.toNat (V.slc true 2 (V.int IntKind.i64 0) []) := ⟨_, rfl⟩
    have hs00 : s0 = II true (stI' ws.length (es.take 0)) := by
      have e : stI' ws.length (es.take 0) = List.replicate ws.length [] := by
        rw [List.eq_replicate_iff]
        refine ⟨tab_len _ _, fun b hb => ?_⟩
        simp only [stI', tab', List.mem_map, List.mem_range] at hb
        obtain ⟨x, hx, rfl⟩ := hb
        rfl
      rw [hs0, e, II_replicate, hn, Int.toNat_natCast]
      rfl
    rw [← hs0]
    refine ⟨by omega, by omega, by omega, ?_⟩
    refine hlp (List V × Int) _ _ _ [3, 13, 14, 15] (fun x => [(3, none, .val (.slc true 22 (.slc true 2 (.int .i64 0) []) x.1)), (13, none, .val (.slc false 22 (.slc false 2 (.int .i64 0) []) a1)), (14, none, .val (.int .i64 m)), (15, none, .val (.int .i64 x.2))])
      (fun x => 0 ≤ x.2 ∧ x.2 ≤ m ∧ x.1 = II true (stI' ws.length (es.take x.2.toNat))) (fun x => (m - x.2).toNat) ((s0, 0)) (by subst hL; rw [hm, ← hel]; rfl) ?_ ?_
    · exact ⟨by simp, by simp only; omega, hs00⟩
    rintro ⟨ls, k⟩ ⟨k0, k1, hK⟩ hfx ag hag
    simp only at k0 k1 hK
    have hll : ls.length = ws.length := by rw [hK, II_length, stI', tab_len]
    have gls : ∀ j, ls.getD j (.slc true 2 (.int .i64 0) []) = .slc true 2 (.int .i64 0) (I ((stI' ws.length (es.take k.toNat)).getD j [])) := fun j => by rw [hK, II_getD]
    obtain ⟨E, hE⟩ : ∃ E, E = es.getD k.toNat [] := ⟨_, rfl⟩
    conv => cbv
    simp only [stdEqs hL, imp_self, true_and, and_true, bif_or, bif_and, Bool.or_eq_true, Bool.or_eq_false_iff, Bool.and_eq_true, Bool.and_eq_false_iff, decide_eq_true_eq, decide_eq_false_iff_not, Bool.not_eq_true', Bool.not_eq_false', beq_iff_eq, beq_eq_false_iff_ne, ne_eq, toNat0, toNat1, ok_int, toI_int, I_frzs, I_length, I_getD, ok_ints, toL_slc, hel, hll, gls, ges, ← hE]
    refine ⟨fun h2 => ?_, fun h2 => ?_⟩
    · have hmE := mem_getD (show k.toNat < es.length by omega)
      rw [← hE] at hmE
      obtain ⟨ed1, ed2, ed3, ed4, ed5⟩ := g.ed _ hmE
      have elt := g.lt _ hmE
      simp only [e0, e1] at ed2 ed3 ed4 ed5 elt
      obtain ⟨a, ha⟩ : ∃ a : Nat, (a : Int) = E.getD 0 0 := ⟨(E.getD 0 0).toNat, Int.toNat_of_nonneg ed2⟩
      obtain ⟨b, hb⟩ : ∃ b : Nat, (b : Int) = E.getD 1 0 := ⟨(E.getD 1 0).toNat, Int.toNat_of_nonneg ed4⟩
      have han : a < ws.length := by omega
      have hbn : b < ws.length := by omega
      have hab : a ≠ b := by omega
      have hst := stI_step (n := ws.length) (es := es) (k := k.toNat) (a := a) (b := b) (by omega) han hbn hab (by rw [← hE]; exact ha.symm) (by rw [← hE]; exact hb.symm)
      obtain ⟨R, hR⟩ : ∃ R, R = stI' ws.length (es.take k.toNat) := ⟨_, rfl⟩
      have hRl : R.length = ws.length := by rw [hR, stI', tab_len]
      have hbnd : ∀ j, j < ws.length → (R.getD j []).length ≤ 1000 := fun j hj => by
        rw [hR, stI', tab_get _ _ _ _ hj, (inc_perm _ _).length_eq, near, List.length_append]
        have := nearA_len (es.take k.toNat) j
        have := nearB_len (es.take k.toNat) j
        rw [List.length_take] at *
        omega
      have ba := hbnd a han
      have bb := hbnd b hbn
      simp only [← hR] at gls hst ⊢
      have snoc : ∀ (xs : List Int) (x : Int), I xs ++ [V.int .i64 x] = I (xs ++ [x]) := fun xs x => by simp [I]
      have hs1 : ∀ x, (ls.set a x).getD a (.slc true 2 (.int .i64 0) []) = x := fun x => by rw [set_getD (by omega), if_pos rfl]
      have hs2 : ∀ x, (ls.set a x).getD b (.slc true 2 (.int .i64 0) []) = .slc true 2 (.int .i64 0) (I (R.getD b [])) := fun x => by rw [set_getD (by omega), if_neg (Ne.symm hab), gls]
      have hs3 : ∀ x y, ((ls.set a x).set b y).getD b (.slc true 2 (.int .i64 0) []) = y := fun x y => by rw [set_getD (by rw [List.length_set]; omega), if_pos rfl]
      simp only [← ha, ← hb, Int.toNat_natCast, List.set_set, List.length_set, hs1, hs2, hs3, snoc, ok_ints, toL_slc, I_length, hll, true_and]
      have hEl : 1 < (E.length : Int) := by omega
      have hole1 : OkS tab 22 (V.hole 1) := .inr ⟨_, rfl, rfl, rfl⟩
      have sol : ∀ n : Int, ∀ x : V, x ∈ [V.int .i64 n] → x.solid = true := fun n x hx => by
        simp only [List.mem_singleton] at hx
        subst hx; rfl
      rw [wrap_id (n := k + 1) (by omega) (by omega)]
      clear hbnd
      refine ⟨k0, by omega, by omega, by omega, by omega, by omega, by omega, by omega, han, by omega, hEl, han, rfl, by simp only [List.length_cons, List.length_nil]; omega, sol _, by omega, by omega, han, hole1, by omega, hEl, by omega, hEl, by omega, by omega, hbn, by omega, by omega, hbn, rfl, by simp only [List.length_cons, List.length_nil]; omega, sol _, by omega, by omega, hbn, hole1, ?_⟩
      refine hag (_, k + 1) ⟨by simp only; omega, by simp only; omega, ?_⟩ (by simp only; omega)
      simp only [toNat_succ k0]
      rw [hK, ← hR, II_set, II_set, ← hst]
    · have hls : ls = II true (stD ws.length es 0) := by
        rw [hK, List.take_of_length_le (by omega), stI', stD]
        congr 1
      clear hK hag hfx ag
      refine hlp (List V × Int) _ _ _ [3, 52, 53, 54] (fun x => [(3, none, .val (.slc true 22 (.slc true 2 (.int .i64 0) []) x.1)), (52, none, .rf 3 0 []), (53, none, .val (.int .i64 n)), (54, none, .val (.int .i64 x.2))])
        (fun x => 0 ≤ x.2 ∧ x.2 ≤ n ∧ x.1 = II true (stD ws.length es x.2.toNat)) (fun x => (n - x.2).toNat) ((ls, 0)) (by subst hL; rw [hn, ← hll]; rfl) ?_ ?_
      · exact ⟨by simp, by simp only; omega, hls⟩
      rintro ⟨rs, i⟩ ⟨i0, i1, hI⟩ hfx2 ag2 hag2
      simp only at i0 i1 hI
      have hrl : rs.length = ws.length := by rw [hI, II_length, stD, tab_len]
      have grs : ∀ j, rs.getD j (.slc true 2 (.int .i64 0) []) = .slc true 2 (.int .i64 0) (I ((stD ws.length es i.toNat).getD j [])) := fun j => by rw [hI, II_getD]
      have Es : ∀ xs : List Int, F_f_srt (I xs) = I (srt xs) := fun xs => by rw [← H_f_srt, f_srt, unI_I]
      conv => cbv
      simp only [stdEqs hL, imp_self, true_and, and_true, bif_or, bif_and, Bool.or_eq_true, Bool.or_eq_false_iff, Bool.and_eq_true, Bool.and_eq_false_iff, decide_eq_true_eq, decide_eq_false_iff_not, Bool.not_eq_true', Bool.not_eq_false', beq_iff_eq, beq_eq_false_iff_ne, ne_eq, toNat0, toNat1, ok_int, toI_int, I_frzs, I_length, I_getD, ok_ints, toL_slc, hrl, grs, Es]
      refine ⟨fun h3 => ?_, fun h3 => ?_⟩
      · have hin : i.toNat < ws.length := by omega
        have hlen : ((stD ws.length es i.toNat).getD i.toNat []).length ≤ 1000 := by
          rw [stD, tab_get _ _ _ _ hin, if_neg (Nat.lt_irrefl _), (inc_perm _ _).length_eq, near, List.length_append]
          have := nearA_len es i.toNat
          have := nearB_len es i.toNat
          omega
        rw [wrap_id (n := i + 1) (by omega) (by omega)]
        refine ⟨i0, by omega, hin, hin, by rw [← H_IsIs]; exact ⟨⟨_, rfl⟩, by rw [I_length]; omega⟩, ?_⟩
        refine hag2 (_, i + 1) ⟨by simp only; omega, by simp only; omega, ?_⟩ (by simp only; omega)
        simp only [toNat_succ i0]
        rw [hI, II_set, stD_step (fun v => near_sorted g.eok v) hin]
      · rw [hr, hf0, hI, show i.toNat = ws.length by omega, stD, nbs]
        congr 2
        exact tab_congr fun j hj => by rw [if_pos hj]
  · cases h
end Go.Ax
