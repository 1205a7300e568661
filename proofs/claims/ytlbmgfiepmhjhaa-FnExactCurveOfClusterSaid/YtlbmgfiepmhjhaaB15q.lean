import Derived.Test.YtlbmgfiepmhjhaaB07q
import Derived.Test.YtlbmgfiepmhjhaaB12q
import Derived.Test.YtlbmgfiepmhjhaaB11q
import Derived.Test.YtlbmgfiepmhjhaaB06q
/-
  Lists the other way round: slices.Reverse, impl.reversed. No conditions but those of the contracts.
-/
set_option linter.all false
namespace Go.Ax
open Go.Proofs

def revK (k : Nat) (xs : List Int) : List Int := tab' (fun t => if t < k ∨ xs.length - k ≤ t then xs.getD (xs.length - 1 - t) 0 else xs.getD t 0) xs.length
theorem revK_len (k : Nat) (xs : List Int) : (revK k xs).length = xs.length := tab_len _ _
theorem revK_get {k t : Nat} {xs : List Int} (h : t < xs.length) : (revK k xs).getD t 0 = if t < k ∨ xs.length - k ≤ t then xs.getD (xs.length - 1 - t) 0 else xs.getD t 0 := by
  rw [revK, tab_get _ _ _ _ h]
theorem revK_0 (xs : List Int) : revK 0 xs = xs := by
  apply List.ext_getElem?
  intro j
  by_cases hj : j < xs.length
  · rw [revK, tab_get? _ _ _ hj, if_neg (by omega), List.getD_eq_getElem?_getD, List.getElem?_eq_getElem hj]; rfl
  · rw [List.getElem?_eq_none (by rw [revK_len]; omega), List.getElem?_eq_none (by omega)]
theorem revK_all {k : Nat} {xs : List Int} (h : xs.length ≤ 2 * k + 1) : revK k xs = xs.reverse := by
  apply List.ext_getElem?
  intro j
  by_cases hj : j < xs.length
  · rw [revK, tab_get? _ _ _ hj, List.getElem?_reverse hj]
    split
    · rw [List.getD_eq_getElem?_getD, List.getElem?_eq_getElem (by omega)]; rfl
    · rw [show xs.length - 1 - j = j by omega, List.getD_eq_getElem?_getD, List.getElem?_eq_getElem hj]; rfl
  · rw [List.getElem?_eq_none (by rw [revK_len]; omega), List.getElem?_eq_none (by rw [List.length_reverse]; omega)]
theorem tab_setR {α : Type} (f : Nat → α) {n i : Nat} (x : α) (h : i < n) : (tab' f n).set i x = tab' (fun t => if t = i then x else f t) n := by
  apply List.ext_getElem?
  intro j
  rw [List.getElem?_set]
  by_cases hj : j < n
  · rw [tab_get? _ _ _ hj, tab_get? _ _ _ hj]
    by_cases h1 : i = j
    · rw [if_pos h1, if_pos (by rw [tab_len]; exact h), if_pos h1.symm]
    · rw [if_neg h1, if_neg (Ne.symm h1)]
  · rw [if_neg (by omega), List.getElem?_eq_none (by rw [tab_len]; omega), List.getElem?_eq_none (by rw [tab_len]; omega)]
theorem revK_step {k l : Nat} {xs : List Int} (h : k < l) (hl : k + l + 1 = xs.length) : ((revK k xs).set k (xs.getD l 0)).set l (xs.getD k 0) = revK (k + 1) xs := by
  rw [revK, tab_setR _ _ (by omega), tab_setR _ _ (by omega), revK]
  refine tab_congr fun j hj => ?_
  by_cases e1 : j = l
  · subst e1
    rw [if_pos rfl, if_pos (by omega), show xs.length - 1 - j = k by omega]
  · rw [if_neg e1]
    by_cases e2 : j = k
    · subst e2
      rw [if_pos rfl, if_pos (by omega), show xs.length - 1 - j = l by omega]
    · rw [if_neg e2]
      by_cases e3 : j < k ∨ xs.length - k ≤ j
      · rw [if_pos e3, if_pos (by omega)]
      · rw [if_neg e3, if_neg (by omega)]
def ic_rev (f1 : List V → List V) (q : List V → Prop) : IContract := fun
  | [.slc true 2 (.int .i64 0) a0] => some ([q a0], .tup [], .slc true 2 (.int .i64 0) (f1 a0))
  | _ => none
def f_rev (a : List V) : List V := I (unI a).reverse
set_option maxHeartbeats 1000000 in
set_option maxRecDepth 100000 in
theorem s_reverse : SatI Try.prog 98 0 (ic_rev f_rev IsIs) := by
  intro args ps r y h hp
  unfold ic_rev at h
  split at h
  · rename_i a0
    simp only [Option.some.injEq, Prod.mk.injEq] at h
    obtain ⟨rfl, rfl, rfl⟩ := h
    obtain ⟨⟨xs, hes⟩, hl⟩ : IsIs a0 := (alls_cons.1 hp).1
    have hel : a0.length = xs.length := by rw [hes, I_length]
    rw [hel] at hl
    refine fnIO_of (T := tab) (B := []) (Bi := []) 0 [3000003002, 3000003003, 0, 2, 3] Try.func98 rfl rfl (by kernel_rfl) (Nat.le_of_ble_eq_true rfl) mixed tabOk (by exact bookNil) (by exact bookINil) (by kernel_rfl) rfl rfl rfl (by rw [f_rev, hes, unI_I]; exact Sh.ints (by simp)) rfl ?_
    intro L lp rr yy hL hr hy hf hlp
    conv => cbv
    simp only [stdEqs hL, imp_self, true_and, and_true, bif_or, bif_and, Bool.or_eq_true, Bool.or_eq_false_iff, Bool.and_eq_true, Bool.and_eq_false_iff, decide_eq_true_eq, decide_eq_false_iff_not, Bool.not_eq_true', Bool.not_eq_false', beq_iff_eq, beq_eq_false_iff_ne, ne_eq, toNat0, toNat1, ok_int, toI_int, I_frzs, I_length, I_getD, ok_ints, toL_slc, hel]
    rw [wrap_id (n := (xs.length : Int) - 1) (by omega) (by omega)]
    refine hlp (List V × Int × Int) _ _ _ [0, 2, 3] (fun x => [(0, none, .val (.slc true 2 (.int .i64 0) x.1)), (2, none, .val (.int .i64 x.2.1)), (3, none, .val (.int .i64 x.2.2))])
      (fun x => 0 ≤ x.2.1 ∧ x.2.1 ≤ x.2.2 + 1 ∧ x.2.1 + x.2.2 + 1 = xs.length ∧ x.1 = I (revK x.2.1.toNat xs)) (fun x => (x.2.2 - x.2.1 + 1).toNat) ((a0, 0, (xs.length : Int) - 1)) (by subst hL; rfl) ?_ ?_
    · exact ⟨by simp, by simp only; omega, by simp only; omega, by simp only; rw [show (0 : Int).toNat = 0 from rfl, revK_0, hes]⟩
    rintro ⟨os, i, j⟩ ⟨i0, i1, i2, hO⟩ hfx ag hag
    simp only at i0 i1 i2 hO
    have hol : os.length = xs.length := by rw [hO, I_length, revK_len]
    have gos : ∀ k, os.getD k (.int .i64 0) = .int .i64 ((revK i.toNat xs).getD k 0) := fun k => by rw [hO, I_getD]
    conv => cbv
    simp only [stdEqs hL, imp_self, true_and, and_true, bif_or, bif_and, Bool.or_eq_true, Bool.or_eq_false_iff, Bool.and_eq_true, Bool.and_eq_false_iff, decide_eq_true_eq, decide_eq_false_iff_not, Bool.not_eq_true', Bool.not_eq_false', beq_iff_eq, beq_eq_false_iff_ne, ne_eq, toNat0, toNat1, ok_int, toI_int, I_frzs, I_length, I_getD, ok_ints, toL_slc, hol, gos, List.length_set]
    rw [wrap_id (n := i + 1) (by omega) (by omega), wrap_id (n := j - 1) (by omega) (by omega)]
    refine ⟨fun h2 => ?_, fun h2 => ?_⟩
    · have hs : ∀ x, (os.set i.toNat x).getD j.toNat (.int .i64 0) = .int .i64 ((revK i.toNat xs).getD j.toNat 0) := fun x => by
        rw [List.getD_eq_getElem?_getD, List.getElem?_set_ne (by omega), ← List.getD_eq_getElem?_getD, gos]
      simp only [hs]
      have hgi : (revK i.toNat xs).getD i.toNat 0 = xs.getD i.toNat 0 := by rw [revK_get (by omega), if_neg (by omega)]
      have hgj : (revK i.toNat xs).getD j.toNat 0 = xs.getD j.toNat 0 := by rw [revK_get (by omega), if_neg (by omega)]
      rw [hgi, hgj]
      have b1 : i.toNat < xs.length := by omega
      have b2 : j.toNat < xs.length := by omega
      refine ⟨by omega, by omega, b2, i0, by omega, b1, i0, by omega, b1, by omega, by omega, b2, rfl, ?_⟩
      refine hag (_, i + 1, j - 1) ⟨by simp only; omega, by simp only; omega, by simp only; omega, ?_⟩ (by simp only; omega)
      simp only [toNat_succ i0]
      rw [hO, I_set, I_set, revK_step (by omega) (by omega)]
    · rw [hr, hy, hO, revK_all (by omega), f_rev, hes, unI_I]
      exact ⟨rfl, rfl⟩
  · cases h
end Go.Ax
/-
  Graphs held. No conditions but those of the contracts.
-/
set_option linter.all false
namespace Go.Ax
open Go.Proofs

end Go.Ax
/-
  Proximity and intersection matrices of clusters: the other side. No conditions but those of the contracts.
-/
set_option linter.all false
namespace Go.Ax
open Go.Proofs

end Go.Ax
/-
  Graphs of clusters, both sides. No conditions but those of the contracts.
-/
set_option linter.all false
namespace Go.Ax
open Go.Proofs

end Go.Ax
/-
  Edges in order, graphs, vertices contracted, in plain Lean. No conditions but those of the theorems.
-/
set_option linter.all false
namespace Go.Ax
open Go.Proofs

structure GrN (n : Nat) (es : List (List Int)) : Prop where
  n1 : 1 ≤ n
  n2 : n ≤ 40
  el : es.length ≤ 400
  eok : edsOk n none es = true
  ed : ∀ e ∈ es, EdIn n e
  lt : ∀ e ∈ es, e0 e < e1 e
end Go.Ax
/-
  Neighbours in order, ValencesOf: both sides, the law. No conditions but those of the contracts.
-/
set_option linter.all false
namespace Go.Ax
open Go.Proofs

end Go.Ax
/-
  Clusters in laws: sizes, copies, comparisons, marks. No conditions but those of the contracts.
-/
set_option linter.all false
namespace Go.Ax
open Go.Proofs

def c_Ki_i (f : List V → List V → List V → Int → Int) (q : List V → List V → List V → Int → Prop) : Contract := fun
  | [.agg [.slc false 2 (.int .i64 0) a0, .slc false 2 (.int .i64 0) a1, .slc false 2 (.int .i64 0) a2], .int .i64 a3] => some ([q a0 a1 a2 a3], .int .i64 (f a0 a1 a2 a3))
  | _ => none
def z1K (a : List V) (left : Int) : Int := szL a.length left
def z2K (a b : List V) (left : Int) : Int := szL b.length (z1K a left)
def z3K (a b c : List V) (left : Int) : Int := szL c.length (z2K a b left)
def f_szK (a b c : List V) (left : Int) : Int := bif decide (z1K a left < 0) then -1 else bif decide (z2K a b left < 0) then -1 else bif decide (z3K a b c left < 0) then -1 else z3K a b c left
def q_szK (_ _ _ : List V) (_ : Int) : Prop := True
set_option maxHeartbeats 1000000 in
set_option maxRecDepth 100000 in
theorem s_laws_szCluster : Sat Try.prog 18 (c_Ki_i f_szK q_szK) := by
  intro args ps r h hp
  unfold c_Ki_i at h
  split at h
  · rename_i a0 a1 a2 a3
    simp only [Option.some.injEq, Prod.mk.injEq] at h
    obtain ⟨rfl, rfl⟩ := h
    have hf0 : f_szK a0 a1 a2 a3 = bif decide (z1K a0 a3 < 0) then -1 else bif decide (z2K a0 a1 a3 < 0) then -1 else bif decide (z3K a0 a1 a2 a3 < 0) then -1 else z3K a0 a1 a2 a3 := rfl
    have e0 : ∀ k, f0_sz (V.frzs a0) k = szL a0.length k := fun k => by rw [f0_sz, V.frzs_eq, List.length_map]
    have e1 : ∀ k, f0_sz (V.frzs a1) k = szL a1.length k := fun k => by rw [f0_sz, V.frzs_eq, List.length_map]
    have e2 : ∀ k, f0_sz (V.frzs a2) k = szL a2.length k := fun k => by rw [f0_sz, V.frzs_eq, List.length_map]
    generalize H_f0_sz : f0_sz = F_f0_sz
    refine fnOk_ofI (T := tab) (B := [(27, c_li_i F_f0_sz)]) (Bi := []) [0, 1, 2, 4] Try.func18 rfl rfl (by kernel_rfl) (Nat.le_of_ble_eq_true rfl) mixed tabOk (by subst H_f0_sz; exact (bookCons s_laws_szInt64S bookNil)) (by subst H_f0_sz; exact bookINil) (by kernel_rfl) ?_
    intro L lp rr hL hr hf hlp
    conv => cbv
    simp only [stdEqs hL]
    subst H_f0_sz
    simp only [e0, e1, e2]
    have y1 : szL a0.length a3 = z1K a0 a3 := rfl
    rw [y1]
    have y2 : szL a1.length (z1K a0 a3) = z2K a0 a1 a3 := rfl
    rw [y2]
    have y3 : szL a2.length (z2K a0 a1 a3) = z3K a0 a1 a2 a3 := rfl
    rw [y3]
    refine ⟨fun h => ?_, fun h => ⟨fun h2 => ?_, fun h2 => ⟨fun h3 => ?_, fun h3 => ?_⟩⟩⟩
    · rw [hr, hf0, h]; rfl
    · rw [hr, hf0, h, h2]; rfl
    · rw [hr, hf0, h, h2, h3]; rfl
    · rw [hr, hf0, h, h2, h3]; rfl
  · cases h
def c_K_K (f : List V → List V → List V → List V × List V × List V) (q : List V → List V → List V → Prop) : Contract := fun
  | [.agg [.slc false 2 (.int .i64 0) a0, .slc false 2 (.int .i64 0) a1, .slc false 2 (.int .i64 0) a2]] => some ([q a0 a1 a2], .agg [.slc true 2 (.int .i64 0) ((f a0 a1 a2).1), .slc true 2 (.int .i64 0) ((f a0 a1 a2).2.1), .slc true 2 (.int .i64 0) ((f a0 a1 a2).2.2)])
  | _ => none
def f_cpK (a b c : List V) : List V × List V × List V := (a, b, c)
def q_cpK (a b c : List V) : Prop := IsIs a ∧ IsIs b ∧ IsIs c
set_option maxHeartbeats 1000000 in
set_option maxRecDepth 100000 in
theorem s_laws_toCluster : Sat Try.prog 20 (c_K_K f_cpK q_cpK) := by
  intro args ps r h hp
  unfold c_K_K at h
  split at h
  · rename_i a0 a1 a2
    simp only [Option.some.injEq, Prod.mk.injEq] at h
    obtain ⟨rfl, rfl⟩ := h
    obtain ⟨h0, h1, h2⟩ : q_cpK a0 a1 a2 := (alls_cons.1 hp).1
    have g0 := h0.frz
    have g1 := h1.frz
    have g2 := h2.frz
    have hf0 : f_cpK a0 a1 a2 = (a0, a1, a2) := rfl
    generalize H_same : same = F_same
    generalize H_IsIs : IsIs = F_IsIs
    refine fnOk_ofI (T := tab) (B := [(32, c_laws_toInt64S F_same F_IsIs)]) (Bi := []) [0, 1, 2, 3] Try.func20 rfl rfl (by kernel_rfl) (Nat.le_of_ble_eq_true rfl) mixed tabOk (by subst H_same H_IsIs; exact (bookCons s_laws_toInt64S bookNil)) (by subst H_same H_IsIs; exact bookINil) (by kernel_rfl) ?_
    intro L lp rr hL hr hf hlp
    conv => cbv
    simp only [stdEqs hL, g0, g1, g2]
    subst H_same H_IsIs
    rw [hr, hf0]
    exact ⟨h0, h1, h2, rfl⟩
  · cases h
def c_KK_b (f : List V → List V → List V → List V → List V → List V → Bool) (q : List V → List V → List V → List V → List V → List V → Prop) : Contract := fun
  | [.agg [.slc false 2 (.int .i64 0) a0, .slc false 2 (.int .i64 0) a1, .slc false 2 (.int .i64 0) a2], .agg [.slc false 2 (.int .i64 0) a3, .slc false 2 (.int .i64 0) a4, .slc false 2 (.int .i64 0) a5]] => some ([q a0 a1 a2 a3 a4 a5], .bool (f a0 a1 a2 a3 a4 a5))
  | _ => none
def f_eqK (a b c x y z : List V) : Bool := f0_eqI a x && (f0_eqI b y && f0_eqI c z)
def q_eqK (a b c x y z : List V) : Prop := q_eqI a x ∧ q_eqI b y ∧ q_eqI c z
set_option maxHeartbeats 1000000 in
set_option maxRecDepth 100000 in
theorem s_laws_eqCluster : Sat Try.prog 23 (c_KK_b f_eqK q_eqK) := by
  intro args ps r h hp
  unfold c_KK_b at h
  split at h
  · rename_i a0 a1 a2 b0 b1 b2
    simp only [Option.some.injEq, Prod.mk.injEq] at h
    obtain ⟨rfl, rfl⟩ := h
    obtain ⟨h0, h1, h2⟩ : q_eqK a0 a1 a2 b0 b1 b2 := (alls_cons.1 hp).1
    have g0 := h0.1.frz
    have g0' := h0.2.frz
    have g1 := h1.1.frz
    have g1' := h1.2.frz
    have g2 := h2.1.frz
    have g2' := h2.2.frz
    have hf0 : f_eqK a0 a1 a2 b0 b1 b2 = (f0_eqI a0 b0 && (f0_eqI a1 b1 && f0_eqI a2 b2)) := rfl
    generalize H_f0_eqI : f0_eqI = F_f0_eqI
    generalize H_q_eqI : q_eqI = F_q_eqI
    refine fnOk_ofI (T := tab) (B := [(10, c_laws_eqInt64S F_f0_eqI F_q_eqI)]) (Bi := []) [0, 1, 2, 3, 4] Try.func23 rfl rfl (by kernel_rfl) (Nat.le_of_ble_eq_true rfl) mixed tabOk (by subst H_f0_eqI H_q_eqI; exact (bookCons s_laws_eqInt64S bookNil)) (by subst H_f0_eqI H_q_eqI; exact bookINil) (by kernel_rfl) ?_
    intro L lp rr hL hr hf hlp
    conv => cbv
    simp only [stdEqs hL, g0, g0', g1, g1', g2, g2']
    subst H_f0_eqI H_q_eqI
    rw [hr, hf0]
    refine ⟨h0, fun h => ?_, fun h => ⟨h1, fun h' => ?_, fun h' => ⟨h2, fun h'' => ?_, fun h'' => ?_⟩⟩⟩
    · simp only [Bool.not_eq_true'] at h; rw [h]; rfl
    · simp only [Bool.not_eq_true', Bool.not_eq_false'] at h h'; rw [h, h']; rfl
    · simp only [Bool.not_eq_true', Bool.not_eq_false'] at h h' h''; rw [h, h', h'']; rfl
    · simp only [Bool.not_eq_false'] at h h' h''; rw [h, h', h'']; rfl
  · cases h
def ic_markK (f0 : List V → List V → List V → Int → Int) (f1 f2 f3 : List V → List V → List V → Int → List V) (q : List V → List V → List V → Int → Prop) : IContract := fun
  | [.agg [.slc true 2 (.int .i64 0) a0, .slc true 2 (.int .i64 0) a1, .slc true 2 (.int .i64 0) a2], .int .i64 k] => some ([q a0 a1 a2 k], .int .i64 (f0 a0 a1 a2 k), .agg [.slc true 2 (.int .i64 0) (f1 a0 a1 a2 k), .slc true 2 (.int .i64 0) (f2 a0 a1 a2 k), .slc true 2 (.int .i64 0) (f3 a0 a1 a2 k)])
  | _ => none
def f0_markK (a b c : List V) (k : Int) : Int := f0_mark c (f0_mark b (f0_mark a k))
def f1_markK (a _ _ : List V) (k : Int) : List V := f1_mark a k
def f2_markK (a b _ : List V) (k : Int) : List V := f1_mark b (f0_mark a k)
def f3_markK (a b c : List V) (k : Int) : List V := f1_mark c (f0_mark b (f0_mark a k))
def q_markK (a b c : List V) (k : Int) : Prop := q_mark a k ∧ q_mark b (f0_mark a k) ∧ q_mark c (f0_mark b (f0_mark a k))
theorem Sh.agg3 {a b c x y z : V} (h1 : Sh a x) (h2 : Sh b y) (h3 : Sh c z) : Sh (.agg [a, b, c]) (.agg [x, y, z]) := by
  refine .agg _ _ rfl (fun i p q hp hq => ?_)
  match i with
  | 0 => simp at hp hq; subst hp; subst hq; exact h1
  | 1 => simp at hp hq; subst hp; subst hq; exact h2
  | 2 => simp at hp hq; subst hp; subst hq; exact h3
  | i + 3 => simp at hp
set_option maxHeartbeats 1000000 in
set_option maxRecDepth 100000 in
theorem s_laws_markCluster : SatI Try.prog 24 0 (ic_markK f0_markK f1_markK f2_markK f3_markK q_markK) := by
  intro args ps r y h hp
  unfold ic_markK at h
  split at h
  · rename_i a0 a1 a2 k
    simp only [Option.some.injEq, Prod.mk.injEq] at h
    obtain ⟨rfl, rfl, rfl⟩ := h
    obtain ⟨h0, h1, h2⟩ : q_markK a0 a1 a2 k := (alls_cons.1 hp).1
    have hf0 : f0_markK a0 a1 a2 k = f0_mark a2 (f0_mark a1 (f0_mark a0 k)) := rfl
    have hf1 : f1_markK a0 a1 a2 k = f1_mark a0 k := rfl
    have hf2 : f2_markK a0 a1 a2 k = f1_mark a1 (f0_mark a0 k) := rfl
    have hf3 : f3_markK a0 a1 a2 k = f1_mark a2 (f0_mark a1 (f0_mark a0 k)) := rfl
    generalize H_f0_mark : f0_mark = F_f0_mark
    generalize H_f1_mark : f1_mark = F_f1_mark
    generalize H_q_mark : q_mark = F_q_mark
    refine fnIO_of (T := tab) (B := []) (Bi := [(13, 0, false, ic_markInt64S F_f0_mark F_f1_mark F_q_mark)]) 0 [0, 1, 2, 4] Try.func24 rfl rfl (by kernel_rfl) (Nat.le_of_ble_eq_true rfl) mixed tabOk (by subst H_f0_mark H_f1_mark H_q_mark; exact bookNil) (by subst H_f0_mark H_f1_mark H_q_mark; exact (bookICons s_laws_markInt64S bookINil)) (by kernel_rfl) rfl rfl rfl (by subst H_f0_mark H_f1_mark; obtain ⟨⟨xs, rfl⟩, _⟩ := h0; obtain ⟨⟨ys, rfl⟩, _⟩ := h1; obtain ⟨⟨zs, rfl⟩, _⟩ := h2; rw [hf1, hf2, hf3]; exact Sh.agg3 (by rw [f1_mark]; exact Sh.ints (by simp [marks_len])) (by rw [f1_mark]; exact Sh.ints (by simp [marks_len])) (by rw [f1_mark]; exact Sh.ints (by simp [marks_len]))) rfl ?_
    intro L lp rr yy hL hr hy hf hlp
    conv => cbv
    subst H_f0_mark H_f1_mark H_q_mark
    rw [hr, hy, hf0, hf1, hf2, hf3]
    exact ⟨h0, h1, h2, rfl, rfl⟩
  · cases h
def f0_heldK (a b c : List V) (k : Int) : Int := bif decide (f0_held a k < 0) then -1 else bif decide (f0_held b (f0_held a k) < 0) then -1 else bif decide (f0_held c (f0_held b (f0_held a k)) < 0) then -1 else f0_held c (f0_held b (f0_held a k))
def q_heldK (a b c : List V) (k : Int) : Prop := IsI a ∧ IsI b ∧ IsI c ∧ 0 ≤ k ∧ k + a.length + b.length + c.length ≤ 9223372036854775807
theorem cluster_keys (P S Q : List Int) (h : P.length + S.length + Q.length ≤ 4611686018427387904) :
    q_eqK (I P) (I S) (I Q) (I P) (I S) (I Q) ∧ f_eqK (I P) (I S) (I Q) (I P) (I S) (I Q) = true ∧ q_markK (I P) (I S) (I Q) 1 ∧ f0_markK (I P) (I S) (I Q) 1 = 1 + P.length + S.length + Q.length ∧
    f1_markK (I P) (I S) (I Q) 1 = I (marks P.length 1) ∧ f2_markK (I P) (I S) (I Q) 1 = I (marks S.length (1 + P.length)) ∧ f3_markK (I P) (I S) (I Q) 1 = I (marks Q.length (1 + P.length + S.length)) ∧
    q_heldK (I (marks P.length 1)) (I (marks S.length (1 + P.length))) (I (marks Q.length (1 + P.length + S.length))) 1 ∧ f0_heldK (I (marks P.length 1)) (I (marks S.length (1 + P.length))) (I (marks Q.length (1 + P.length + S.length))) 1 = 1 + P.length + S.length + Q.length := by
  have e1 : f0_mark (I P) 1 = 1 + P.length := by rw [f0_mark, I_length]
  have e2 : f0_mark (I S) (1 + P.length) = 1 + P.length + S.length := by rw [f0_mark, I_length]
  have hd : ∀ (n : Nat) (k : Int), f0_held (I (marks n k)) k = k + n := fun n k => by rw [f0_held, unI_I, I_length, marks_len, if_pos rfl]
  refine ⟨⟨⟨⟨_, rfl⟩, ⟨_, rfl⟩⟩, ⟨⟨_, rfl⟩, ⟨_, rfl⟩⟩, ⟨⟨_, rfl⟩, ⟨_, rfl⟩⟩⟩, by simp [f_eqK, f0_eqI], ⟨⟨⟨_, rfl⟩, by omega, by rw [I_length]; omega⟩, ?_, ?_⟩, by rw [f0_markK, e1, e2, f0_mark, I_length], by rw [f1_markK, f1_mark, I_length],
    by rw [f2_markK, e1, f1_mark, I_length], by rw [f3_markK, e1, e2, f1_mark, I_length], ⟨⟨_, rfl⟩, ⟨_, rfl⟩, ⟨_, rfl⟩, by omega, by simp only [I_length, marks_len]; omega⟩, ?_⟩
  · rw [e1]
    exact ⟨⟨_, rfl⟩, by omega, by rw [I_length]; omega⟩
  · rw [e1, e2]
    exact ⟨⟨_, rfl⟩, by omega, by rw [I_length]; omega⟩
  · have hn1 : decide ((1 : Int) + P.length < 0) = false := by simp; omega
    have hn2 : decide ((1 : Int) + P.length + S.length < 0) = false := by simp; omega
    have hn3 : decide ((1 : Int) + P.length + S.length + Q.length < 0) = false := by simp; omega
    rw [f0_heldK, hd, hd, hd, hn1, hn2, hn3]
    rfl
theorem szK_ok {a b c : List V} (h0 : IsI a) (h1 : IsI b) (h2 : IsI c) (l0 : a.length ≤ 9223372036854775807) (l1 : b.length ≤ 9223372036854775807) (l2 : c.length ≤ 9223372036854775807) (h : decide (f_szK a b c 1048576 < 0) = false) : q_cpK a b c ∧ a.length ≤ 1048576 ∧ b.length ≤ 1048576 ∧ c.length ≤ 1048576 := by
  have step : ∀ (n : Nat) (k : Int), n ≤ 9223372036854775807 → 0 ≤ k → k ≤ 1048576 → ¬ szL n k < 0 → n ≤ 1048576 ∧ szL n k ≤ 1048576 := fun n k hn hk hk2 hh => by
    have ew : IntKind.wrap .i64 (k - n) = k - n := wrap_id (by omega) (by omega)
    unfold szL at hh ⊢
    rw [ew] at hh ⊢
    by_cases h3 : k - n < 0
    · rw [decide_eq_true h3] at hh; simp at hh
    · rw [decide_eq_false h3, cond_false]; omega
  unfold f_szK at h
  cases x1 : decide (z1K a 1048576 < 0) with
  | true => rw [x1] at h; simp at h
  | false =>
    rw [x1, cond_false] at h
    cases x2 : decide (z2K a b 1048576 < 0) with
    | true => rw [x2] at h; simp at h
    | false =>
      rw [x2, cond_false] at h
      cases x3 : decide (z3K a b c 1048576 < 0) with
      | true => rw [x3] at h; simp at h
      | false =>
        simp only [decide_eq_false_iff_not] at x1 x2 x3
        obtain ⟨a1, a2⟩ := step a.length 1048576 l0 (by omega) (by omega) x1
        obtain ⟨b1, b2⟩ := step b.length (z1K a 1048576) l1 (by omega) (by rw [z1K]; exact a2) x2
        obtain ⟨c1, c2⟩ := step c.length (z2K a b 1048576) l2 (by omega) (by rw [z2K]; exact b2) x3
        exact ⟨⟨⟨h0, by omega⟩, ⟨h1, by omega⟩, h2, by omega⟩, a1, b1, c1⟩
end Go.Ax
/-
  GraphOfCluster: both sides, the law. No conditions but those of the contracts.
-/
set_option linter.all false
namespace Go.Ax
open Go.Proofs

def c_lawk_K (f : List V → List V → List V → Bool) (q : List V → List V → List V → Prop) : Contract := fun
  | [.agg [.slc false 2 (.int .i64 0) a0, .slc false 2 (.int .i64 0) a1, .slc false 2 (.int .i64 0) a2]] => some ([q a0 a1 a2], .bool (f a0 a1 a2))
  | _ => none
def q_lawk_K (x y z : List V) : Prop := q_K x y z
def yesk_K (_ _ _ : List V) : Bool := true
end Go.Ax
