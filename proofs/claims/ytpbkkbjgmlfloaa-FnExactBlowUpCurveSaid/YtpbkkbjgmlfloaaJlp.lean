/-
  Lists of curves: comparison, marks. No conditions but those of the contracts.
-/
import Derived.Test.YtpbkkbjgmlfloaaJhp
set_option linter.all false
namespace Go.Ax
open Go.Proofs

def totC : List Cur → Nat
  | [] => 0
  | p :: l => tot p.1 + tot p.2 + totC l
def mark1 (k : Int) (p : Cur) : Cur := (marksGo k p.1, marksGo (k + tot p.1) p.2)
def marksC (k : Int) : List Cur → List Cur
  | [] => []
  | p :: l => mark1 k p :: marksC (k + tot p.1 + tot p.2) l
theorem marksC_len : ∀ (l : List Cur) (k : Int), (marksC k l).length = l.length
  | [], _ => rfl
  | p :: l, k => by simp [marksC, marksC_len l]
theorem totC_append : ∀ (a b : List Cur), totC (a ++ b) = totC a + totC b
  | [], b => by simp [totC]
  | p :: a, b => by simp only [List.cons_append, totC, totC_append a b]; omega
theorem marksC_append : ∀ (a b : List Cur) (k : Int), marksC k (a ++ b) = marksC k a ++ marksC (k + totC a) b
  | [], b, k => by simp [marksC, totC]
  | p :: a, b, k => by
    simp only [List.cons_append, marksC, totC, marksC_append a b]
    rw [show k + (tot p.1 : Int) + tot p.2 + totC a = k + ((tot p.1 + tot p.2 + totC a : Nat) : Int) by omega]
theorem curAt {l : List Cur} {i : Nat} (h : i < l.length) : l.drop i = l.getD i ([], []) :: l.drop (i + 1) := by
  rw [List.drop_eq_getElem_cons h, List.getD_eq_getElem?_getD, List.getElem?_eq_getElem h]; rfl
theorem takeC {l : List Cur} {i : Nat} (h : i < l.length) : l.take (i + 1) = l.take i ++ [l.getD i ([], [])] := by
  rw [List.take_succ_eq_append_getElem h, List.getD_eq_getElem?_getD, List.getElem?_eq_getElem h]; rfl
theorem totC_take_le (l : List Cur) (i : Nat) : totC (l.take i) ≤ totC l := by
  have := totC_append (l.take i) (l.drop i)
  rw [List.take_append_drop] at this
  omega
theorem totC_step {l : List Cur} {i : Nat} (h : i < l.length) : totC (l.take (i + 1)) = totC (l.take i) + (tot (l.getD i ([], [])).1 + tot (l.getD i ([], [])).2) := by
  rw [takeC h, totC_append]; rfl
theorem marksC_get (l : List Cur) (k : Int) (i : Nat) (h : i < l.length) : (marksC k (l.take i) ++ l.drop i).getD i ([], []) = l.getD i ([], []) := by
  have hl : (marksC k (l.take i)).length = i := by rw [marksC_len, List.length_take]; omega
  rw [List.getD_eq_getElem?_getD, List.getElem?_append_right (by omega), hl, Nat.sub_self, List.getElem?_drop, Nat.add_zero, ← List.getD_eq_getElem?_getD]
theorem marksC_step (l : List Cur) (k : Int) (i : Nat) (h : i < l.length) :
    (marksC k (l.take i) ++ l.drop i).set i (mark1 (k + totC (l.take i)) (l.getD i ([], []))) = marksC k (l.take (i + 1)) ++ l.drop (i + 1) := by
  have hl : (marksC k (l.take i)).length = i := by rw [marksC_len, List.length_take]; omega
  rw [List.set_append_right _ _ (by omega), hl, Nat.sub_self, curAt h, List.set_cons_zero, takeC h, marksC_append]
  simp [marksC]
theorem totC_marksC : ∀ (l : List Cur) (k : Int), totC (marksC k l) = totC l
  | [], _ => rfl
  | p :: l, k => by simp only [marksC, totC, totC_marksC l, mark1, tot_marksGo]
theorem marksC_at : ∀ (l : List Cur) (k : Int) (i : Nat), i < l.length → (marksC k l).getD i ([], []) = mark1 (k + totC (l.take i)) (l.getD i ([], []))
  | [], _, _, h => by simp at h
  | p :: l, k, 0, _ => by simp [marksC, totC]
  | p :: l, k, i + 1, h => by
    have ih := marksC_at l (k + tot p.1 + tot p.2) i (by simpa using h)
    simp only [marksC, List.getD_cons_succ, List.take_succ_cons, totC]
    rw [ih]
    congr 1
    omega
def C1 (o : Bool) (p : Cur) : V := .agg [.slc o 58 (.agg [.slc o 2 (.int .i64 0) []]) (BB o p.1), .slc o 53 (.slc o 2 (.int .i64 0) []) (II o p.2)]
theorem CC_C1 (o : Bool) (l : List Cur) : CC o l = l.map (C1 o) := rfl
theorem ok_cur (o o' : Bool) (a b : List V) : vw stdV tab o 20 31 (.agg [.slc o' 58 (.agg [.slc o' 2 (.int .i64 0) []]) a, .slc o' 53 (.slc o' 2 (.int .i64 0) []) b]) = some (.agg [.slc o 58 (.agg [.slc o 2 (.int .i64 0) []]) a, .slc o 53 (.slc o 2 (.int .i64 0) []) b]) := by cases o <;> rfl
theorem ok_bs (o o' : Bool) (a : List V) : vw stdV tab o 20 29 (.slc o' 58 (.agg [.slc o' 2 (.int .i64 0) []]) a) = some (.slc o 58 (.agg [.slc o 2 (.int .i64 0) []]) a) := by cases o <;> rfl
theorem ok_ms (o o' : Bool) (a : List V) : vw stdV tab o 20 23 (.slc o' 53 (.slc o' 2 (.int .i64 0) []) a) = some (.slc o 53 (.slc o 2 (.int .i64 0) []) a) := by cases o <;> rfl
theorem fld2_0 (x y : V) : stdV.fld (.agg [x, y]) 0 = x := rfl
theorem fld2_1 (x y : V) : stdV.fld (.agg [x, y]) 1 = y := rfl
theorem CC_getD (o : Bool) (l : List Cur) (i : Nat) : (CC o l).getD i (.agg [.slc o 58 (.agg [.slc o 2 (.int .i64 0) []]) [], .slc o 53 (.slc o 2 (.int .i64 0) []) []]) = .agg [.slc o 58 (.agg [.slc o 2 (.int .i64 0) []]) (BB o (l.getD i ([], [])).1), .slc o 53 (.slc o 2 (.int .i64 0) []) (II o (l.getD i ([], [])).2)] := by
  simp only [CC, List.getD_eq_getElem?_getD, List.getElem?_map]
  cases l[i]? <;> rfl
theorem CC_set (o : Bool) (l : List Cur) (i : Nat) (p : Cur) : (CC o l).set i (C1 o p) = CC o (l.set i p) := by simp [CC_C1, List.map_set]
theorem C1_frz (o : Bool) (p : Cur) : (C1 o p).frz = C1 false p := by
  simp [C1, V.frz, V.frzs, BB_frzs, II_frzs]
theorem CC_frzs (o : Bool) (l : List Cur) : V.frzs (CC o l) = CC false l := by
  rw [V.frzs_eq]
  simp only [CC_C1, List.map_map]
  exact List.map_congr_left fun p _ => C1_frz o p
theorem CC_noFzs (l : List Cur) : V.noFzs (CC true l) = true := by
  rw [V.noFzs_eq]
  simp only [CC, List.all_map, List.all_eq_true]
  intro p _
  simp [V.noFz, V.noFzs, BB_noFzs, II_noFzs]
def c_eqCC (f : List V → List V → Bool) (q : List V → List V → Prop) : Contract := fun
  | [.slc false 31 (.agg [.slc false 58 (.agg [.slc false 2 (.int .i64 0) []]) [], .slc false 53 (.slc false 2 (.int .i64 0) []) []]) a, .slc false 31 (.agg [.slc false 58 (.agg [.slc false 2 (.int .i64 0) []]) [], .slc false 53 (.slc false 2 (.int .i64 0) []) []]) b] => some ([q a b], .bool (f a b))
  | _ => none
def yesCC (_ _ : List V) : Bool := true
def q_eqCC (a b : List V) : Prop := ∃ l, a = CC false l ∧ b = CC false l ∧ l.length ≤ 1000
set_option maxRecDepth 100000 in
theorem s_laws_eqCurveS : Sat Try.prog 12 (c_eqCC yesCC q_eqCC) := by
  intro args ps r h hp
  unfold c_eqCC at h
  split at h
  · rename_i a0 a1
    simp only [Option.some.injEq, Prod.mk.injEq] at h
    obtain ⟨rfl, rfl⟩ := h
    obtain ⟨l, h0, h1, hl9⟩ : q_eqCC a0 a1 := (alls_cons.1 hp).1
    have hl0 : a0.length = l.length := by rw [h0, CC_length]
    have hl1 : a1.length = l.length := by rw [h1, CC_length]
    have ga := fun i => h0 ▸ CC_getD false l i
    have gb := fun i => h1 ▸ CC_getD false l i
    generalize H_f0_eqC : f0_eqC = F_f0_eqC
    generalize H_q_eqC : q_eqC = F_q_eqC
    refine fnOk_ofI (T := tab) (B := [(9, c_cc_bool F_f0_eqC F_q_eqC)]) (Bi := []) [0, 1, 4, 5] Try.func12 rfl rfl (by kernel_rfl) (Nat.le_of_ble_eq_true rfl) mixed tabOk (by subst H_f0_eqC H_q_eqC; exact (bookCons s_laws_eqCurve bookNil)) (by subst H_f0_eqC H_q_eqC; exact bookINil) (by kernel_rfl) ?_
    intro L lp rr hL hr hf hlp
    have Ee : ∀ b m, F_f0_eqC (BB false b) (II false m) (BB false b) (II false m) = true := fun b m => by rw [← H_f0_eqC]; simp [f0_eqC, f0_eqBS, f0_eqSS]
    have Qe : ∀ b m, F_q_eqC (BB false b) (II false m) (BB false b) (II false m) := fun b m => by rw [← H_q_eqC]; exact ⟨⟨⟨_, rfl⟩, ⟨_, rfl⟩⟩, ⟨_, rfl⟩, ⟨_, rfl⟩⟩
    conv => cbv
    simp only [stdEqs hL, imp_self, true_and, and_true, bif_or, bif_and, Bool.or_eq_true, Bool.or_eq_false_iff, Bool.and_eq_true, Bool.and_eq_false_iff, decide_eq_true_eq, decide_eq_false_iff_not, Bool.not_eq_true', Bool.not_eq_false', beq_iff_eq, beq_eq_false_iff_ne, ne_eq, toNat0, toNat1, ok_int, toI_int, I_frzs, I_length, I_getD, ok_ints, toL_slc, hl0, hl1]
    refine ⟨fun h => absurd trivial h, fun _ => ?_⟩
    refine hlp (Int) _ _ _ [0, 1, 4, 5] (fun x => [(0, none, .val (.slc false 31 (.agg [.slc false 58 (.agg [.slc false 2 (.int .i64 0) []]) [], .slc false 53 (.slc false 2 (.int .i64 0) []) []]) a0)), (1, none, .val (.slc false 31 (.agg [.slc false 58 (.agg [.slc false 2 (.int .i64 0) []]) [], .slc false 53 (.slc false 2 (.int .i64 0) []) []]) a1)), (4, none, .val (.bool false)), (5, none, .val (.int .i64 x))])
      (fun x => 0 ≤ x ∧ x ≤ l.length) (fun x => (l.length - x).toNat) (0) (by subst hL; rfl) ?_ ?_
    · exact ⟨by omega, by omega⟩
    rintro i ⟨i0, i1⟩ hfx ag hag
    conv => cbv
    simp only [stdEqs hL, imp_self, true_and, and_true, bif_or, bif_and, Bool.or_eq_true, Bool.or_eq_false_iff, Bool.and_eq_true, Bool.and_eq_false_iff, decide_eq_true_eq, decide_eq_false_iff_not, Bool.not_eq_true', Bool.not_eq_false', beq_iff_eq, beq_eq_false_iff_ne, ne_eq, toNat0, toNat1, ok_int, toI_int, I_frzs, I_length, I_getD, ok_ints, toL_slc, hl0, hl1, ga, gb, ok_cur, fld2_0, fld2_1, BB_frzs, II_frzs, Ee]
    refine ⟨fun h2 => ?_, fun h2 => ?_⟩
    · rw [wrap_id (n := i + 1) (by omega) (by omega)]
      refine ⟨i0, h2, i0, h2, Qe _ _, fun h => (by cases h), fun _ => hag (i + 1) ⟨by omega, by omega⟩ (by omega)⟩
    · rw [hr]; rfl
  · cases h
def ic_markCC (f0 : List V → Int → Int) (f1 : List V → Int → List V) (q : List V → Int → Prop) : IContract := fun
  | [.slc true 31 (.agg [.slc true 58 (.agg [.slc true 2 (.int .i64 0) []]) [], .slc true 53 (.slc true 2 (.int .i64 0) []) []]) a, .int .i64 k] => some ([q a k], .int .i64 (f0 a k), .slc true 31 (.agg [.slc true 58 (.agg [.slc true 2 (.int .i64 0) []]) [], .slc true 53 (.slc true 2 (.int .i64 0) []) []]) (f1 a k))
  | _ => none
def unC1 : V → Cur
  | .agg [.slc _ _ _ x, .slc _ _ _ y] => (unBB x, unII y)
  | _ => ([], [])
def unCC (es : List V) : List Cur := es.map unC1
theorem unCC_CC (o : Bool) (l : List Cur) : unCC (CC o l) = l := by
  simp only [unCC, CC, List.map_map]
  conv => rhs; rw [← List.map_id l]
  exact List.map_congr_left fun p _ => by simp [unC1, unBB_BB, unII_II]
def f0_markCC (a : List V) (k : Int) : Int := k + totC (unCC a)
def f1_markCC (a : List V) (k : Int) : List V := CC true (marksC k (unCC a))
def q_markCC (a : List V) (k : Int) : Prop := ∃ l, a = CC true l ∧ 0 ≤ k ∧ k + totC l ≤ 4611686018427387904 ∧ l.length ≤ 1000
theorem Sh.curs {d : V} (l : List Cur) (k : Int) : Sh (.slc true 31 d (CC true l)) (.slc true 31 d (CC true (marksC k l))) := by
  refine .slc _ _ _ _ _ (by rw [CC_length, CC_length, marksC_len]) (fun i x y hx hy => ?_)
  simp only [CC, List.getElem?_map, Option.map_eq_some_iff] at hx hy
  obtain ⟨a, ha, rfl⟩ := hx
  obtain ⟨b, hb, rfl⟩ := hy
  have key : ∀ (l : List Cur) (k : Int) (i : Nat) (a b : Cur), l[i]? = some a → (marksC k l)[i]? = some b → ∃ k', b = mark1 k' a := by
    intro l
    induction l with
    | nil => intro k i a b h; simp at h
    | cons x l ih =>
      intro k i a b h1 h2
      cases i with
      | zero => simp [marksC] at h1 h2; subst h1; subst h2; exact ⟨k, rfl⟩
      | succ i => exact ih _ i a b (by simpa using h1) (by simpa [marksC] using h2)
  obtain ⟨k', rfl⟩ := key _ _ _ _ _ ha hb
  exact Sh.agg2 (Sh.brans a.1 k') (Sh.lists a.2 _)
set_option maxRecDepth 100000 in
theorem s_laws_markCurveS : SatI Try.prog 14 0 (ic_markCC f0_markCC f1_markCC q_markCC) := by
  intro args ps r y h hp
  unfold ic_markCC at h
  split at h
  · rename_i a0 a1
    simp only [Option.some.injEq, Prod.mk.injEq] at h
    obtain ⟨rfl, rfl, rfl⟩ := h
    obtain ⟨l, h0, hk0, hk1, hl9⟩ : q_markCC a0 a1 := (alls_cons.1 hp).1
    generalize H_f0_markBS : f0_markBS = F_f0_markBS
    generalize H_f1_markBS : f1_markBS = F_f1_markBS
    generalize H_q_markBO : q_markBO = F_q_markBO
    generalize H_f0_markSS : f0_markSS = F_f0_markSS
    generalize H_f1_markSS : f1_markSS = F_f1_markSS
    generalize H_q_markO : q_markO = F_q_markO
    refine fnIO_of (T := tab) (B := []) (Bi := [(28, 0, false, ic_markBS F_f0_markBS F_f1_markBS F_q_markBO), (29, 0, false, ic_markSS F_f0_markSS F_f1_markSS F_q_markO)]) 0 [0, 1, 4, 5] Try.func14 rfl rfl (by kernel_rfl) (Nat.le_of_ble_eq_true rfl) mixed tabOk (by subst H_f0_markBS H_f1_markBS H_q_markBO H_f0_markSS H_f1_markSS H_q_markO; exact bookNil) (by subst H_f0_markBS H_f1_markBS H_q_markBO H_f0_markSS H_f1_markSS H_q_markO; exact (bookICons s_laws_markBranchS (bookICons s_laws_markInt64SS bookINil))) (by kernel_rfl) rfl rfl rfl (by rw [f1_markCC, h0, unCC_CC]; exact Sh.curs l a1) rfl ?_
    intro L lp rr yy hL hr hy hf hlp
    have B0 : ∀ b k, F_f0_markBS (BB true b) k = k + tot b := fun b k => by rw [← H_f0_markBS, f0_markBS, unBB_BB]
    have B1 : ∀ b k, F_f1_markBS (BB true b) k = BB true (marksGo k b) := fun b k => by rw [← H_f1_markBS, f1_markBS, unBB_BB]
    have BQ : ∀ b (k : Int), 0 ≤ k → k + tot b ≤ 9223372036854775807 → F_q_markBO (BB true b) k := fun b k h1 h2 => by rw [← H_q_markBO]; exact ⟨⟨_, rfl⟩, h1, by rw [unBB_BB]; exact h2⟩
    have M0 : ∀ b k, F_f0_markSS (II true b) k = k + tot b := fun b k => by rw [← H_f0_markSS, f0_markSS, unII_II]
    have M1 : ∀ b k, F_f1_markSS (II true b) k = II true (marksGo k b) := fun b k => by rw [← H_f1_markSS, f1_markSS, unII_II]
    have MQ : ∀ b (k : Int), 0 ≤ k → k + tot b ≤ 9223372036854775807 → F_q_markO (II true b) k := fun b k h1 h2 => by rw [← H_q_markO]; exact ⟨⟨_, rfl⟩, h1, by rw [unII_II]; exact h2⟩
    conv => cbv
    refine hlp ((Int × List V) × Int) _ _ _ [0, 1, 5] (fun x => [(0, none, .val (.slc true 31 (.agg [.slc true 58 (.agg [.slc true 2 (.int .i64 0) []]) [], .slc true 53 (.slc true 2 (.int .i64 0) []) []]) x.1.2)), (1, none, .val (.int .i64 x.1.1)), (5, none, .val (.int .i64 x.2))])
      (fun x => 0 ≤ x.2 ∧ x.2 ≤ l.length ∧ x.1.1 = a1 + totC (l.take x.2.toNat) ∧ x.1.2 = CC true (marksC a1 (l.take x.2.toNat) ++ l.drop x.2.toNat)) (fun x => (l.length - x.2).toNat) (((a1, a0), 0)) (by subst hL; rfl) ?_ ?_
    · exact ⟨by simp, by simp only; omega, by simp [totC], by simp [marksC, h0]⟩
    rintro ⟨⟨k, es⟩, i⟩ ⟨i0, i1, hk, hes⟩ hfx ag hag
    simp only at i0 i1 hk hes
    have hel : es.length = l.length := by rw [hes, CC_length, List.length_append, marksC_len, List.length_take, List.length_drop]; omega
    have hg : i < l.length → es.getD i.toNat (.agg [.slc true 58 (.agg [.slc true 2 (.int .i64 0) []]) [], .slc true 53 (.slc true 2 (.int .i64 0) []) []]) = .agg [.slc true 58 (.agg [.slc true 2 (.int .i64 0) []]) (BB true (l.getD i.toNat ([], [])).1), .slc true 53 (.slc true 2 (.int .i64 0) []) (II true (l.getD i.toNat ([], [])).2)] := fun hi => by
      rw [hes, CC_getD, marksC_get _ _ _ (by omega)]
    conv => cbv
    by_cases hil : i < l.length
    · have hg := hg hil
      have gst : ∀ x d : V, (es.set i.toNat x).getD i.toNat d = x := fun x d => by rw [List.getD_eq_getElem?_getD, List.getElem?_set_self (by omega)]; rfl
      simp only [stdEqs hL, imp_self, true_and, and_true, bif_or, bif_and, Bool.or_eq_true, Bool.or_eq_false_iff, Bool.and_eq_true, Bool.and_eq_false_iff, decide_eq_true_eq, decide_eq_false_iff_not, Bool.not_eq_true', Bool.not_eq_false', beq_iff_eq, beq_eq_false_iff_ne, ne_eq, toNat0, toNat1, ok_int, toI_int, I_frzs, I_length, I_getD, ok_ints, toL_slc, hel, hg, ok_cur, fld2_0, fld2_1, gst, List.length_set, ok_bs, ok_ms, B0, B1, M0, M1]
      have ht := totC_step (l := l) (i := i.toNat) (by omega)
      have ht2 := totC_take_le l (i.toNat + 1)
      refine ⟨fun _ => ?_, fun h => absurd hil h⟩
      rw [wrap_id (n := i + 1) (by omega) (by omega)]
      refine ⟨i0, hil, by omega, by omega, by omega, BQ _ _ (by omega) (by omega), i0, hil, by omega, by omega, by omega, MQ _ _ (by omega) (by omega), ?_⟩
      refine hag ((_, _), i + 1) ⟨by simp only; omega, by simp only; omega, ?_, ?_⟩ (by simp only; omega)
      · simp only [toNat_succ i0]; omega
      · simp only [toNat_succ i0]
        rw [List.set_set, hes, ← marksC_step _ _ _ (by omega), ← CC_set, ← hk]
        rfl
    · simp only [stdEqs hL, imp_self, true_and, and_true, bif_or, bif_and, Bool.or_eq_true, Bool.or_eq_false_iff, Bool.and_eq_true, Bool.and_eq_false_iff, decide_eq_true_eq, decide_eq_false_iff_not, Bool.not_eq_true', Bool.not_eq_false', beq_iff_eq, beq_eq_false_iff_ne, ne_eq, toNat0, toNat1, ok_int, toI_int, I_frzs, I_length, I_getD, ok_ints, toL_slc, hel]
      refine ⟨fun h => absurd h hil, fun _ => ?_⟩
      rw [hr, hy, hk, hes, f0_markCC, f1_markCC, h0, unCC_CC, List.take_of_length_le (by omega), List.drop_eq_nil_of_le (by omega), List.append_nil]
      exact ⟨rfl, rfl⟩
  · cases h
def c_heldCC (f : List V → Int → Int) (q : List V → Int → Prop) : Contract := fun
  | [.slc false 31 (.agg [.slc false 58 (.agg [.slc false 2 (.int .i64 0) []]) [], .slc false 53 (.slc false 2 (.int .i64 0) []) []]) a, .int .i64 k] => some ([q a k], .int .i64 (f a k))
  | _ => none
def q_heldCC (a : List V) (k : Int) : Prop := ∃ l, a = CC false (marksC k l) ∧ 0 ≤ k ∧ k + totC l ≤ 4611686018427387904 ∧ l.length ≤ 1000
set_option maxRecDepth 100000 in
theorem s_laws_heldCurveS : Sat Try.prog 15 (c_heldCC f0_markCC q_heldCC) := by
  intro args ps r h hp
  unfold c_heldCC at h
  split at h
  · rename_i a0 a1
    simp only [Option.some.injEq, Prod.mk.injEq] at h
    obtain ⟨rfl, rfl⟩ := h
    obtain ⟨l, h0, hk0, hk1, hl9⟩ : q_heldCC a0 a1 := (alls_cons.1 hp).1
    have hel : a0.length = l.length := by rw [h0, CC_length, marksC_len]
    generalize H_f0_heldBS : f0_heldBS = F_f0_heldBS
    generalize H_q_markBF : q_markBF = F_q_markBF
    generalize H_f0_heldSS : f0_heldSS = F_f0_heldSS
    generalize H_q_markF : q_markF = F_q_markF
    refine fnOk_ofI (T := tab) (B := [(30, c_heldBS F_f0_heldBS F_q_markBF), (31, c_heldSS F_f0_heldSS F_q_markF)]) (Bi := []) [0, 1, 4, 5] Try.func15 rfl rfl (by kernel_rfl) (Nat.le_of_ble_eq_true rfl) mixed tabOk (by subst H_f0_heldBS H_q_markBF H_f0_heldSS H_q_markF; exact (bookCons s_laws_heldBranchS (bookCons s_laws_heldInt64SS bookNil))) (by subst H_f0_heldBS H_q_markBF H_f0_heldSS H_q_markF; exact bookINil) (by kernel_rfl) ?_
    intro L lp rr hL hr hf hlp
    have B0 : ∀ b k, 0 ≤ k → F_f0_heldBS (BB false (marksGo k b)) k = k + tot b := fun b k _ => by rw [← H_f0_heldBS, f0_heldBS, unBB_BB, marksGo_idem, if_pos rfl, tot_marksGo]
    have BQ : ∀ b (k : Int), 0 ≤ k → k + tot b ≤ 9223372036854775807 → F_q_markBF (BB false (marksGo k b)) k := fun b k h1 h2 => by rw [← H_q_markBF]; exact ⟨⟨_, rfl⟩, h1, by rw [unBB_BB, tot_marksGo]; exact h2⟩
    have M0 : ∀ b k, 0 ≤ k → F_f0_heldSS (II false (marksGo k b)) k = k + tot b := fun b k _ => by rw [← H_f0_heldSS, f0_heldSS, unII_II, marksGo_idem, if_pos rfl, tot_marksGo]
    have MQ : ∀ b (k : Int), 0 ≤ k → k + tot b ≤ 9223372036854775807 → F_q_markF (II false (marksGo k b)) k := fun b k h1 h2 => by rw [← H_q_markF]; exact ⟨⟨_, rfl⟩, h1, by rw [unII_II, tot_marksGo]; exact h2⟩
    conv => cbv
    refine hlp (Int × Int) _ _ _ [0, 1, 5] (fun x => [(0, none, .val (.slc false 31 (.agg [.slc false 58 (.agg [.slc false 2 (.int .i64 0) []]) [], .slc false 53 (.slc false 2 (.int .i64 0) []) []]) a0)), (1, none, .val (.int .i64 x.1)), (5, none, .val (.int .i64 x.2))])
      (fun x => 0 ≤ x.2 ∧ x.2 ≤ l.length ∧ x.1 = a1 + totC (l.take x.2.toNat)) (fun x => (l.length - x.2).toNat) ((a1, 0)) (by subst hL; rfl) ?_ ?_
    · exact ⟨by simp, by simp only; omega, by simp [totC]⟩
    rintro ⟨k, i⟩ ⟨i0, i1, hk⟩ hfx ag hag
    simp only at i0 i1 hk
    conv => cbv
    by_cases hil : i < l.length
    · have hg : a0.getD i.toNat (.agg [.slc false 58 (.agg [.slc false 2 (.int .i64 0) []]) [], .slc false 53 (.slc false 2 (.int .i64 0) []) []]) = .agg [.slc false 58 (.agg [.slc false 2 (.int .i64 0) []]) (BB false (marksGo k (l.getD i.toNat ([], [])).1)), .slc false 53 (.slc false 2 (.int .i64 0) []) (II false (marksGo (k + tot (l.getD i.toNat ([], [])).1) (l.getD i.toNat ([], [])).2))] := by
        rw [h0, CC_getD, marksC_at _ _ _ (by omega), ← hk]; rfl
      have ht := totC_step (l := l) (i := i.toNat) (by omega)
      have ht2 := totC_take_le l (i.toNat + 1)
      have B0k := B0 (l.getD i.toNat ([], [])).1 k (by omega)
      have M0k := M0 (l.getD i.toNat ([], [])).2 (k + tot (l.getD i.toNat ([], [])).1) (by omega)
      simp only [stdEqs hL, imp_self, true_and, and_true, bif_or, bif_and, Bool.or_eq_true, Bool.or_eq_false_iff, Bool.and_eq_true, Bool.and_eq_false_iff, decide_eq_true_eq, decide_eq_false_iff_not, Bool.not_eq_true', Bool.not_eq_false', beq_iff_eq, beq_eq_false_iff_ne, ne_eq, toNat0, toNat1, ok_int, toI_int, I_frzs, I_length, I_getD, ok_ints, toL_slc, hel, hg, ok_cur, fld2_0, fld2_1, ok_bs, ok_ms, BB_frzs, II_frzs, B0k, M0k]
      refine ⟨fun _ => ?_, fun h => absurd hil h⟩
      rw [wrap_id (n := i + 1) (by omega) (by omega)]
      refine ⟨i0, hil, BQ _ _ (by omega) (by omega), fun h => (by omega), fun _ => ⟨i0, hil, MQ _ _ (by omega) (by omega), fun h => (by omega), fun _ => ?_⟩⟩
      refine hag (_, i + 1) ⟨by simp only; omega, by simp only; omega, ?_⟩ (by simp only; omega)
      simp only [toNat_succ i0]; omega
    · simp only [stdEqs hL, imp_self, true_and, and_true, bif_or, bif_and, Bool.or_eq_true, Bool.or_eq_false_iff, Bool.and_eq_true, Bool.and_eq_false_iff, decide_eq_true_eq, decide_eq_false_iff_not, Bool.not_eq_true', Bool.not_eq_false', beq_iff_eq, beq_eq_false_iff_ne, ne_eq, toNat0, toNat1, ok_int, toI_int, I_frzs, I_length, I_getD, ok_ints, toL_slc, hel]
      refine ⟨fun h => absurd h hil, fun _ => ?_⟩
      rw [hr, hk, f0_markCC, h0, unCC_CC, totC_marksC, List.take_of_length_le (by omega)]
  · cases h
end Go.Ax
