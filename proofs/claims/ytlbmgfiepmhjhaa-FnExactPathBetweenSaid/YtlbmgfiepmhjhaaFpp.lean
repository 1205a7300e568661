/-
  Graphs: neighbours, intersection matrices. No conditions but those of the contracts.
-/
import Derived.Test.YtlbmgfiepmhjhaaFop
set_option linter.all false
namespace Go.Ax
open Go.Proofs

structure Gr (ws : List Int) (es : List (List Int)) : Prop where
  is : isGr ws es = true
  n1 : 1 ≤ ws.length
  n2 : ws.length ≤ 40
  wlo : ∀ i, i < ws.length → -1000 ≤ ws.getD i 0 ∧ ws.getD i 0 ≤ 1000
  eok : edsOk ws.length none es = true
  ed : ∀ e ∈ es, EdIn ws.length e
  lt : ∀ e ∈ es, e0 e < e1 e
  el : es.length < ws.length
  acyc : acy (iota ws.length) es = true
theorem gr_of {ws : List Int} {es : List (List Int)} (h : isGr ws es = true) : Gr ws es := by
  have h' := h
  simp only [isGr, Bool.and_eq_true, decide_eq_true_eq] at h'
  obtain ⟨⟨⟨⟨x1, x2⟩, x3⟩, x4⟩, x5⟩ := h'
  have he := fun e he => edsOk_in x4 e he
  refine ⟨h, x1, x2, fun i hi => ?_, x4, fun e h => (he e h).1, fun e h => (he e h).2, (comp_iff (n := ws.length) (es := es) (by omega) (fun e h => (he e h).1)).2.2.2.2 x5, x5⟩
  simp only [within, List.all_eq_true, inRange, Bool.and_eq_true, decide_eq_true_eq] at x3
  rw [List.getD_eq_getElem?_getD, List.getElem?_eq_getElem hi]
  exact x3 _ (List.getElem_mem hi)

def nearA (es : List (List Int)) (v : Int) : List Int := (es.filter fun e => e1 e == v).map e0
def nearB (es : List (List Int)) (v : Int) : List Int := (es.filter fun e => e0 e == v).map e1
def near (es : List (List Int)) (v : Int) : List Int := nearA es v ++ nearB es v
theorem nearA_len (es : List (List Int)) (v : Int) : (nearA es v).length ≤ es.length := by
  rw [nearA, List.length_map]; exact List.length_filter_le _ _
theorem nearB_len (es : List (List Int)) (v : Int) : (nearB es v).length ≤ es.length := by
  rw [nearB, List.length_map]; exact List.length_filter_le _ _
theorem nearA_step (es : List (List Int)) (v : Int) (k : Nat) (h : k < es.length) : nearA (es.take (k + 1)) v = nearA (es.take k) v ++ (if e1 (es.getD k []) = v then [e0 (es.getD k [])] else []) := by
  rw [take_succ_tot _ _ h, nearA, nearA, List.filter_append, List.map_append]
  congr 1
  generalize es.getD k [] = E
  by_cases hh : e1 E = v
  · simp [hh]
  · simp [hh]
theorem nearB_step (es : List (List Int)) (v : Int) (k : Nat) (h : k < es.length) : nearB (es.take (k + 1)) v = nearB (es.take k) v ++ (if e0 (es.getD k []) = v then [e1 (es.getD k [])] else []) := by
  rw [take_succ_tot _ _ h, nearB, nearB, List.filter_append, List.map_append]
  congr 1
  generalize es.getD k [] = E
  by_cases hh : e0 E = v
  · simp [hh]
  · simp [hh]
def c_Gi_l (f : List V → List V → Int → List V) (q : List V → List V → Int → Prop) : Contract := fun
  | [.agg [.slc false 2 (.int .i64 0) a0, .slc false 22 (.slc false 2 (.int .i64 0) []) a1], .int .i64 a2] => some ([q a0 a1 a2], .slc true 2 (.int .i64 0) (f a0 a1 a2))
  | _ => none
def f_near (_ es : List V) (v : Int) : List V := I (near (unII es) v)
def q_near (ws es : List V) (_ : Int) : Prop := IsI ws ∧ ∃ ess, es = II false ess ∧ ess.length ≤ 1000000 ∧ ∀ e ∈ ess, e.length = 2
set_option maxRecDepth 100000 in
theorem s_spec_l11Near : Sat Try.prog 42 (c_Gi_l f_near q_near) := by
  intro args ps r h hp
  unfold c_Gi_l at h
  split at h
  · rename_i a0 a1 a2
    simp only [Option.some.injEq, Prod.mk.injEq] at h
    obtain ⟨rfl, rfl⟩ := h
    obtain ⟨hq0, es, hes, hel1, hel2⟩ : q_near a0 a1 a2 := (alls_cons.1 hp).1
    have hel : a1.length = es.length := by rw [hes, II_length]
    have hf0 : f_near a0 a1 a2 = I (near es a2) := by rw [f_near, hes, unII_II]
    have ges : ∀ k, a1.getD k (.slc false 2 (.int .i64 0) []) = .slc false 2 (.int .i64 0) (I (es.getD k [])) := fun k => by rw [hes, II_getD]
    refine fnOk_ofI (T := tab) (B := []) (Bi := []) [0, 1, 2, 4, 5, 6, 7] Try.func42 rfl rfl (by kernel_rfl) (Nat.le_of_ble_eq_true rfl) mixed tabOk (by exact bookNil) (by exact bookINil) (by kernel_rfl) ?_
    intro L lp rr hL hr hf hlp
    conv => cbv
    refine hlp (List V × Int) _ _ _ [1, 2, 5, 6] (fun x => [(1, none, .val (.int .i64 a2)), (2, none, .val (.box 29 (.agg [.slc false 2 (.int .i64 0) a0, .slc false 22 (.slc false 2 (.int .i64 0) []) a1]))), (5, none, .val (.slc true 2 (.int .i64 0) x.1)), (6, none, .val (.int .i64 x.2))])
      (fun x => 0 ≤ x.2 ∧ x.2 ≤ es.length ∧ x.1 = I (nearA (es.take x.2.toNat) a2)) (fun x => (es.length - x.2).toNat) (([], 0)) (by subst hL; rfl) ?_ ?_
    · exact ⟨by simp, by simp, rfl⟩
    rintro ⟨ls, k⟩ ⟨k0, k1, hI⟩ hfx ag hag
    simp only at k0 k1 hI
    have hl : ls.length ≤ 1000000 := by
      rw [hI, I_length]
      have := nearA_len (es.take k.toNat) a2
      rw [List.length_take] at this
      omega
    conv => cbv
    obtain ⟨E, hE⟩ : ∃ E, E = es.getD k.toNat [] := ⟨_, rfl⟩
    simp only [stdEqs hL, imp_self, true_and, and_true, bif_or, bif_and, Bool.or_eq_true, Bool.or_eq_false_iff, Bool.and_eq_true, Bool.and_eq_false_iff, decide_eq_true_eq, decide_eq_false_iff_not, Bool.not_eq_true', Bool.not_eq_false', beq_iff_eq, beq_eq_false_iff_ne, ne_eq, toNat0, toNat1, ok_int, toI_int, I_frzs, I_length, I_getD, ok_ints, toL_slc, hel, ges, ← hE]
    refine ⟨fun h1 => ?_, fun h1 => ?_⟩
    · have hEl : E.length = 2 := by rw [hE]; exact hel2 _ (mem_getD (by omega))
      have hst := nearA_step es a2 k.toNat (by omega)
      rw [← hE] at hst
      rw [wrap_id (n := k + 1) (by omega) (by omega)]
      (repeat' first | (exact solid_one _) | (exact solid1 rfl) | (exact noown_one _) | (apply And.intro) | (intro _)) <;> (try first | exact True.intro | omega | rfl | (simp only [List.length_cons, List.length_nil, I_length]; omega))
      · rename_i h2
        refine hag (_, k + 1) ⟨by simp only; omega, by simp only; omega, ?_⟩ (by simp only; omega)
        simp only [toNat_succ k0]
        rw [hst, if_pos (by simp only [e1]; omega), hI, ← I_append]
        rfl
      · rename_i h2
        refine hag (_, k + 1) ⟨by simp only; omega, by simp only; omega, ?_⟩ (by simp only; omega)
        simp only [toNat_succ k0]
        rw [hst, if_neg (by simp only [e1]; omega), hI, List.append_nil]
    have hls : ls = I (nearA es a2) := by rw [hI, List.take_of_length_le (by omega)]
    clear hI hag hfx ag k0 k1 h1 hE
    refine hlp (List V × Int) _ _ _ [1, 2, 5, 7] (fun x => [(1, none, .val (.int .i64 a2)), (2, none, .val (.box 29 (.agg [.slc false 2 (.int .i64 0) a0, .slc false 22 (.slc false 2 (.int .i64 0) []) a1]))), (5, none, .val (.slc true 2 (.int .i64 0) x.1)), (7, none, .val (.int .i64 x.2))])
      (fun x => 0 ≤ x.2 ∧ x.2 ≤ es.length ∧ x.1 = I (nearA es a2 ++ nearB (es.take x.2.toNat) a2)) (fun x => (es.length - x.2).toNat) ((ls, 0)) (by subst hL; rfl) ?_ ?_
    · exact ⟨by simp, by simp, by rw [hls]; simp [nearB]⟩
    rintro ⟨ls2, k2⟩ ⟨k0, k1, hI⟩ hfx ag hag
    simp only at k0 k1 hI
    have hl2 : ls2.length ≤ 2000000 := by
      rw [hI, I_length, List.length_append]
      have := nearB_len (es.take k2.toNat) a2
      have := nearA_len es a2
      rw [List.length_take] at *
      omega
    conv => cbv
    obtain ⟨E, hE⟩ : ∃ E, E = es.getD k2.toNat [] := ⟨_, rfl⟩
    simp only [stdEqs hL, imp_self, true_and, and_true, bif_or, bif_and, Bool.or_eq_true, Bool.or_eq_false_iff, Bool.and_eq_true, Bool.and_eq_false_iff, decide_eq_true_eq, decide_eq_false_iff_not, Bool.not_eq_true', Bool.not_eq_false', beq_iff_eq, beq_eq_false_iff_ne, ne_eq, toNat0, toNat1, ok_int, toI_int, I_frzs, I_length, I_getD, ok_ints, toL_slc, hel, ges, ← hE]
    refine ⟨fun h1 => ?_, fun h1 => ?_⟩
    · have hEl : E.length = 2 := by rw [hE]; exact hel2 _ (mem_getD (by omega))
      have hst := nearB_step es a2 k2.toNat (by omega)
      rw [← hE] at hst
      rw [wrap_id (n := k2 + 1) (by omega) (by omega)]
      (repeat' first | (exact solid_one _) | (exact solid1 rfl) | (exact noown_one _) | (apply And.intro) | (intro _)) <;> (try first | exact True.intro | omega | rfl | (simp only [List.length_cons, List.length_nil, I_length]; omega))
      · rename_i h2
        refine hag (_, k2 + 1) ⟨by simp only; omega, by simp only; omega, ?_⟩ (by simp only; omega)
        simp only [toNat_succ k0]
        rw [hst, if_pos (by simp only [e0]; omega), hI, ← List.append_assoc]
        simp only [← I_append]
        rfl
      · rename_i h2
        refine hag (_, k2 + 1) ⟨by simp only; omega, by simp only; omega, ?_⟩ (by simp only; omega)
        simp only [toNat_succ k0]
        rw [hst, if_neg (by simp only [e0]; omega), hI, List.append_nil]
    · rw [hr, hf0, hI, List.take_of_length_le (by omega), near]
  · cases h

def c_G_m (f : List V → List V → List V) (q : List V → List V → Prop) : Contract := fun
  | [.agg [.slc false 2 (.int .i64 0) a0, .slc false 22 (.slc false 2 (.int .i64 0) []) a1]] => some ([q a0 a1], .slc true 22 (.slc true 2 (.int .i64 0) []) (f a0 a1))
  | _ => none
def q_Gr (ws es : List V) : Prop := ∃ w e, ws = I w ∧ es = II false e ∧ Gr w e
theorem near_in {n : Nat} {es : List (List Int)} (hed : ∀ e ∈ es, EdIn n e) {v x : Int} (h : x ∈ near es v) : 0 ≤ x ∧ x < n := by
  simp only [near, nearA, nearB, List.mem_append, List.mem_map, List.mem_filter] at h
  rcases h with ⟨e, ⟨he, _⟩, rfl⟩ | ⟨e, ⟨he, _⟩, rfl⟩
  · exact ⟨(hed e he).2.1, (hed e he).2.2.1⟩
  · exact ⟨(hed e he).2.2.2.1, (hed e he).2.2.2.2⟩
def ic_markG (f0 : List V → List V → Int → Int) (f1 f2 : List V → List V → Int → List V) (q : List V → List V → Int → Prop) : IContract := fun
  | [.agg [.slc true 2 (.int .i64 0) a0, .slc true 22 (.slc true 2 (.int .i64 0) []) a1], .int .i64 k] => some ([q a0 a1 k], .int .i64 (f0 a0 a1 k), .agg [.slc true 2 (.int .i64 0) (f1 a0 a1 k), .slc true 22 (.slc true 2 (.int .i64 0) []) (f2 a0 a1 k)])
  | _ => none
def f0_markG (a0 a1 : List V) (k : Int) : Int := f0_markSS a1 (f0_mark a0 k)
def f1_markG (a0 _ : List V) (k : Int) : List V := f1_mark a0 k
def f2_markG (a0 a1 : List V) (k : Int) : List V := f1_markSS a1 (f0_mark a0 k)
def q_markG (a0 a1 : List V) (k : Int) : Prop := q_mark a0 k ∧ q_markO a1 (f0_mark a0 k)
set_option maxRecDepth 100000 in
theorem s_laws_markGraph : SatI Try.prog 12 0 (ic_markG f0_markG f1_markG f2_markG q_markG) := by
  intro args ps r y h hp
  unfold ic_markG at h
  split at h
  · rename_i a0 a1 k
    simp only [Option.some.injEq, Prod.mk.injEq] at h
    obtain ⟨rfl, rfl, rfl⟩ := h
    obtain ⟨h0, h1⟩ : q_markG a0 a1 k := (alls_cons.1 hp).1
    have hf0 : f0_markG a0 a1 k = f0_markSS a1 (f0_mark a0 k) := rfl
    have hf1 : f1_markG a0 a1 k = f1_mark a0 k := rfl
    have hf2 : f2_markG a0 a1 k = f1_markSS a1 (f0_mark a0 k) := rfl
    generalize H_f0_mark : f0_mark = F_f0_mark
    generalize H_f1_mark : f1_mark = F_f1_mark
    generalize H_q_mark : q_mark = F_q_mark
    generalize H_f0_markSS : f0_markSS = F_f0_markSS
    generalize H_f1_markSS : f1_markSS = F_f1_markSS
    generalize H_q_markO : q_markO = F_q_markO
    refine fnIO_of (T := tab) (B := []) (Bi := [(13, 0, false, ic_markInt64S F_f0_mark F_f1_mark F_q_mark), (39, 0, false, ic_markSS F_f0_markSS F_f1_markSS F_q_markO)]) 0 [0, 1, 2, 4] Try.func12 rfl rfl (by kernel_rfl) (Nat.le_of_ble_eq_true rfl) mixed tabOk (by subst H_f0_mark H_f1_mark H_q_mark H_f0_markSS H_f1_markSS H_q_markO; exact bookNil) (by subst H_f0_mark H_f1_mark H_q_mark H_f0_markSS H_f1_markSS H_q_markO; exact (bookICons s_laws_markInt64S (bookICons s_laws_markInt64SS bookINil))) (by kernel_rfl) rfl rfl rfl (by subst H_f0_mark H_f1_markSS H_f1_mark; obtain ⟨⟨xs, rfl⟩, _⟩ := h0; obtain ⟨⟨ys, rfl⟩, _⟩ := h1; rw [hf1, hf2]; exact Sh.agg2 (by rw [f1_mark]; exact Sh.ints (by simp [marks_len])) (by rw [f1_markSS, unII_II]; exact Sh.lists ys _)) rfl ?_
    intro L lp rr yy hL hr hy hf hlp
    conv => cbv
    subst H_f0_mark H_f1_mark H_q_mark H_f0_markSS H_f1_markSS H_q_markO
    rw [hr, hy, hf0, hf1, hf2]
    exact ⟨h0, h1, rfl, rfl⟩
  · cases h
theorem markG_keys (ws : List Int) (es : List (List Int)) (h : ws.length + tot es ≤ 4611686018427387904) :
    q_markG (I ws) (II true es) 1 ∧ f0_markG (I ws) (II true es) 1 = 1 + ws.length + tot es ∧ f1_markG (I ws) (II true es) 1 = I (marks ws.length 1) ∧ f2_markG (I ws) (II true es) 1 = II true (marksGo (1 + ws.length) es) ∧ V.noFzs (II true es) = true := by
  have e : f0_mark (I ws) 1 = 1 + ws.length := by rw [f0_mark, I_length]
  refine ⟨⟨⟨⟨_, rfl⟩, by omega, by rw [I_length]; omega⟩, ?_⟩, by rw [f0_markG, e, f0_markSS, unII_II], by rw [f1_markG, f1_mark, I_length], by rw [f2_markG, e, f1_markSS, unII_II], II_noFzs _⟩
  rw [e]
  exact ⟨⟨_, rfl⟩, by omega, by rw [unII_II]; omega⟩
end Go.Ax
