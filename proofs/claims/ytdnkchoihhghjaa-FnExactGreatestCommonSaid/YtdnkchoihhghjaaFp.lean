/-
  Graphs: neighbours, intersection matrices. No conditions but those of the contracts.
-/
import Derived.Test.YtdnkchoihhghjaaFo
set_option linter.all false
namespace Go.Ax
open Go.Proofs

/-- what is known of a graph -/
structure Gr (ws : List Int) (es : List (List Int)) : Prop where
  is : isGr ws es = true
  n1 : 1 ≤ ws.length
  n2 : ws.length ≤ 40
  wlo : ∀ i, i < ws.length → -1000 ≤ ws.getD i 0 ∧ ws.getD i 0 ≤ 1000
  eok : edsOk ws.length none es = true
  ed : ∀ e ∈ es, EdIn ws.length e
  lt : ∀ e ∈ es, e0 e < e1 e
  el : es.length < ws.length
  acyc : acy (iota ws.length) es = true
theorem gr_of {ws : List Int} {es : List (List Int)} (h : isGr ws es = true) : Gr ws es := by
  have h' := h
  simp only [isGr, Bool.and_eq_true, decide_eq_true_eq] at h'
  obtain ⟨⟨⟨⟨x1, x2⟩, x3⟩, x4⟩, x5⟩ := h'
  have he := fun e he => edsOk_in x4 e he
  refine ⟨h, x1, x2, fun i hi => ?_, x4, fun e h => (he e h).1, fun e h => (he e h).2, (comp_iff (n := ws.length) (es := es) (by omega) (fun e h => (he e h).1)).2.2.2.2 x5, x5⟩
  simp only [within, List.all_eq_true, inRange, Bool.and_eq_true, decide_eq_true_eq] at x3
  rw [List.getD_eq_getElem?_getD, List.getElem?_eq_getElem hi]
  exact x3 _ (List.getElem_mem hi)

/-! neighbours -/
def nearA (es : List (List Int)) (v : Int) : List Int := (es.filter fun e => e1 e == v).map e0
def nearB (es : List (List Int)) (v : Int) : List Int := (es.filter fun e => e0 e == v).map e1
def near (es : List (List Int)) (v : Int) : List Int := nearA es v ++ nearB es v
theorem nearA_len (es : List (List Int)) (v : Int) : (nearA es v).length ≤ es.length := by
  rw [nearA, List.length_map]; exact List.length_filter_le _ _
theorem nearB_len (es : List (List Int)) (v : Int) : (nearB es v).length ≤ es.length := by
  rw [nearB, List.length_map]; exact List.length_filter_le _ _
theorem nearA_step (es : List (List Int)) (v : Int) (k : Nat) (h : k < es.length) : nearA (es.take (k + 1)) v = nearA (es.take k) v ++ (if e1 (es.getD k []) = v then [e0 (es.getD k [])] else []) := by
  rw [take_succ_tot _ _ h, nearA, nearA, List.filter_append, List.map_append]
  congr 1
  generalize es.getD k [] = E
  by_cases hh : e1 E = v
  · simp [hh]
  · simp [hh]
theorem nearB_step (es : List (List Int)) (v : Int) (k : Nat) (h : k < es.length) : nearB (es.take (k + 1)) v = nearB (es.take k) v ++ (if e0 (es.getD k []) = v then [e1 (es.getD k [])] else []) := by
  rw [take_succ_tot _ _ h, nearB, nearB, List.filter_append, List.map_append]
  congr 1
  generalize es.getD k [] = E
  by_cases hh : e0 E = v
  · simp [hh]
  · simp [hh]
def c_Gi_l (f : List V → List V → Int → List V) (q : List V → List V → Int → Prop) : Contract := fun
  | [.agg [.slc false 2 (.int .i64 0) a0, .slc false 22 (.slc false 2 (.int .i64 0) []) a1], .int .i64 a2] => some ([q a0 a1 a2], .slc true 2 (.int .i64 0) (f a0 a1 a2))
  | _ => none
def f_near (_ es : List V) (v : Int) : List V := I (near (unII es) v)
def q_near (ws es : List V) (_ : Int) : Prop := IsI ws ∧ ∃ ess, es = II false ess ∧ ess.length ≤ 1000000 ∧ ∀ e ∈ ess, e.length = 2
set_option maxRecDepth 100000 in
theorem s_spec_l11Near : Sat Try.prog 120 (c_Gi_l f_near q_near) := by
  intro args ps r h hp
  unfold c_Gi_l at h
  split at h
  · rename_i a0 a1 a2
    simp only [Option.some.injEq, Prod.mk.injEq] at h
    obtain ⟨rfl, rfl⟩ := h
    obtain ⟨hq0, es, hes, hel1, hel2⟩ : q_near a0 a1 a2 := (alls_cons.1 hp).1
    have hel : a1.length = es.length := by rw [hes, II_length]
    have hf0 : f_near a0 a1 a2 = I (near es a2) := by rw [f_near, hes, unII_II]
    have ges : ∀ k, a1.getD k (.slc false 2 (.int .i64 0) []) = .slc false 2 (.int .i64 0) (I (es.getD k [])) := fun k => by rw [hes, II_getD]
    refine fnOk_ofI (T := tab) (B := []) (Bi := []) [0, 1, 2, 4, 5, 6, 7] Try.func120 rfl rfl (by kernel_rfl) (Nat.le_of_ble_eq_true rfl) mixed tabOk (by exact bookNil) (by exact bookINil) (by kernel_rfl) ?_
    intro L lp rr hL hr hf hlp
    conv => cbv
    refine hlp (List V × Int) _ _ _ [1, 2, 5, 6] (fun x => [(1, none, .val (.int .i64 a2)), (2, none, .val (.box 28 (.agg [.slc false 2 (.int .i64 0) a0, .slc false 22 (.slc false 2 (.int .i64 0) []) a1]))), (5, none, .val (.slc true 2 (.int .i64 0) x.1)), (6, none, .val (.int .i64 x.2))])
      (fun x => 0 ≤ x.2 ∧ x.2 ≤ es.length ∧ x.1 = I (nearA (es.take x.2.toNat) a2)) (fun x => (es.length - x.2).toNat) (([], 0)) (by subst hL; rfl) ?_ ?_
    · exact ⟨by simp, by simp, rfl⟩
    rintro ⟨ls, k⟩ ⟨k0, k1, hI⟩ hfx ag hag
    simp only at k0 k1 hI
    have hl : ls.length ≤ 1000000 := by
      rw [hI, I_length]
      have := nearA_len (es.take k.toNat) a2
      rw [List.length_take] at this
      omega
    conv => cbv
    obtain ⟨E, hE⟩ : ∃ E, E = es.getD k.toNat [] := ⟨_, rfl⟩
    simp only [stdEqs hL, imp_self, true_and, and_true, bif_or, bif_and, Bool.or_eq_true, Bool.or_eq_false_iff, Bool.and_eq_true, Bool.and_eq_false_iff, decide_eq_true_eq, decide_eq_false_iff_not, Bool.not_eq_true', Bool.not_eq_false', beq_iff_eq, beq_eq_false_iff_ne, ne_eq, toNat0, toNat1, ok_int, toI_int, I_frzs, I_length, I_getD, ok_ints, toL_slc, hel, ges, ← hE]
    refine ⟨fun h1 => ?_, fun h1 => ?_⟩
    · have hEl : E.length = 2 := by rw [hE]; exact hel2 _ (mem_getD (by omega))
      have hst := nearA_step es a2 k.toNat (by omega)
      rw [← hE] at hst
      rw [wrap_id (n := k + 1) (by omega) (by omega)]
      (repeat' first | (exact solid_one _) | (exact solid1 rfl) | (exact noown_one _) | (apply And.intro) | (intro _)) <;> (try first | exact True.intro | omega | rfl | (simp only [List.length_cons, List.length_nil, I_length]; omega))
      · rename_i h2
        refine hag (_, k + 1) ⟨by simp only; omega, by simp only; omega, ?_⟩ (by simp only; omega)
        simp only [toNat_succ k0]
        rw [hst, if_pos (by simp only [e1]; omega), hI, ← I_append]
        rfl
      · rename_i h2
        refine hag (_, k + 1) ⟨by simp only; omega, by simp only; omega, ?_⟩ (by simp only; omega)
        simp only [toNat_succ k0]
        rw [hst, if_neg (by simp only [e1]; omega), hI, List.append_nil]
    have hls : ls = I (nearA es a2) := by rw [hI, List.take_of_length_le (by omega)]
    clear hI hag hfx ag k0 k1 h1 hE
    refine hlp (List V × Int) _ _ _ [1, 2, 5, 7] (fun x => [(1, none, .val (.int .i64 a2)), (2, none, .val (.box 28 (.agg [.slc false 2 (.int .i64 0) a0, .slc false 22 (.slc false 2 (.int .i64 0) []) a1]))), (5, none, .val (.slc true 2 (.int .i64 0) x.1)), (7, none, .val (.int .i64 x.2))])
      (fun x => 0 ≤ x.2 ∧ x.2 ≤ es.length ∧ x.1 = I (nearA es a2 ++ nearB (es.take x.2.toNat) a2)) (fun x => (es.length - x.2).toNat) ((ls, 0)) (by subst hL; rfl) ?_ ?_
    · exact ⟨by simp, by simp, by rw [hls]; simp [nearB]⟩
    rintro ⟨ls2, k2⟩ ⟨k0, k1, hI⟩ hfx ag hag
    simp only at k0 k1 hI
    have hl2 : ls2.length ≤ 2000000 := by
      rw [hI, I_length, List.length_append]
      have := nearB_len (es.take k2.toNat) a2
      have := nearA_len es a2
      rw [List.length_take] at *
      omega
    conv => cbv
    obtain ⟨E, hE⟩ : ∃ E, E = es.getD k2.toNat [] := ⟨_, rfl⟩
    simp only [stdEqs hL, imp_self, true_and, and_true, bif_or, bif_and, Bool.or_eq_true, Bool.or_eq_false_iff, Bool.and_eq_true, Bool.and_eq_false_iff, decide_eq_true_eq, decide_eq_false_iff_not, Bool.not_eq_true', Bool.not_eq_false', beq_iff_eq, beq_eq_false_iff_ne, ne_eq, toNat0, toNat1, ok_int, toI_int, I_frzs, I_length, I_getD, ok_ints, toL_slc, hel, ges, ← hE]
    refine ⟨fun h1 => ?_, fun h1 => ?_⟩
    · have hEl : E.length = 2 := by rw [hE]; exact hel2 _ (mem_getD (by omega))
      have hst := nearB_step es a2 k2.toNat (by omega)
      rw [← hE] at hst
      rw [wrap_id (n := k2 + 1) (by omega) (by omega)]
      (repeat' first | (exact solid_one _) | (exact solid1 rfl) | (exact noown_one _) | (apply And.intro) | (intro _)) <;> (try first | exact True.intro | omega | rfl | (simp only [List.length_cons, List.length_nil, I_length]; omega))
      · rename_i h2
        refine hag (_, k2 + 1) ⟨by simp only; omega, by simp only; omega, ?_⟩ (by simp only; omega)
        simp only [toNat_succ k0]
        rw [hst, if_pos (by simp only [e0]; omega), hI, ← List.append_assoc]
        simp only [← I_append]
        rfl
      · rename_i h2
        refine hag (_, k2 + 1) ⟨by simp only; omega, by simp only; omega, ?_⟩ (by simp only; omega)
        simp only [toNat_succ k0]
        rw [hst, if_neg (by simp only [e0]; omega), hI, List.append_nil]
    · rw [hr, hf0, hI, List.take_of_length_le (by omega), near]
  · cases h

/-! intersection matrices -/
/-- two vertices are neighbours -/
def adj (es : List (List Int)) (i j : Nat) : Bool := es.any fun e => (e0 e == i && e1 e == j) || (e0 e == j && e1 e == i)
def ent (ws : List Int) (es : List (List Int)) (i j : Nat) : Int := if i = j then ws.getD i 0 else if adj es i j = true then 1 else 0
def mrow (ws : List Int) (es : List (List Int)) (i : Nat) : List Int := tab' (ent ws es i) ws.length
def matG (ws : List Int) (es : List (List Int)) : List (List Int) := tab' (mrow ws es) ws.length
def c_G_m (f : List V → List V → List V) (q : List V → List V → Prop) : Contract := fun
  | [.agg [.slc false 2 (.int .i64 0) a0, .slc false 22 (.slc false 2 (.int .i64 0) []) a1]] => some ([q a0 a1], .slc true 22 (.slc true 2 (.int .i64 0) []) (f a0 a1))
  | _ => none
def f_matG (ws es : List V) : List V := II true (matG (unI ws) (unII es))
def q_Gr (ws es : List V) : Prop := ∃ w e, ws = I w ∧ es = II false e ∧ Gr w e
theorem adj_near {n : Nat} {es : List (List Int)} (hed : ∀ e ∈ es, EdIn n e) {i j : Nat} : adj es i j = true ↔ (j : Int) ∈ near es i := by
  simp only [adj, List.any_eq_true, Bool.or_eq_true, Bool.and_eq_true, beq_iff_eq, near, nearA, nearB, List.mem_append, List.mem_map, List.mem_filter]
  constructor
  · rintro ⟨e, he, ⟨h1, h2⟩ | ⟨h1, h2⟩⟩
    · exact .inr ⟨e, ⟨he, h1⟩, h2⟩
    · exact .inl ⟨e, ⟨he, h2⟩, h1⟩
  · rintro (⟨e, ⟨he, h1⟩, h2⟩ | ⟨e, ⟨he, h1⟩, h2⟩)
    · exact ⟨e, he, .inr ⟨h2, h1⟩⟩
    · exact ⟨e, he, .inl ⟨h1, h2⟩⟩
theorem near_in {n : Nat} {es : List (List Int)} (hed : ∀ e ∈ es, EdIn n e) {v x : Int} (h : x ∈ near es v) : 0 ≤ x ∧ x < n := by
  simp only [near, nearA, nearB, List.mem_append, List.mem_map, List.mem_filter] at h
  rcases h with ⟨e, ⟨he, _⟩, rfl⟩ | ⟨e, ⟨he, _⟩, rfl⟩
  · exact ⟨(hed e he).2.1, (hed e he).2.2.1⟩
  · exact ⟨(hed e he).2.2.2.1, (hed e he).2.2.2.2⟩
/-- a row, as far as it is written -/
def prow (n : Nat) (i : Nat) (w : Int) (l : List Int) : List Int := tab' (fun j => if (j : Int) ∈ l then 1 else if i = j then w else 0) n
theorem prow_len (n i : Nat) (w : Int) (l : List Int) : (prow n i w l).length = n := tab_len _ _
theorem prow_set (n i : Nat) (w : Int) (l : List Int) (x : Int) (h0 : 0 ≤ x) (hx : x < n) : (prow n i w l).set x.toNat 1 = prow n i w (l ++ [x]) := by
  apply List.ext_getElem?
  intro j
  by_cases hj : j < n
  · have e1 : (prow n i w (l ++ [x]))[j]? = some (if (j : Int) ∈ l ++ [x] then 1 else if i = j then w else 0) := tab_get? _ _ _ hj
    have e2 : (prow n i w l)[j]? = some (if (j : Int) ∈ l then 1 else if i = j then w else 0) := tab_get? _ _ _ hj
    rw [e1, List.getElem?_set]
    by_cases hjx : x.toNat = j
    · subst hjx
      rw [if_pos rfl, if_pos (by rw [prow_len]; exact hj), if_pos (by simp [Int.toNat_of_nonneg h0])]
    · rw [if_neg hjx, e2]
      have : (j : Int) ∈ l ++ [x] ↔ (j : Int) ∈ l := by
        rw [List.mem_append, List.mem_singleton]
        constructor
        · rintro (h | h)
          · exact h
          · omega
        · exact .inl
      simp only [this]
  · rw [List.getElem?_eq_none (by rw [List.length_set, prow_len]; omega), List.getElem?_eq_none (by rw [prow_len]; omega)]
theorem prow_first (n i : Nat) (w : Int) (h : i < n) : (List.replicate n (0 : Int)).set i w = prow n i w [] := by
  apply List.ext_getElem?
  intro j
  by_cases hj : j < n
  · have e1 : (prow n i w [])[j]? = some (if (j : Int) ∈ ([] : List Int) then 1 else if i = j then w else 0) := tab_get? _ _ _ hj
    rw [e1, List.getElem?_set]
    by_cases hij : i = j
    · subst hij
      simp [h]
    · simp [hij, hj]
  · rw [List.getElem?_eq_none (by simp; omega), List.getElem?_eq_none (by rw [prow_len]; omega)]
theorem prow_row {ws : List Int} {es : List (List Int)} (g : Gr ws es) {i : Nat} (hi : i < ws.length) : prow ws.length i (ws.getD i 0) (near es i) = mrow ws es i := by
  refine tab_congr (fun j hj => ?_)
  have h1 := adj_near g.ed (i := i) (j := j)
  simp only [ent]
  by_cases hij : i = j
  · subst hij
    rw [if_pos rfl, if_pos rfl, if_neg]
    rw [← h1]
    simp only [adj, List.any_eq_true, Bool.or_eq_true, Bool.and_eq_true, beq_iff_eq]
    rintro ⟨e, he, h⟩
    have := g.lt e he
    omega
  · rw [if_neg hij, if_neg hij]
    simp only [h1]
set_option maxRecDepth 100000 in
theorem s_spec_l11Matrix : Sat Try.prog 86 (c_G_m f_matG q_Gr) := by
  intro args ps r h hp
  unfold c_G_m at h
  split at h
  · rename_i a0 a1
    simp only [Option.some.injEq, Prod.mk.injEq] at h
    obtain ⟨rfl, rfl⟩ := h
    obtain ⟨ws, es, hws, hes, g⟩ : q_Gr a0 a1 := (alls_cons.1 hp).1
    have g0 : V.frzs a0 = a0 := by rw [hws, I_frzs]
    have g1 : V.frzs a1 = a1 := by rw [hes, II_frzs]
    have hel : a1.length = es.length := by rw [hes, II_length]
    have hwl : a0.length = ws.length := by rw [hws, I_length]
    have hf0 : f_matG a0 a1 = II true (matG ws es) := by rw [f_matG, hes, hws, unII_II, unI_I]
    have gws : ∀ k, a0.getD k (.int .i64 0) = .int .i64 (ws.getD k 0) := fun k => by rw [hws, I_getD]
    have n1 := g.n1
    have n2 := g.n2
    generalize H_f_near : f_near = F_f_near
    generalize H_q_near : q_near = F_q_near
    refine fnOk_ofI (T := tab) (B := [(120, c_Gi_l F_f_near F_q_near)]) (Bi := []) [0, 1, 2, 3, 4, 5, 6, 7] Try.func86 rfl rfl (by kernel_rfl) (Nat.le_of_ble_eq_true rfl) mixed tabOk (by subst H_f_near H_q_near; exact (bookCons s_spec_l11Near bookNil)) (by subst H_f_near H_q_near; exact bookINil) (by kernel_rfl) ?_
    intro L lp rr hL hr hf hlp
    conv => cbv
    refine hlp (List V × Int) _ _ _ [1, 3, 4] (fun x => [(1, none, .val (.box 28 (.agg [.slc false 2 (.int .i64 0) a0, .slc false 22 (.slc false 2 (.int .i64 0) []) a1]))), (3, none, .val (.slc true 22 (.slc true 2 (.int .i64 0) []) x.1)), (4, none, .val (.int .i64 x.2))])
      (fun x => 0 ≤ x.2 ∧ x.2 ≤ ws.length ∧ x.1 = II true (tab' (mrow ws es) x.2.toNat)) (fun x => (ws.length - x.2).toNat) (([], 0)) (by subst hL; rfl) ?_ ?_
    · exact ⟨by simp, by simp, rfl⟩
    rintro ⟨ls, i⟩ ⟨i0, i1, hI⟩ hfx ag hag
    simp only at i0 i1 hI
    have hl : ls.length = i.toNat := by rw [hI, II_length, tab_len]
    conv => cbv
    simp only [stdEqs hL, imp_self, true_and, and_true, bif_or, bif_and, Bool.or_eq_true, Bool.or_eq_false_iff, Bool.and_eq_true, Bool.and_eq_false_iff, decide_eq_true_eq, decide_eq_false_iff_not, Bool.not_eq_true', Bool.not_eq_false', beq_iff_eq, beq_eq_false_iff_ne, ne_eq, toNat0, toNat1, ok_int, toI_int, I_frzs, I_length, I_getD, ok_ints, toL_slc, hwl, g0, g1, gws]
    refine ⟨fun h1 => ?_, fun h1 => ?_⟩
    · have hlr : (List.replicate (Int.toNat ws.length) (V.int .i64 0)).length = ws.length := by rw [List.length_replicate]; omega
      simp only [hlr]
      have hrep : List.replicate (Int.toNat ws.length) (V.int .i64 0) = I (List.replicate ws.length 0) := by
        rw [I_replicate, Int.toNat_natCast]
      obtain ⟨ns, hns⟩ : ∃ ns, ns = F_f_near a0 a1 i := ⟨_, rfl⟩
      have hns2 : ns = I (near es i) := by rw [hns, ← H_f_near, f_near, hes, unII_II]
      have hnl : ∀ x, x ∈ near es i → 0 ≤ x ∧ x < ws.length := fun x h => near_in g.ed h
      have hnlen : (near es i).length ≤ 100 := by
        have := nearA_len es i
        have := nearB_len es i
        have := g.el
        simp only [near, List.length_append]
        omega
      rw [hrep, ← hns]
      have hqn : F_q_near a0 a1 i := by
        rw [← H_q_near]
        have := g.el
        exact ⟨⟨ws, hws⟩, es, hes, by omega, fun e he => (g.ed e he).1⟩
      simp only [hqn, I_getD, I_set, ok_int, true_and]
      obtain ⟨r0, hr0⟩ : ∃ r0, r0 = I ((List.replicate ws.length 0).set i.toNat (ws.getD i.toNat 0)) := ⟨_, rfl⟩
      rw [← hr0]
      (repeat' first | (exact solid_one _) | (exact solid1 rfl) | (exact noown_one _) | (apply And.intro) | (intro _)) <;> (try first | exact True.intro | omega | rfl | (simp only [List.length_cons, List.length_nil, I_length]; omega))
      refine hlp (List V × Int) _ _ _ [1, 3, 4, 5, 6, 7] (fun x => [(1, none, .val (.box 28 (.agg [.slc false 2 (.int .i64 0) a0, .slc false 22 (.slc false 2 (.int .i64 0) []) a1]))), (3, none, .val (.slc true 22 (.slc true 2 (.int .i64 0) []) ls)), (4, none, .val (.int .i64 i)), (5, none, .val (.slc true 2 (.int .i64 0) x.1)), (6, none, .val (.slc true 2 (.int .i64 0) ns)), (7, none, .val (.int .i64 x.2))])
        (fun x => 0 ≤ x.2 ∧ x.2 ≤ (near es i).length ∧ x.1 = I (prow ws.length i.toNat (ws.getD i.toNat 0) ((near es i).take x.2.toNat))) (fun x => ((near es i).length - x.2).toNat) ((r0, 0)) (by subst hL; rfl) ?_ ?_
      · exact ⟨by simp, by simp, by rw [hr0, prow_first _ _ _ (by omega)]; simp⟩
      rintro ⟨rs, k⟩ ⟨k0, k1, hK⟩ hfx2 ag2 hag2
      simp only at k0 k1 hK
      have hrl : rs.length = ws.length := by rw [hK, I_length, prow_len]
      have hnsl : ns.length = (near es i).length := by rw [hns2, I_length]
      have gns : ∀ k, ns.getD k (.int .i64 0) = .int .i64 ((near es i).getD k 0) := fun k => by rw [hns2, I_getD]
      conv => cbv
      simp only [stdEqs hL, imp_self, true_and, and_true, bif_or, bif_and, Bool.or_eq_true, Bool.or_eq_false_iff, Bool.and_eq_true, Bool.and_eq_false_iff, decide_eq_true_eq, decide_eq_false_iff_not, Bool.not_eq_true', Bool.not_eq_false', beq_iff_eq, beq_eq_false_iff_ne, ne_eq, toNat0, toNat1, ok_int, toI_int, I_frzs, I_length, I_getD, ok_ints, toL_slc, hnsl, gns, hrl]
      refine ⟨fun h4 => ?_, fun h4 => ?_⟩
      · have hmem : (near es i).getD k.toNat 0 ∈ near es i := by
          rw [List.getD_eq_getElem?_getD, List.getElem?_eq_getElem (by omega)]
          exact List.getElem_mem _
        obtain ⟨x1, x2⟩ := hnl _ hmem
        have gk : rs.getD ((near es i).getD k.toNat 0).toNat (.int .i64 0) = .int .i64 ((prow ws.length i.toNat (ws.getD i.toNat 0) ((near es i).take k.toNat)).getD ((near es i).getD k.toNat 0).toNat 0) := by rw [hK, I_getD]
        simp only [gk, ok_int]
        (repeat' first | (exact solid_one _) | (exact solid1 rfl) | (exact noown_one _) | (apply And.intro) | (intro _)) <;> (try first | exact True.intro | omega | rfl | (simp only [List.length_cons, List.length_nil, I_length]; omega))
        rw [wrap_id (n := k + 1) (by omega) (by omega)]
        refine hag2 (_, k + 1) ⟨by simp only; omega, by simp only; omega, ?_⟩ (by simp only; omega)
        simp only [toNat_succ k0]
        have e3 : (near es i).take (k.toNat + 1) = (near es i).take k.toNat ++ [(near es i).getD k.toNat 0] := by
          rw [List.take_succ_eq_append_getElem (by omega), List.getD_eq_getElem?_getD, List.getElem?_eq_getElem (by omega)]
          rfl
        rw [hK, I_set, prow_set _ _ _ _ _ x1 x2, e3]
      · (repeat' first | (exact solid_one _) | (exact solid1 rfl) | (exact noown_one _) | (apply And.intro) | (intro _)) <;> (try first | exact True.intro | omega | rfl | (simp only [List.length_cons, List.length_nil, I_length]; omega))
        rw [wrap_id (n := i + 1) (by omega) (by omega)]
        refine hag (_, i + 1) ⟨by simp only; omega, by simp only; omega, ?_⟩ (by simp only; omega)
        simp only [toNat_succ i0]
        rw [tab_succ, II_append, hI, hK, List.take_of_length_le (by omega)]
        have := prow_row g (show i.toNat < ws.length by omega)
        rw [Int.toNat_of_nonneg i0] at this
        rw [this]
        rfl
    · rw [hr, hf0, hI, matG, show i.toNat = ws.length by omega]
  · cases h
theorem tab_set {α : Type} (f : Nat → α) (n i : Nat) (y : α) : (tab' f n).set i y = tab' (fun j => if j = i then y else f j) n := by
  apply List.ext_getElem?
  intro j
  by_cases hj : j < n
  · rw [tab_get? _ _ _ hj, List.getElem?_set]
    by_cases hij : i = j
    · subst hij
      rw [if_pos rfl, if_pos (by rw [tab_len]; exact hj), if_pos rfl]
    · rw [if_neg hij, tab_get? _ _ _ hj, if_neg (fun h => hij h.symm)]
  · rw [List.getElem?_eq_none (by rw [List.length_set, tab_len]; omega), List.getElem?_eq_none (by rw [tab_len]; omega)]
theorem prow_congr {n i : Nat} {w : Int} {l l' : List Int} (h : ∀ x, x ∈ l ↔ x ∈ l') : prow n i w l = prow n i w l' := by
  refine tab_congr (fun j _ => ?_)
  simp only [h]
theorem near_step (es : List (List Int)) (v : Int) (k : Nat) (h : k < es.length) (x : Int) : x ∈ near (es.take (k + 1)) v ↔ x ∈ near (es.take k) v ∨ (e1 (es.getD k []) = v ∧ x = e0 (es.getD k [])) ∨ (e0 (es.getD k []) = v ∧ x = e1 (es.getD k [])) := by
  simp only [near, nearA_step _ _ _ h, nearB_step _ _ _ h, List.mem_append]
  generalize es.getD k [] = E
  by_cases h1 : e1 E = v
  · by_cases h2 : e0 E = v
    · simp [h1, h2]; grind
    · simp [h1, h2]; grind
  · by_cases h2 : e0 E = v
    · simp [h1, h2]; grind
    · simp [h1, h2]
def stW (ws : List Int) (k : Nat) : List (List Int) := tab' (fun i => if i < k then prow ws.length i (ws.getD i 0) [] else List.replicate ws.length 0) ws.length
def stE (ws : List Int) (es : List (List Int)) : List (List Int) := tab' (fun i => prow ws.length i (ws.getD i 0) (near es i)) ws.length
theorem stW_step {ws : List Int} {k : Nat} (h : k < ws.length) : (stW ws k).set k ((List.replicate ws.length 0).set k (ws.getD k 0)) = stW ws (k + 1) := by
  rw [stW, tab_set, stW]
  refine tab_congr (fun j hj => ?_)
  rw [prow_first _ _ _ h]
  by_cases h1 : j = k
  · subst h1; rw [if_pos rfl, if_pos (by omega)]
  · rw [if_neg h1]
    by_cases h2 : j < k
    · rw [if_pos h2, if_pos (by omega)]
    · rw [if_neg h2, if_neg (by omega)]
theorem stE_step {ws : List Int} {es : List (List Int)} {k : Nat} (hk : k < es.length) {a b : Nat} (ha : a < ws.length) (hb : b < ws.length) (hab : a ≠ b) (h0 : e0 (es.getD k []) = a) (h1 : e1 (es.getD k []) = b) :
    ((stE ws (es.take k)).set a (((stE ws (es.take k)).getD a []).set b 1)).set b ((((stE ws (es.take k)).set a (((stE ws (es.take k)).getD a []).set b 1)).getD b []).set a 1) = stE ws (es.take (k + 1)) := by
  have hs := fun v x => near_step es v k hk x
  rw [h0, h1] at hs
  have g1 : (stE ws (es.take k)).getD a [] = prow ws.length a (ws.getD a 0) (near (es.take k) a) := tab_get _ _ _ _ ha
  rw [g1]
  have p1 := prow_set ws.length a (ws.getD a 0) (near (es.take k) a) b (by omega) (by omega)
  rw [Int.toNat_natCast] at p1
  rw [p1, stE, tab_set, tab_get _ _ _ _ hb, if_neg (fun h => hab h.symm), tab_set]
  have p2 := prow_set ws.length b (ws.getD b 0) (near (es.take k) b) a (by omega) (by omega)
  rw [Int.toNat_natCast] at p2
  rw [p2, stE]
  refine tab_congr (fun j hj => ?_)
  by_cases hjb : j = b
  · subst hjb
    rw [if_pos rfl]
    refine prow_congr (fun x => ?_)
    rw [hs, List.mem_append, List.mem_singleton]
    constructor
    · rintro (h | h)
      · exact .inl h
      · exact .inr (.inl ⟨rfl, h⟩)
    · rintro (h | ⟨_, h⟩ | ⟨h, _⟩)
      · exact .inl h
      · exact .inr h
      · omega
  · rw [if_neg hjb]
    by_cases hja : j = a
    · subst hja
      rw [if_pos rfl]
      refine prow_congr (fun x => ?_)
      rw [hs, List.mem_append, List.mem_singleton]
      constructor
      · rintro (h | h)
        · exact .inl h
        · exact .inr (.inr ⟨rfl, h⟩)
      · rintro (h | ⟨h, _⟩ | ⟨_, h⟩)
        · exact .inl h
        · omega
        · exact .inr h
    · rw [if_neg hja]
      refine prow_congr (fun x => ?_)
      rw [hs]
      constructor
      · exact .inl
      · rintro (h | ⟨h, _⟩ | ⟨h, _⟩)
        · exact h
        · omega
        · omega
set_option maxRecDepth 100000 in
theorem s_impl_intersectionMatrix : Sat Try.prog 87 (c_G_m f_matG q_Gr) := by
  intro args ps r h hp
  unfold c_G_m at h
  split at h
  · rename_i a0 a1
    simp only [Option.some.injEq, Prod.mk.injEq] at h
    obtain ⟨rfl, rfl⟩ := h
    obtain ⟨ws, es, hws, hes, g⟩ : q_Gr a0 a1 := (alls_cons.1 hp).1
    have g0 : V.frzs a0 = a0 := by rw [hws, I_frzs]
    have g1 : V.frzs a1 = a1 := by rw [hes, II_frzs]
    have hel : a1.length = es.length := by rw [hes, II_length]
    have hwl : a0.length = ws.length := by rw [hws, I_length]
    have hf0 : f_matG a0 a1 = II true (matG ws es) := by rw [f_matG, hes, hws, unII_II, unI_I]
    have gws : ∀ k, a0.getD k (.int .i64 0) = .int .i64 (ws.getD k 0) := fun k => by rw [hws, I_getD]
    have ges : ∀ k, a1.getD k (.slc false 2 (.int .i64 0) []) = .slc false 2 (.int .i64 0) (I (es.getD k [])) := fun k => by rw [hes, II_getD]
    have n1 := g.n1
    have n2 := g.n2
    have n3 := g.el
    obtain ⟨n, hn⟩ : ∃ n : Int, n = ws.length := ⟨_, rfl⟩
    obtain ⟨m, hm⟩ : ∃ m : Int, m = es.length := ⟨_, rfl⟩
    generalize H_f0_square : f0_square = F_f0_square
    generalize H_q_n : q_n = F_q_n
    refine fnOk_ofI (T := tab) (B := [(121, c_n_ll F_f0_square F_q_n)]) (Bi := []) [0, 1, 2, 3, 4, 5, 7, 13, 14, 15, 29, 30, 31] Try.func87 rfl rfl (by kernel_rfl) (Nat.le_of_ble_eq_true rfl) mixed tabOk (by subst H_f0_square H_q_n; exact (bookCons s_impl_square bookNil)) (by subst H_f0_square H_q_n; exact bookINil) (by kernel_rfl) ?_
    intro L lp rr hL hr hf hlp
    conv => cbv
    have hsq : F_f0_square n = II true (stW ws 0) := by
      rw [← H_f0_square, f0_square, hn, Int.toNat_natCast]
      congr 1
      apply List.ext_getElem?
      intro j
      by_cases hj : j < ws.length
      · rw [stW, tab_get? _ _ _ hj]; simp [hj]
      · rw [List.getElem?_eq_none (by simp; omega), List.getElem?_eq_none (by rw [stW, tab_len]; omega)]
    simp only [stdEqs hL, imp_self, true_and, and_true, bif_or, bif_and, Bool.or_eq_true, Bool.or_eq_false_iff, Bool.and_eq_true, Bool.and_eq_false_iff, decide_eq_true_eq, decide_eq_false_iff_not, Bool.not_eq_true', Bool.not_eq_false', beq_iff_eq, beq_eq_false_iff_ne, ne_eq, toNat0, toNat1, ok_int, toI_int, I_frzs, I_length, I_getD, ok_ints, toL_slc, hwl, ← hn, g0, g1, hsq]
    refine ⟨by rw [← H_q_n]; exact ⟨by omega, by omega⟩, ?_⟩
    obtain ⟨s0, hs0⟩ : ∃ s0, s0 = II true (stW ws 0) := ⟨_, rfl⟩
    rw [← hs0]
    refine hlp (List V × Int) _ _ _ [1, 3, 13, 14, 15] (fun x => [(1, none, .val (.box 28 (.agg [.slc false 2 (.int .i64 0) a0, .slc false 22 (.slc false 2 (.int .i64 0) []) a1]))), (3, none, .val (.slc true 22 (.slc true 2 (.int .i64 0) []) x.1)), (13, none, .val (.slc false 2 (.int .i64 0) a0)), (14, none, .val (.int .i64 n)), (15, none, .val (.int .i64 x.2))])
      (fun x => 0 ≤ x.2 ∧ x.2 ≤ ws.length ∧ x.1 = II true (stW ws x.2.toNat)) (fun x => (ws.length - x.2).toNat) ((s0, 0)) (by subst hL; rfl) ?_ ?_
    · exact ⟨by simp, by simp, hs0⟩
    rintro ⟨ls, i⟩ ⟨i0, i1, hI⟩ hfx ag hag
    simp only at i0 i1 hI
    have hl : ls.length = ws.length := by rw [hI, II_length, stW, tab_len]
    have gls : ∀ k, ls.getD k (.slc true 2 (.int .i64 0) []) = .slc true 2 (.int .i64 0) (I ((stW ws i.toNat).getD k [])) := fun k => by rw [hI, II_getD]
    conv => cbv
    have hra : i.toNat < ws.length → (stW ws i.toNat).getD i.toNat [] = List.replicate ws.length 0 := fun h => by rw [stW, tab_get _ _ _ _ h, if_neg (Nat.lt_irrefl _)]
    simp only [stdEqs hL, imp_self, true_and, and_true, bif_or, bif_and, Bool.or_eq_true, Bool.or_eq_false_iff, Bool.and_eq_true, Bool.and_eq_false_iff, decide_eq_true_eq, decide_eq_false_iff_not, Bool.not_eq_true', Bool.not_eq_false', beq_iff_eq, beq_eq_false_iff_ne, ne_eq, toNat0, toNat1, ok_int, toI_int, I_frzs, I_length, I_getD, ok_ints, toL_slc, hl, gws, gls, hwl, hel, ← hm]
    refine ⟨fun h1 => ?_, fun h1 => ?_⟩
    · have hra' := hra (by omega)
      have hrl : ((stW ws i.toNat).getD i.toNat []).length = ws.length := by rw [hra', List.length_replicate]
      rw [wrap_id (n := i + 1) (by omega) (by omega)]
      (repeat' first | (exact solid_one _) | (exact solid1 rfl) | (exact noown_one _) | (apply And.intro) | (intro _)) <;> (try first | exact True.intro | omega | rfl | (simp only [List.length_cons, List.length_nil, I_length]; omega))
      refine hag (_, i + 1) ⟨by simp only; omega, by simp only; omega, ?_⟩ (by simp only; omega)
      simp only [toNat_succ i0]
      rw [hI, I_set, II_set, hra', stW_step (by omega)]
    have hls : ls = II true (stE ws (es.take 0)) := by
      rw [hI, show i.toNat = ws.length by omega, stW, stE]
      congr 1
      refine tab_congr (fun j hj => ?_)
      rw [if_pos hj]
      rfl
    clear hI hag hfx ag
    refine hlp (List V × Int) _ _ _ [3, 29, 30, 31] (fun x => [(3, none, .val (.slc true 22 (.slc true 2 (.int .i64 0) []) x.1)), (29, none, .val (.slc false 22 (.slc false 2 (.int .i64 0) []) a1)), (30, none, .val (.int .i64 m)), (31, none, .val (.int .i64 x.2))])
      (fun x => 0 ≤ x.2 ∧ x.2 ≤ es.length ∧ x.1 = II true (stE ws (es.take x.2.toNat))) (fun x => (es.length - x.2).toNat) ((ls, 0)) (by subst hL; rfl) ?_ ?_
    · exact ⟨by simp, by simp, hls⟩
    rintro ⟨ls2, k⟩ ⟨k0, k1, hK⟩ hfx2 ag2 hag2
    simp only at k0 k1 hK
    have hl2 : ls2.length = ws.length := by rw [hK, II_length, stE, tab_len]
    have gls2 : ∀ j, ls2.getD j (.slc true 2 (.int .i64 0) []) = .slc true 2 (.int .i64 0) (I ((stE ws (es.take k.toNat)).getD j [])) := fun j => by rw [hK, II_getD]
    obtain ⟨E, hE⟩ : ∃ E, E = es.getD k.toNat [] := ⟨_, rfl⟩
    conv => cbv
    simp only [stdEqs hL, imp_self, true_and, and_true, bif_or, bif_and, Bool.or_eq_true, Bool.or_eq_false_iff, Bool.and_eq_true, Bool.and_eq_false_iff, decide_eq_true_eq, decide_eq_false_iff_not, Bool.not_eq_true', Bool.not_eq_false', beq_iff_eq, beq_eq_false_iff_ne, ne_eq, toNat0, toNat1, ok_int, toI_int, I_frzs, I_length, I_getD, ok_ints, toL_slc, hl2, gls2, ges, ← hE]
    refine ⟨fun h2 => ?_, fun h2 => ?_⟩
    · have hmE := mem_getD (show k.toNat < es.length by omega)
      rw [← hE] at hmE
      obtain ⟨ed1, ed2, ed3, ed4, ed5⟩ := g.ed _ hmE
      have elt := g.lt _ hmE
      simp only [e0, e1] at ed2 ed3 ed4 ed5 elt
      obtain ⟨a, ha⟩ : ∃ a : Nat, (a : Int) = E.getD 0 0 := ⟨(E.getD 0 0).toNat, Int.toNat_of_nonneg ed2⟩
      obtain ⟨b, hb⟩ : ∃ b : Nat, (b : Int) = E.getD 1 0 := ⟨(E.getD 1 0).toNat, Int.toNat_of_nonneg ed4⟩
      have hla : ∀ j, j < ws.length → ((stE ws (es.take k.toNat)).getD j []).length = ws.length := fun j hj => by rw [stE, tab_get _ _ _ _ hj, prow_len]
      have hsn : ∀ r, ((stE ws (es.take k.toNat)).set a r).getD b [] = (stE ws (es.take k.toNat)).getD b [] := fun r => by
        rw [List.getD_eq_getElem?_getD, List.getElem?_set, if_neg (by omega), ← List.getD_eq_getElem?_getD]
      have hst := stE_step (ws := ws) (es := es) (k := k.toNat) (a := a) (b := b) (by omega) (by omega) (by omega) (by omega) (by rw [← hE]; exact ha.symm) (by rw [← hE]; exact hb.symm)
      rw [hsn] at hst
      have l1 := hla a (by omega)
      have l2 := hla b (by omega)
      have l3 : (stE ws (es.take k.toNat)).length = ws.length := tab_len _ _
      subst hK
      simp only [← ha, ← hb, Int.toNat_natCast, I_set, II_set, II_getD, ok_ints, toL_slc, I_length, I_getD, ok_int, II_length, List.length_set, hsn, l1, l2, l3, true_and]
      rw [wrap_id (n := k + 1) (by omega) (by omega)]
      (repeat' first | (exact solid_one _) | (exact solid1 rfl) | (exact noown_one _) | (apply And.intro) | (intro _)) <;> (try first | exact True.intro | omega | rfl | (simp only [List.length_cons, List.length_nil, I_length]; omega))
      refine hag2 (_, k + 1) ⟨by simp only; omega, by simp only; omega, ?_⟩ (by simp only; omega)
      simp only [toNat_succ k0]
      rw [← hst]
      rfl
    · rw [hr, hf0, hK, List.take_of_length_le (by omega), stE, matG]
      congr 2
      exact tab_congr (fun i hi => prow_row g hi)
  · cases h

/-! the law -/
def c_G_mi (f : List V → List V → List V × Int) (q : List V → List V → Prop) : Contract := fun
  | [.agg [.slc false 2 (.int .i64 0) a0, .slc false 22 (.slc false 2 (.int .i64 0) []) a1]] => some ([q a0 a1], .tup [.slc true 22 (.slc true 2 (.int .i64 0) []) ((f a0 a1).1), .int .i64 ((f a0 a1).2)])
  | _ => none
def f_imat (ws es : List V) : List V × Int := bif isGr (unI ws) (unII es) then (II true (matG (unI ws) (unII es)), 0) else ([], 1)
set_option maxRecDepth 100000 in
theorem s_spec_IntersectionMatrix : Sat Try.prog 44 (c_G_mi f_imat q_G) := by
  intro args ps r h hp
  unfold c_G_mi at h
  split at h
  · rename_i a0 a1
    simp only [Option.some.injEq, Prod.mk.injEq] at h
    obtain ⟨rfl, rfl⟩ := h
    have hq : q_G a0 a1 := (alls_cons.1 hp).1
    have g0 := hq.1.frz
    have g1 := frzs_II hq.2
    obtain ⟨⟨ws, hws⟩, es, hes⟩ := id hq
    have e1 : f_isGr a0 a1 = isGr ws es := by rw [f_isGr, hes, hws, unII_II, unI_I]
    have e2 : f_imat a0 a1 = bif isGr ws es then (II true (matG ws es), 0) else ([], 1) := by rw [f_imat, hes, hws, unII_II, unI_I]
    have e3 : f_matG a0 a1 = II true (matG ws es) := by rw [f_matG, hes, hws, unII_II, unI_I]
    generalize H_f_isGr : f_isGr = F_f_isGr
    generalize H_q_G : q_G = F_q_G
    generalize H_f_matG : f_matG = F_f_matG
    generalize H_q_Gr : q_Gr = F_q_Gr
    refine fnOk_ofI (T := tab) (B := [(65, c_G_b F_f_isGr F_q_G), (86, c_G_m F_f_matG F_q_Gr)]) (Bi := []) [0, 1, 2, 3] Try.func44 rfl rfl (by kernel_rfl) (Nat.le_of_ble_eq_true rfl) mixed tabOk (by subst H_f_isGr H_q_G H_f_matG H_q_Gr; exact (bookCons s_spec_l11Is (bookCons s_spec_l11Matrix bookNil))) (by subst H_f_isGr H_q_G H_f_matG H_q_Gr; exact bookINil) (by kernel_rfl) ?_
    intro L lp rr hL hr hf hlp
    conv => cbv
    simp only [stdEqs hL, imp_self, true_and, and_true, bif_or, bif_and, Bool.or_eq_true, Bool.or_eq_false_iff, Bool.and_eq_true, Bool.and_eq_false_iff, decide_eq_true_eq, decide_eq_false_iff_not, Bool.not_eq_true', Bool.not_eq_false', beq_iff_eq, beq_eq_false_iff_ne, ne_eq, toNat0, toNat1, ok_int, toI_int, I_frzs, I_length, I_getD, ok_ints, toL_slc, g0, g1]
    subst H_f_isGr H_q_G H_f_matG H_q_Gr
    rw [e1, e3, hr, e2]
    refine ⟨hq, fun h => ?_, fun h => ⟨⟨ws, es, hws, hes, gr_of h⟩, ?_⟩⟩
    · rw [h]; rfl
    · rw [h]; rfl
  · cases h
set_option maxRecDepth 100000 in
theorem s_impl_IntersectionMatrix : Sat Try.prog 45 (c_G_mi f_imat q_G) := by
  intro args ps r h hp
  unfold c_G_mi at h
  split at h
  · rename_i a0 a1
    simp only [Option.some.injEq, Prod.mk.injEq] at h
    obtain ⟨rfl, rfl⟩ := h
    have hq : q_G a0 a1 := (alls_cons.1 hp).1
    have g0 := hq.1.frz
    have g1 := frzs_II hq.2
    obtain ⟨⟨ws, hws⟩, es, hes⟩ := id hq
    have e1 : f_isGr a0 a1 = isGr ws es := by rw [f_isGr, hes, hws, unII_II, unI_I]
    have e2 : f_imat a0 a1 = bif isGr ws es then (II true (matG ws es), 0) else ([], 1) := by rw [f_imat, hes, hws, unII_II, unI_I]
    have e3 : f_matG a0 a1 = II true (matG ws es) := by rw [f_matG, hes, hws, unII_II, unI_I]
    generalize H_f_isGr : f_isGr = F_f_isGr
    generalize H_q_G : q_G = F_q_G
    generalize H_f_matG : f_matG = F_f_matG
    generalize H_q_Gr : q_Gr = F_q_Gr
    refine fnOk_ofI (T := tab) (B := [(18, c_G_b F_f_isGr F_q_G), (87, c_G_m F_f_matG F_q_Gr)]) (Bi := []) [0, 1, 2, 3] Try.func45 rfl rfl (by kernel_rfl) (Nat.le_of_ble_eq_true rfl) mixed tabOk (by subst H_f_isGr H_q_G H_f_matG H_q_Gr; exact (bookCons s_impl_IsGraph (bookCons s_impl_intersectionMatrix bookNil))) (by subst H_f_isGr H_q_G H_f_matG H_q_Gr; exact bookINil) (by kernel_rfl) ?_
    intro L lp rr hL hr hf hlp
    conv => cbv
    simp only [stdEqs hL, imp_self, true_and, and_true, bif_or, bif_and, Bool.or_eq_true, Bool.or_eq_false_iff, Bool.and_eq_true, Bool.and_eq_false_iff, decide_eq_true_eq, decide_eq_false_iff_not, Bool.not_eq_true', Bool.not_eq_false', beq_iff_eq, beq_eq_false_iff_ne, ne_eq, toNat0, toNat1, ok_int, toI_int, I_frzs, I_length, I_getD, ok_ints, toL_slc, g0, g1]
    subst H_f_isGr H_q_G H_f_matG H_q_Gr
    rw [e1, e3, hr, e2]
    refine ⟨hq, fun h => ?_, fun h => ⟨⟨ws, es, hws, hes, gr_of h⟩, ?_⟩⟩
    · rw [h]; rfl
    · rw [h]; rfl
  · cases h
def ic_markG (f0 : List V → List V → Int → Int) (f1 f2 : List V → List V → Int → List V) (q : List V → List V → Int → Prop) : IContract := fun
  | [.agg [.slc true 2 (.int .i64 0) a0, .slc true 22 (.slc true 2 (.int .i64 0) []) a1], .int .i64 k] => some ([q a0 a1 k], .int .i64 (f0 a0 a1 k), .agg [.slc true 2 (.int .i64 0) (f1 a0 a1 k), .slc true 22 (.slc true 2 (.int .i64 0) []) (f2 a0 a1 k)])
  | _ => none
def f0_markG (a0 a1 : List V) (k : Int) : Int := f0_markSS a1 (f0_mark a0 k)
def f1_markG (a0 _ : List V) (k : Int) : List V := f1_mark a0 k
def f2_markG (a0 a1 : List V) (k : Int) : List V := f1_markSS a1 (f0_mark a0 k)
def q_markG (a0 a1 : List V) (k : Int) : Prop := q_mark a0 k ∧ q_markO a1 (f0_mark a0 k)
set_option maxRecDepth 100000 in
theorem s_laws_markGraph : SatI Try.prog 34 0 (ic_markG f0_markG f1_markG f2_markG q_markG) := by
  intro args ps r y h hp
  unfold ic_markG at h
  split at h
  · rename_i a0 a1 k
    simp only [Option.some.injEq, Prod.mk.injEq] at h
    obtain ⟨rfl, rfl, rfl⟩ := h
    obtain ⟨h0, h1⟩ : q_markG a0 a1 k := (alls_cons.1 hp).1
    have hf0 : f0_markG a0 a1 k = f0_markSS a1 (f0_mark a0 k) := rfl
    have hf1 : f1_markG a0 a1 k = f1_mark a0 k := rfl
    have hf2 : f2_markG a0 a1 k = f1_markSS a1 (f0_mark a0 k) := rfl
    generalize H_f0_mark : f0_mark = F_f0_mark
    generalize H_f1_mark : f1_mark = F_f1_mark
    generalize H_q_mark : q_mark = F_q_mark
    generalize H_f0_markSS : f0_markSS = F_f0_markSS
    generalize H_f1_markSS : f1_markSS = F_f1_markSS
    generalize H_q_markO : q_markO = F_q_markO
    refine fnIO_of (T := tab) (B := []) (Bi := [(35, 0, false, ic_markInt64S F_f0_mark F_f1_mark F_q_mark), (27, 0, false, ic_markSS F_f0_markSS F_f1_markSS F_q_markO)]) 0 [0, 1, 2, 4] Try.func34 rfl rfl (by kernel_rfl) (Nat.le_of_ble_eq_true rfl) mixed tabOk (by subst H_f0_mark H_f1_mark H_q_mark H_f0_markSS H_f1_markSS H_q_markO; exact bookNil) (by subst H_f0_mark H_f1_mark H_q_mark H_f0_markSS H_f1_markSS H_q_markO; exact (bookICons s_laws_markInt64S (bookICons s_laws_markInt64SS bookINil))) (by kernel_rfl) rfl rfl rfl (by subst H_f0_mark H_f1_markSS H_f1_mark; obtain ⟨⟨xs, rfl⟩, _⟩ := h0; obtain ⟨⟨ys, rfl⟩, _⟩ := h1; rw [hf1, hf2]; exact Sh.agg2 (by rw [f1_mark]; exact Sh.ints (by simp [marks_len])) (by rw [f1_markSS, unII_II]; exact Sh.lists ys _)) rfl ?_
    intro L lp rr yy hL hr hy hf hlp
    conv => cbv
    subst H_f0_mark H_f1_mark H_q_mark H_f0_markSS H_f1_markSS H_q_markO
    rw [hr, hy, hf0, hf1, hf2]
    exact ⟨h0, h1, rfl, rfl⟩
  · cases h
theorem tot_rows {f : Nat → List Int} {c : Nat} (h : ∀ i, (f i).length = c) (n : Nat) : tot (tab' f n) = n * c := tot_tab f c h n
theorem markG_keys (ws : List Int) (es : List (List Int)) (h : ws.length + tot es ≤ 4611686018427387904) :
    q_markG (I ws) (II true es) 1 ∧ f0_markG (I ws) (II true es) 1 = 1 + ws.length + tot es ∧ f1_markG (I ws) (II true es) 1 = I (marks ws.length 1) ∧ f2_markG (I ws) (II true es) 1 = II true (marksGo (1 + ws.length) es) ∧ V.noFzs (II true es) = true := by
  have e : f0_mark (I ws) 1 = 1 + ws.length := by rw [f0_mark, I_length]
  refine ⟨⟨⟨⟨_, rfl⟩, by omega, by rw [I_length]; omega⟩, ?_⟩, by rw [f0_markG, e, f0_markSS, unII_II], by rw [f1_markG, f1_mark, I_length], by rw [f2_markG, e, f1_markSS, unII_II], II_noFzs _⟩
  rw [e]
  exact ⟨⟨_, rfl⟩, by omega, by rw [unII_II]; omega⟩
set_option maxRecDepth 100000 in
theorem s_laws_FnExactIntersectionMatrix : Sat Try.prog 8 (c_G_b yesG q_G) := by
  intro args ps r h hp
  unfold c_G_b at h
  split at h
  · rename_i a0 a1
    simp only [Option.some.injEq, Prod.mk.injEq] at h
    obtain ⟨rfl, rfl⟩ := h
    obtain ⟨hq0, hq1⟩ : q_G a0 a1 := (alls_cons.1 hp).1
    have g0 := hq0.frz
    have g1 := frzs_II hq1
    generalize H_f_szG : f_szG = F_f_szG
    generalize H_q_szG : q_szG = F_q_szG
    generalize H_f_cpG : f_cpG = F_f_cpG
    generalize H_q_cpG : q_cpG = F_q_cpG
    generalize H_f_imat : f_imat = F_f_imat
    generalize H_q_G : q_G = F_q_G
    generalize H_f0_eqSS : f0_eqSS = F_f0_eqSS
    generalize H_q_eqSS : q_eqSS = F_q_eqSS
    generalize H_f_eqG : f_eqG = F_f_eqG
    generalize H_q_eqG : q_eqG = F_q_eqG
    generalize H_f0_heldSS : f0_heldSS = F_f0_heldSS
    generalize H_q_markF : q_markF = F_q_markF
    generalize H_f0_markG : f0_markG = F_f0_markG
    generalize H_f1_markG : f1_markG = F_f1_markG
    generalize H_f2_markG : f2_markG = F_f2_markG
    generalize H_q_markG : q_markG = F_q_markG
    generalize H_f0_markSS : f0_markSS = F_f0_markSS
    generalize H_f1_markSS : f1_markSS = F_f1_markSS
    generalize H_q_markO : q_markO = F_q_markO
    refine fnOk_ofI (T := tab) (B := [(15, c_Gi_i F_f_szG F_q_szG), (17, c_G_G F_f_cpG F_q_cpG), (44, c_G_mi F_f_imat F_q_G), (45, c_G_mi F_f_imat F_q_G), (24, c_eqSS F_f0_eqSS F_q_eqSS), (19, c_GG_b F_f_eqG F_q_eqG), (28, c_heldSS F_f0_heldSS F_q_markF)]) (Bi := [(34, 0, false, ic_markG F_f0_markG F_f1_markG F_f2_markG F_q_markG), (27, 0, false, ic_markSS F_f0_markSS F_f1_markSS F_q_markO)]) [0, 1, 2, 3, 4, 5, 6, 7, 8, 9, 10, 11, 12, 13] Try.func8 rfl rfl (by kernel_rfl) (Nat.le_of_ble_eq_true rfl) mixed tabOk (by subst H_f_szG H_q_szG H_f_cpG H_q_cpG H_f_imat H_q_G H_f0_eqSS H_q_eqSS H_f_eqG H_q_eqG H_f0_heldSS H_q_markF H_f0_markG H_f1_markG H_f2_markG H_q_markG H_f0_markSS H_f1_markSS H_q_markO; exact (bookCons s_laws_szGraph (bookCons s_laws_toGraph (bookCons s_spec_IntersectionMatrix (bookCons s_impl_IntersectionMatrix (bookCons s_laws_eqInt64SS (bookCons s_laws_eqGraph (bookCons s_laws_heldInt64SS bookNil)))))))) (by subst H_f_szG H_q_szG H_f_cpG H_q_cpG H_f_imat H_q_G H_f0_eqSS H_q_eqSS H_f_eqG H_q_eqG H_f0_heldSS H_q_markF H_f0_markG H_f1_markG H_f2_markG H_q_markG H_f0_markSS H_f1_markSS H_q_markO; exact (bookICons s_laws_markGraph (bookICons s_laws_markInt64SS bookINil))) (by kernel_rfl) ?_
    intro L lp rr hL hr hf hlp
    have hlen := hf.1
    conv => cbv
    simp only [stdEqs hL, g0, g1]
    subst H_f_szG H_q_szG H_f_cpG H_q_cpG H_f_imat H_q_G H_f_eqG H_q_eqG H_f0_eqSS H_q_eqSS H_f0_heldSS H_q_markF H_f0_markG H_f1_markG H_f2_markG H_q_markG H_f0_markSS H_f1_markSS H_q_markO
    refine ⟨hq1, fun h => by rw [hr]; rfl, fun h => ?_⟩
    obtain ⟨hc, hb0, hb1⟩ := szG_ok hq1 hlen.1.1 hlen.2.1.1 hlen.2.1.2 hq0 h
    obtain ⟨ws, hws⟩ := hq0
    obtain ⟨es, hes⟩ := hq1
    rw [hws, I_length] at hb0
    rw [hes, unII_II] at hb1
    have e0 : f_cpG a0 a1 = (I ws, II true es) := by rw [f_cpG, hes, hws, unII_II]
    have kg := graph_keys ws es
    have mg := markG_keys ws es (by omega)
    have hqg : q_G (I ws) (II false es) := ⟨⟨_, rfl⟩, ⟨_, rfl⟩⟩
    obtain ⟨ms, code, e2, ht⟩ : ∃ (ms : List (List Int)) (code : Int), f_imat (I ws) (II false es) = (II true ms, code) ∧ tot ms ≤ 4611686018427387904 := by
      refine ⟨bif isGr ws es then matG ws es else [], bif isGr ws es then 0 else 1, ?_, ?_⟩
      · rw [f_imat, unII_II, unI_I]
        cases isGr ws es <;> rfl
      · cases hh : isGr ws es
        · simp [tot]
        · have g := gr_of hh
          have := g.n2
          simp only [cond_true, matG]
          rw [tot_rows (f := mrow ws es) (c := ws.length) (fun i => tab_len _ _)]
          have := Nat.mul_le_mul this this
          omega
    have ck := lists_keys ms ht
    have dk := ints_keys ws (by omega)
    have hn : ∀ n : Nat, decide ((1 : Int) + n < 0) = false := fun n => by simp; omega
    have hn2 : ∀ n m : Nat, decide ((1 : Int) + n + m < 0) = false := fun n m => by simp; omega
    simp only [e0, hc, kg, I_frzs, hqg, e2, mg, ck, dk, hn, hn2, hr, yesG]
    simp
  · cases h
end Go.Ax
