/-
  Graphs: neighbours, intersection matrices. No conditions but those of the contracts.
-/
import Derived.Test.YtpcjjklkiejeaaaFo
set_option linter.all false
namespace Go.Ax
open Go.Proofs

/-- what is known of a graph -/
structure Gr (ws : List Int) (es : List (List Int)) : Prop where
  is : isGr ws es = true
  n1 : 1 ≤ ws.length
  n2 : ws.length ≤ 40
  wlo : ∀ i, i < ws.length → -1000 ≤ ws.getD i 0 ∧ ws.getD i 0 ≤ 1000
  eok : edsOk ws.length none es = true
  ed : ∀ e ∈ es, EdIn ws.length e
  lt : ∀ e ∈ es, e0 e < e1 e
  el : es.length < ws.length
  acyc : acy (iota ws.length) es = true
theorem gr_of {ws : List Int} {es : List (List Int)} (h : isGr ws es = true) : Gr ws es := by
  have h' := h
  simp only [isGr, Bool.and_eq_true, decide_eq_true_eq] at h'
  obtain ⟨⟨⟨⟨x1, x2⟩, x3⟩, x4⟩, x5⟩ := h'
  have he := fun e he => edsOk_in x4 e he
  refine ⟨h, x1, x2, fun i hi => ?_, x4, fun e h => (he e h).1, fun e h => (he e h).2, (comp_iff (n := ws.length) (es := es) (by omega) (fun e h => (he e h).1)).2.2.2.2 x5, x5⟩
  simp only [within, List.all_eq_true, inRange, Bool.and_eq_true, decide_eq_true_eq] at x3
  rw [List.getD_eq_getElem?_getD, List.getElem?_eq_getElem hi]
  exact x3 _ (List.getElem_mem hi)

/-! neighbours -/
def nearA (es : List (List Int)) (v : Int) : List Int := (es.filter fun e => e1 e == v).map e0
def nearB (es : List (List Int)) (v : Int) : List Int := (es.filter fun e => e0 e == v).map e1
def near (es : List (List Int)) (v : Int) : List Int := nearA es v ++ nearB es v
theorem nearA_len (es : List (List Int)) (v : Int) : (nearA es v).length ≤ es.length := by
  rw [nearA, List.length_map]; exact List.length_filter_le _ _
theorem nearB_len (es : List (List Int)) (v : Int) : (nearB es v).length ≤ es.length := by
  rw [nearB, List.length_map]; exact List.length_filter_le _ _
theorem nearA_step (es : List (List Int)) (v : Int) (k : Nat) (h : k < es.length) : nearA (es.take (k + 1)) v = nearA (es.take k) v ++ (if e1 (es.getD k []) = v then [e0 (es.getD k [])] else []) := by
  rw [take_succ_tot _ _ h, nearA, nearA, List.filter_append, List.map_append]
  congr 1
  generalize es.getD k [] = E
  by_cases hh : e1 E = v
  · simp [hh]
  · simp [hh]
theorem nearB_step (es : List (List Int)) (v : Int) (k : Nat) (h : k < es.length) : nearB (es.take (k + 1)) v = nearB (es.take k) v ++ (if e0 (es.getD k []) = v then [e1 (es.getD k [])] else []) := by
  rw [take_succ_tot _ _ h, nearB, nearB, List.filter_append, List.map_append]
  congr 1
  generalize es.getD k [] = E
  by_cases hh : e0 E = v
  · simp [hh]
  · simp [hh]
def c_Gi_l (f : List V → List V → Int → List V) (q : List V → List V → Int → Prop) : Contract := fun
  | [.agg [.slc false 2 (.int .i64 0) a0, .slc false 22 (.slc false 2 (.int .i64 0) []) a1], .int .i64 a2] => some ([q a0 a1 a2], .slc true 2 (.int .i64 0) (f a0 a1 a2))
  | _ => none
def f_near (_ es : List V) (v : Int) : List V := I (near (unII es) v)
def q_near (ws es : List V) (_ : Int) : Prop := IsI ws ∧ ∃ ess, es = II false ess ∧ ess.length ≤ 1000000 ∧ ∀ e ∈ ess, e.length = 2
set_option maxRecDepth 100000 in
theorem s_spec_l11Near : Sat Try.prog 42 (c_Gi_l f_near q_near) := by
  intro args ps r h hp
  unfold c_Gi_l at h
  split at h
  · rename_i a0 a1 a2
    simp only [Option.some.injEq, Prod.mk.injEq] at h
    obtain ⟨rfl, rfl⟩ := h
    obtain ⟨hq0, es, hes, hel1, hel2⟩ : q_near a0 a1 a2 := (alls_cons.1 hp).1
    have hel : a1.length = es.length := by rw [hes, II_length]
    have hf0 : f_near a0 a1 a2 = I (near es a2) := by rw [f_near, hes, unII_II]
    have ges : ∀ k, a1.getD k (.slc false 2 (.int .i64 0) []) = .slc false 2 (.int .i64 0) (I (es.getD k [])) := fun k => by rw [hes, II_getD]
    refine fnOk_ofI (T := tab) (B := []) (Bi := []) [0, 1, 2, 4, 5, 6, 7] Try.func42 rfl rfl (by kernel_rfl) (Nat.le_of_ble_eq_true rfl) mixed tabOk (by exact bookNil) (by exact bookINil) (by kernel_rfl) ?_
    intro L lp rr hL hr hf hlp
    conv => cbv
    refine hlp (List V × Int) _ _ _ [1, 2, 5, 6] (fun x => [(1, none, .val (.int .i64 a2)), (2, none, .val (.box 29 (.agg [.slc false 2 (.int .i64 0) a0, .slc false 22 (.slc false 2 (.int .i64 0) []) a1]))), (5, none, .val (.slc true 2 (.int .i64 0) x.1)), (6, none, .val (.int .i64 x.2))])
      (fun x => 0 ≤ x.2 ∧ x.2 ≤ es.length ∧ x.1 = I (nearA (es.take x.2.toNat) a2)) (fun x => (es.length - x.2).toNat) (([], 0)) (by subst hL; rfl) ?_ ?_
    · exact ⟨by simp, by simp, rfl⟩
    rintro ⟨ls, k⟩ ⟨k0, k1, hI⟩ hfx ag hag
    simp only at k0 k1 hI
    have hl : ls.length ≤ 1000000 := by
      rw [hI, I_length]
      have := nearA_len (es.take k.toNat) a2
      rw [List.length_take] at this
      omega
    conv => cbv
    obtain ⟨E, hE⟩ : ∃ E, E = es.getD k.toNat [] := ⟨_, rfl⟩
    simp only [stdEqs hL, imp_self, true_and, and_true, bif_or, bif_and, Bool.or_eq_true, Bool.or_eq_false_iff, Bool.and_eq_true, Bool.and_eq_false_iff, decide_eq_true_eq, decide_eq_false_iff_not, Bool.not_eq_true', Bool.not_eq_false', beq_iff_eq, beq_eq_false_iff_ne, ne_eq, toNat0, toNat1, ok_int, toI_int, I_frzs, I_length, I_getD, ok_ints, toL_slc, hel, ges, ← hE]
    refine ⟨fun h1 => ?_, fun h1 => ?_⟩
    · have hEl : E.length = 2 := by rw [hE]; exact hel2 _ (mem_getD (by omega))
      have hst := nearA_step es a2 k.toNat (by omega)
      rw [← hE] at hst
      rw [wrap_id (n := k + 1) (by omega) (by omega)]
      (repeat' first | (exact solid_one _) | (exact solid1 rfl) | (exact noown_one _) | (apply And.intro) | (intro _)) <;> (try first | exact True.intro | omega | rfl | (simp only [List.length_cons, List.length_nil, I_length]; omega))
      · rename_i h2
        refine hag (_, k + 1) ⟨by simp only; omega, by simp only; omega, ?_⟩ (by simp only; omega)
        simp only [toNat_succ k0]
        rw [hst, if_pos (by simp only [e1]; omega), hI, ← I_append]
        rfl
      · rename_i h2
        refine hag (_, k + 1) ⟨by simp only; omega, by simp only; omega, ?_⟩ (by simp only; omega)
        simp only [toNat_succ k0]
        rw [hst, if_neg (by simp only [e1]; omega), hI, List.append_nil]
    have hls : ls = I (nearA es a2) := by rw [hI, List.take_of_length_le (by omega)]
    clear hI hag hfx ag k0 k1 h1 hE
    refine hlp (List V × Int) _ _ _ [1, 2, 5, 7] (fun x => [(1, none, .val (.int .i64 a2)), (2, none, .val (.box 29 (.agg [.slc false 2 (.int .i64 0) a0, .slc false 22 (.slc false 2 (.int .i64 0) []) a1]))), (5, none, .val (.slc true 2 (.int .i64 0) x.1)), (7, none, .val (.int .i64 x.2))])
      (fun x => 0 ≤ x.2 ∧ x.2 ≤ es.length ∧ x.1 = I (nearA es a2 ++ nearB (es.take x.2.toNat) a2)) (fun x => (es.length - x.2).toNat) ((ls, 0)) (by subst hL; rfl) ?_ ?_
    · exact ⟨by simp, by simp, by rw [hls]; simp [nearB]⟩
    rintro ⟨ls2, k2⟩ ⟨k0, k1, hI⟩ hfx ag hag
    simp only at k0 k1 hI
    have hl2 : ls2.length ≤ 2000000 := by
      rw [hI, I_length, List.length_append]
      have := nearB_len (es.take k2.toNat) a2
      have := nearA_len es a2
      rw [List.length_take] at *
      omega
    conv => cbv
    obtain ⟨E, hE⟩ : ∃ E, E = es.getD k2.toNat [] := ⟨_, rfl⟩
    simp only [stdEqs hL, imp_self, true_and, and_true, bif_or, bif_and, Bool.or_eq_true, Bool.or_eq_false_iff, Bool.and_eq_true, Bool.and_eq_false_iff, decide_eq_true_eq, decide_eq_false_iff_not, Bool.not_eq_true', Bool.not_eq_false', beq_iff_eq, beq_eq_false_iff_ne, ne_eq, toNat0, toNat1, ok_int, toI_int, I_frzs, I_length, I_getD, ok_ints, toL_slc, hel, ges, ← hE]
    refine ⟨fun h1 => ?_, fun h1 => ?_⟩
    · have hEl : E.length = 2 := by rw [hE]; exact hel2 _ (mem_getD (by omega))
      have hst := nearB_step es a2 k2.toNat (by omega)
      rw [← hE] at hst
      rw [wrap_id (n := k2 + 1) (by omega) (by omega)]
      (repeat' first | (exact solid_one _) | (exact solid1 rfl) | (exact noown_one _) | (apply And.intro) | (intro _)) <;> (try first | exact True.intro | omega | rfl | (simp only [List.length_cons, List.length_nil, I_length]; omega))
      · rename_i h2
        refine hag (_, k2 + 1) ⟨by simp only; omega, by simp only; omega, ?_⟩ (by simp only; omega)
        simp only [toNat_succ k0]
        rw [hst, if_pos (by simp only [e0]; omega), hI, ← List.append_assoc]
        simp only [← I_append]
        rfl
      · rename_i h2
        refine hag (_, k2 + 1) ⟨by simp only; omega, by simp only; omega, ?_⟩ (by simp only; omega)
        simp only [toNat_succ k0]
        rw [hst, if_neg (by simp only [e0]; omega), hI, List.append_nil]
    · rw [hr, hf0, hI, List.take_of_length_le (by omega), near]
  · cases h

/-! intersection matrices -/
/-- two vertices are neighbours -/
def adj (es : List (List Int)) (i j : Nat) : Bool := es.any fun e => (e0 e == i && e1 e == j) || (e0 e == j && e1 e == i)
def ent (ws : List Int) (es : List (List Int)) (i j : Nat) : Int := if i = j then ws.getD i 0 else if adj es i j = true then 1 else 0
def mrow (ws : List Int) (es : List (List Int)) (i : Nat) : List Int := tab' (ent ws es i) ws.length
def matG (ws : List Int) (es : List (List Int)) : List (List Int) := tab' (mrow ws es) ws.length
def c_G_m (f : List V → List V → List V) (q : List V → List V → Prop) : Contract := fun
  | [.agg [.slc false 2 (.int .i64 0) a0, .slc false 22 (.slc false 2 (.int .i64 0) []) a1]] => some ([q a0 a1], .slc true 22 (.slc true 2 (.int .i64 0) []) (f a0 a1))
  | _ => none
def f_matG (ws es : List V) : List V := II true (matG (unI ws) (unII es))
def q_Gr (ws es : List V) : Prop := ∃ w e, ws = I w ∧ es = II false e ∧ Gr w e
theorem adj_near {n : Nat} {es : List (List Int)} (hed : ∀ e ∈ es, EdIn n e) {i j : Nat} : adj es i j = true ↔ (j : Int) ∈ near es i := by
  simp only [adj, List.any_eq_true, Bool.or_eq_true, Bool.and_eq_true, beq_iff_eq, near, nearA, nearB, List.mem_append, List.mem_map, List.mem_filter]
  constructor
  · rintro ⟨e, he, ⟨h1, h2⟩ | ⟨h1, h2⟩⟩
    · exact .inr ⟨e, ⟨he, h1⟩, h2⟩
    · exact .inl ⟨e, ⟨he, h2⟩, h1⟩
  · rintro (⟨e, ⟨he, h1⟩, h2⟩ | ⟨e, ⟨he, h1⟩, h2⟩)
    · exact ⟨e, he, .inr ⟨h2, h1⟩⟩
    · exact ⟨e, he, .inl ⟨h1, h2⟩⟩
theorem near_in {n : Nat} {es : List (List Int)} (hed : ∀ e ∈ es, EdIn n e) {v x : Int} (h : x ∈ near es v) : 0 ≤ x ∧ x < n := by
  simp only [near, nearA, nearB, List.mem_append, List.mem_map, List.mem_filter] at h
  rcases h with ⟨e, ⟨he, _⟩, rfl⟩ | ⟨e, ⟨he, _⟩, rfl⟩
  · exact ⟨(hed e he).2.1, (hed e he).2.2.1⟩
  · exact ⟨(hed e he).2.2.2.1, (hed e he).2.2.2.2⟩
/-- a row, as far as it is written -/
def prow (n : Nat) (i : Nat) (w : Int) (l : List Int) : List Int := tab' (fun j => if (j : Int) ∈ l then 1 else if i = j then w else 0) n
theorem prow_len (n i : Nat) (w : Int) (l : List Int) : (prow n i w l).length = n := tab_len _ _
theorem prow_set (n i : Nat) (w : Int) (l : List Int) (x : Int) (h0 : 0 ≤ x) (hx : x < n) : (prow n i w l).set x.toNat 1 = prow n i w (l ++ [x]) := by
  apply List.ext_getElem?
  intro j
  by_cases hj : j < n
  · have e1 : (prow n i w (l ++ [x]))[j]? = some (if (j : Int) ∈ l ++ [x] then 1 else if i = j then w else 0) := tab_get? _ _ _ hj
    have e2 : (prow n i w l)[j]? = some (if (j : Int) ∈ l then 1 else if i = j then w else 0) := tab_get? _ _ _ hj
    rw [e1, List.getElem?_set]
    by_cases hjx : x.toNat = j
    · subst hjx
      rw [if_pos rfl, if_pos (by rw [prow_len]; exact hj), if_pos (by simp [Int.toNat_of_nonneg h0])]
    · rw [if_neg hjx, e2]
      have : (j : Int) ∈ l ++ [x] ↔ (j : Int) ∈ l := by
        rw [List.mem_append, List.mem_singleton]
        constructor
        · rintro (h | h)
          · exact h
          · omega
        · exact .inl
      simp only [this]
  · rw [List.getElem?_eq_none (by rw [List.length_set, prow_len]; omega), List.getElem?_eq_none (by rw [prow_len]; omega)]
theorem prow_first (n i : Nat) (w : Int) (h : i < n) : (List.replicate n (0 : Int)).set i w = prow n i w [] := by
  apply List.ext_getElem?
  intro j
  by_cases hj : j < n
  · have e1 : (prow n i w [])[j]? = some (if (j : Int) ∈ ([] : List Int) then 1 else if i = j then w else 0) := tab_get? _ _ _ hj
    rw [e1, List.getElem?_set]
    by_cases hij : i = j
    · subst hij
      simp [h]
    · simp [hij, hj]
  · rw [List.getElem?_eq_none (by simp; omega), List.getElem?_eq_none (by rw [prow_len]; omega)]
theorem prow_row {ws : List Int} {es : List (List Int)} (g : Gr ws es) {i : Nat} (hi : i < ws.length) : prow ws.length i (ws.getD i 0) (near es i) = mrow ws es i := by
  refine tab_congr (fun j hj => ?_)
  have h1 := adj_near g.ed (i := i) (j := j)
  simp only [ent]
  by_cases hij : i = j
  · subst hij
    rw [if_pos rfl, if_pos rfl, if_neg]
    rw [← h1]
    simp only [adj, List.any_eq_true, Bool.or_eq_true, Bool.and_eq_true, beq_iff_eq]
    rintro ⟨e, he, h⟩
    have := g.lt e he
    omega
  · rw [if_neg hij, if_neg hij]
    simp only [h1]
theorem tab_set {α : Type} (f : Nat → α) (n i : Nat) (y : α) : (tab' f n).set i y = tab' (fun j => if j = i then y else f j) n := by
  apply List.ext_getElem?
  intro j
  by_cases hj : j < n
  · rw [tab_get? _ _ _ hj, List.getElem?_set]
    by_cases hij : i = j
    · subst hij
      rw [if_pos rfl, if_pos (by rw [tab_len]; exact hj), if_pos rfl]
    · rw [if_neg hij, tab_get? _ _ _ hj, if_neg (fun h => hij h.symm)]
  · rw [List.getElem?_eq_none (by rw [List.length_set, tab_len]; omega), List.getElem?_eq_none (by rw [tab_len]; omega)]
theorem prow_congr {n i : Nat} {w : Int} {l l' : List Int} (h : ∀ x, x ∈ l ↔ x ∈ l') : prow n i w l = prow n i w l' := by
  refine tab_congr (fun j _ => ?_)
  simp only [h]
theorem near_step (es : List (List Int)) (v : Int) (k : Nat) (h : k < es.length) (x : Int) : x ∈ near (es.take (k + 1)) v ↔ x ∈ near (es.take k) v ∨ (e1 (es.getD k []) = v ∧ x = e0 (es.getD k [])) ∨ (e0 (es.getD k []) = v ∧ x = e1 (es.getD k [])) := by
  simp only [near, nearA_step _ _ _ h, nearB_step _ _ _ h, List.mem_append]
  generalize es.getD k [] = E
  by_cases h1 : e1 E = v
  · by_cases h2 : e0 E = v
    · simp [h1, h2]; grind
    · simp [h1, h2]; grind
  · by_cases h2 : e0 E = v
    · simp [h1, h2]; grind
    · simp [h1, h2]
def stW (ws : List Int) (k : Nat) : List (List Int) := tab' (fun i => if i < k then prow ws.length i (ws.getD i 0) [] else List.replicate ws.length 0) ws.length
def stE (ws : List Int) (es : List (List Int)) : List (List Int) := tab' (fun i => prow ws.length i (ws.getD i 0) (near es i)) ws.length
theorem stW_step {ws : List Int} {k : Nat} (h : k < ws.length) : (stW ws k).set k ((List.replicate ws.length 0).set k (ws.getD k 0)) = stW ws (k + 1) := by
  rw [stW, tab_set, stW]
  refine tab_congr (fun j hj => ?_)
  rw [prow_first _ _ _ h]
  by_cases h1 : j = k
  · subst h1; rw [if_pos rfl, if_pos (by omega)]
  · rw [if_neg h1]
    by_cases h2 : j < k
    · rw [if_pos h2, if_pos (by omega)]
    · rw [if_neg h2, if_neg (by omega)]
theorem stE_step {ws : List Int} {es : List (List Int)} {k : Nat} (hk : k < es.length) {a b : Nat} (ha : a < ws.length) (hb : b < ws.length) (hab : a ≠ b) (h0 : e0 (es.getD k []) = a) (h1 : e1 (es.getD k []) = b) :
    ((stE ws (es.take k)).set a (((stE ws (es.take k)).getD a []).set b 1)).set b ((((stE ws (es.take k)).set a (((stE ws (es.take k)).getD a []).set b 1)).getD b []).set a 1) = stE ws (es.take (k + 1)) := by
  have hs := fun v x => near_step es v k hk x
  rw [h0, h1] at hs
  have g1 : (stE ws (es.take k)).getD a [] = prow ws.length a (ws.getD a 0) (near (es.take k) a) := tab_get _ _ _ _ ha
  rw [g1]
  have p1 := prow_set ws.length a (ws.getD a 0) (near (es.take k) a) b (by omega) (by omega)
  rw [Int.toNat_natCast] at p1
  rw [p1, stE, tab_set, tab_get _ _ _ _ hb, if_neg (fun h => hab h.symm), tab_set]
  have p2 := prow_set ws.length b (ws.getD b 0) (near (es.take k) b) a (by omega) (by omega)
  rw [Int.toNat_natCast] at p2
  rw [p2, stE]
  refine tab_congr (fun j hj => ?_)
  by_cases hjb : j = b
  · subst hjb
    rw [if_pos rfl]
    refine prow_congr (fun x => ?_)
    rw [hs, List.mem_append, List.mem_singleton]
    constructor
    · rintro (h | h)
      · exact .inl h
      · exact .inr (.inl ⟨rfl, h⟩)
    · rintro (h | ⟨_, h⟩ | ⟨h, _⟩)
      · exact .inl h
      · exact .inr h
      · omega
  · rw [if_neg hjb]
    by_cases hja : j = a
    · subst hja
      rw [if_pos rfl]
      refine prow_congr (fun x => ?_)
      rw [hs, List.mem_append, List.mem_singleton]
      constructor
      · rintro (h | h)
        · exact .inl h
        · exact .inr (.inr ⟨rfl, h⟩)
      · rintro (h | ⟨h, _⟩ | ⟨_, h⟩)
        · exact .inl h
        · omega
        · exact .inr h
    · rw [if_neg hja]
      refine prow_congr (fun x => ?_)
      rw [hs]
      constructor
      · exact .inl
      · rintro (h | ⟨h, _⟩ | ⟨h, _⟩)
        · exact h
        · omega
        · omega
/-! the law -/
def c_G_mi (f : List V → List V → List V × Int) (q : List V → List V → Prop) : Contract := fun
  | [.agg [.slc false 2 (.int .i64 0) a0, .slc false 22 (.slc false 2 (.int .i64 0) []) a1]] => some ([q a0 a1], .tup [.slc true 22 (.slc true 2 (.int .i64 0) []) ((f a0 a1).1), .int .i64 ((f a0 a1).2)])
  | _ => none
def f_imat (ws es : List V) : List V × Int := bif isGr (unI ws) (unII es) then (II true (matG (unI ws) (unII es)), 0) else ([], 1)
def ic_markG (f0 : List V → List V → Int → Int) (f1 f2 : List V → List V → Int → List V) (q : List V → List V → Int → Prop) : IContract := fun
  | [.agg [.slc true 2 (.int .i64 0) a0, .slc true 22 (.slc true 2 (.int .i64 0) []) a1], .int .i64 k] => some ([q a0 a1 k], .int .i64 (f0 a0 a1 k), .agg [.slc true 2 (.int .i64 0) (f1 a0 a1 k), .slc true 22 (.slc true 2 (.int .i64 0) []) (f2 a0 a1 k)])
  | _ => none
def f0_markG (a0 a1 : List V) (k : Int) : Int := f0_markSS a1 (f0_mark a0 k)
def f1_markG (a0 _ : List V) (k : Int) : List V := f1_mark a0 k
def f2_markG (a0 a1 : List V) (k : Int) : List V := f1_markSS a1 (f0_mark a0 k)
def q_markG (a0 a1 : List V) (k : Int) : Prop := q_mark a0 k ∧ q_markO a1 (f0_mark a0 k)
set_option maxRecDepth 100000 in
theorem s_laws_markGraph : SatI Try.prog 12 0 (ic_markG f0_markG f1_markG f2_markG q_markG) := by
  intro args ps r y h hp
  unfold ic_markG at h
  split at h
  · rename_i a0 a1 k
    simp only [Option.some.injEq, Prod.mk.injEq] at h
    obtain ⟨rfl, rfl, rfl⟩ := h
    obtain ⟨h0, h1⟩ : q_markG a0 a1 k := (alls_cons.1 hp).1
    have hf0 : f0_markG a0 a1 k = f0_markSS a1 (f0_mark a0 k) := rfl
    have hf1 : f1_markG a0 a1 k = f1_mark a0 k := rfl
    have hf2 : f2_markG a0 a1 k = f1_markSS a1 (f0_mark a0 k) := rfl
    generalize H_f0_mark : f0_mark = F_f0_mark
    generalize H_f1_mark : f1_mark = F_f1_mark
    generalize H_q_mark : q_mark = F_q_mark
    generalize H_f0_markSS : f0_markSS = F_f0_markSS
    generalize H_f1_markSS : f1_markSS = F_f1_markSS
    generalize H_q_markO : q_markO = F_q_markO
    refine fnIO_of (T := tab) (B := []) (Bi := [(13, 0, false, ic_markInt64S F_f0_mark F_f1_mark F_q_mark), (31, 0, false, ic_markSS F_f0_markSS F_f1_markSS F_q_markO)]) 0 [0, 1, 2, 4] Try.func12 rfl rfl (by kernel_rfl) (Nat.le_of_ble_eq_true rfl) mixed tabOk (by subst H_f0_mark H_f1_mark H_q_mark H_f0_markSS H_f1_markSS H_q_markO; exact bookNil) (by subst H_f0_mark H_f1_mark H_q_mark H_f0_markSS H_f1_markSS H_q_markO; exact (bookICons s_laws_markInt64S (bookICons s_laws_markInt64SS bookINil))) (by kernel_rfl) rfl rfl rfl (by subst H_f0_mark H_f1_markSS H_f1_mark; obtain ⟨⟨xs, rfl⟩, _⟩ := h0; obtain ⟨⟨ys, rfl⟩, _⟩ := h1; rw [hf1, hf2]; exact Sh.agg2 (by rw [f1_mark]; exact Sh.ints (by simp [marks_len])) (by rw [f1_markSS, unII_II]; exact Sh.lists ys _)) rfl ?_
    intro L lp rr yy hL hr hy hf hlp
    conv => cbv
    subst H_f0_mark H_f1_mark H_q_mark H_f0_markSS H_f1_markSS H_q_markO
    rw [hr, hy, hf0, hf1, hf2]
    exact ⟨h0, h1, rfl, rfl⟩
  · cases h
theorem tot_rows {f : Nat → List Int} {c : Nat} (h : ∀ i, (f i).length = c) (n : Nat) : tot (tab' f n) = n * c := tot_tab f c h n
theorem markG_keys (ws : List Int) (es : List (List Int)) (h : ws.length + tot es ≤ 4611686018427387904) :
    q_markG (I ws) (II true es) 1 ∧ f0_markG (I ws) (II true es) 1 = 1 + ws.length + tot es ∧ f1_markG (I ws) (II true es) 1 = I (marks ws.length 1) ∧ f2_markG (I ws) (II true es) 1 = II true (marksGo (1 + ws.length) es) ∧ V.noFzs (II true es) = true := by
  have e : f0_mark (I ws) 1 = 1 + ws.length := by rw [f0_mark, I_length]
  refine ⟨⟨⟨⟨_, rfl⟩, by omega, by rw [I_length]; omega⟩, ?_⟩, by rw [f0_markG, e, f0_markSS, unII_II], by rw [f1_markG, f1_mark, I_length], by rw [f2_markG, e, f1_markSS, unII_II], II_noFzs _⟩
  rw [e]
  exact ⟨⟨_, rfl⟩, by omega, by rw [unII_II]; omega⟩
end Go.Ax
