/-
  Components of graphs in plain Lean: chains of edges, labels, forests. No conditions but those of the theorems.
-/
import Derived.Test.YtlbmgfiepmhjhaaFpp
set_option linter.all false
namespace Go.Ax
open Go.Proofs

theorem mem_near {es : List (List Int)} {v x : Int} : x ∈ near es v ↔ ∃ e ∈ es, (e1 e = v ∧ e0 e = x) ∨ (e0 e = v ∧ e1 e = x) := by
  simp only [near, nearA, nearB, List.mem_append, List.mem_map, List.mem_filter, beq_iff_eq]
  constructor
  · rintro (⟨e, ⟨h1, h2⟩, h3⟩ | ⟨e, ⟨h1, h2⟩, h3⟩)
    · exact ⟨e, h1, .inl ⟨h2, h3⟩⟩
    · exact ⟨e, h1, .inr ⟨h2, h3⟩⟩
  · rintro ⟨e, h1, ⟨h2, h3⟩ | ⟨h2, h3⟩⟩
    · exact .inl ⟨e, ⟨h1, h2⟩, h3⟩
    · exact .inr ⟨e, ⟨h1, h2⟩, h3⟩
theorem near_symm {es : List (List Int)} {v x : Int} (h : x ∈ near es v) : v ∈ near es x := by
  obtain ⟨e, h1, h2⟩ := mem_near.1 h
  exact mem_near.2 ⟨e, h1, h2.symm.imp And.symm And.symm⟩
inductive Cn (es : List (List Int)) : Int → Int → Prop
  | refl (u : Int) : Cn es u u
  | tail {u v w : Int} (h : Cn es u v) (hw : w ∈ near es v) : Cn es u w
theorem Cn.trans {es : List (List Int)} {u v w : Int} (h : Cn es u v) (h' : Cn es v w) : Cn es u w := by
  induction h' with
  | refl => exact h
  | tail _ hw ih => exact .tail ih hw
theorem Cn.one {es : List (List Int)} {u v : Int} (h : v ∈ near es u) : Cn es u v := .tail (.refl u) h
theorem Cn.symm {es : List (List Int)} {u v : Int} (h : Cn es u v) : Cn es v u := by
  induction h with
  | refl => exact .refl _
  | tail _ hw ih => exact (Cn.one (near_symm hw)).trans ih
theorem Cn.mono {es es' : List (List Int)} (hs : ∀ u x, x ∈ near es u → x ∈ near es' u) {u v : Int} (h : Cn es u v) : Cn es' u v := by
  induction h with
  | refl => exact .refl _
  | tail _ hw ih => exact .tail ih (hs _ _ hw)
theorem Cn.in {n : Nat} {es : List (List Int)} (hed : ∀ e ∈ es, EdIn n e) {u v : Int} (h : Cn es u v) (hu : 0 ≤ u ∧ u < n) : 0 ≤ v ∧ v < n := by
  induction h with
  | refl => exact hu
  | tail _ hw _ => exact near_in hed hw
theorem near_snoc {es : List (List Int)} {e : List Int} {v x : Int} : x ∈ near (es ++ [e]) v ↔ x ∈ near es v ∨ (e1 e = v ∧ e0 e = x) ∨ (e0 e = v ∧ e1 e = x) := by
  rw [mem_near, mem_near]
  constructor
  · rintro ⟨f, hf, h⟩
    rcases List.mem_append.1 hf with hf | hf
    · exact .inl ⟨f, hf, h⟩
    · rw [List.mem_singleton] at hf
      rw [hf] at h
      exact .inr h
  · rintro (⟨f, hf, h⟩ | h)
    · exact ⟨f, List.mem_append.2 (.inl hf), h⟩
    · exact ⟨e, by simp, h⟩
theorem Cn.snoc {es : List (List Int)} {e : List Int} {i j : Int} : Cn (es ++ [e]) i j ↔ Cn es i j ∨ (Cn es i (e0 e) ∧ Cn es (e1 e) j) ∨ (Cn es i (e1 e) ∧ Cn es (e0 e) j) := by
  constructor
  · intro h
    induction h with
    | refl => exact .inl (.refl _)
    | tail _ hw ih =>
      rcases near_snoc.1 hw with hw | ⟨h1, h2⟩ | ⟨h1, h2⟩
      · rcases ih with ih | ⟨ia, ib⟩ | ⟨ia, ib⟩
        · exact .inl (.tail ih hw)
        · exact .inr (.inl ⟨ia, .tail ib hw⟩)
        · exact .inr (.inr ⟨ia, .tail ib hw⟩)
      · subst h1 h2
        rcases ih with ih | ⟨ia, ib⟩ | ⟨ia, ib⟩
        · exact .inr (.inr ⟨ih, .refl _⟩)
        · exact .inl ia
        · exact .inr (.inr ⟨ia, .refl _⟩)
      · subst h1 h2
        rcases ih with ih | ⟨ia, ib⟩ | ⟨ia, ib⟩
        · exact .inr (.inl ⟨ih, .refl _⟩)
        · exact .inr (.inl ⟨ia, .refl _⟩)
        · exact .inl ia
  · have hm : ∀ {u v : Int}, Cn es u v → Cn (es ++ [e]) u v := fun h => h.mono (fun u x hx => near_snoc.2 (.inl hx))
    rintro (h | ⟨h1, h2⟩ | ⟨h1, h2⟩)
    · exact hm h
    · exact ((hm h1).trans (Cn.one (near_snoc.2 (.inr (.inr ⟨rfl, rfl⟩))))).trans (hm h2)
    · exact ((hm h1).trans (Cn.one (near_snoc.2 (.inr (.inl ⟨rfl, rfl⟩))))).trans (hm h2)
theorem uni_eq {n : Nat} {l : List Int} (hl : l.length = n) {e : List Int} (he : EdIn n e) {i j : Nat} (hin : i < n) (hjn : j < n) :
    (uni l e).getD i 0 = (uni l e).getD j 0 ↔ (l.getD i 0 = l.getD j 0 ∨ (l.getD i 0 = gI l (e0 e) ∧ l.getD j 0 = gI l (e1 e)) ∨ (l.getD i 0 = gI l (e1 e) ∧ l.getD j 0 = gI l (e0 e))) := by
  obtain ⟨_, a1, a2, b1, b2⟩ := he
  refine relab_eq hl (x := (e0 e).toNat) (y := (e1 e).toNat) (by omega) (by omega) ?_ hin hjn
  simp only [lo, hi, gI]
  omega
theorem uniAll_cn {n : Nat} {es : List (List Int)} (he : ∀ e ∈ es, EdIn n e) : ∀ k, k ≤ es.length → ∀ i j, i < n → j < n → ((uniAll (iota n) (es.take k)).getD i 0 = (uniAll (iota n) (es.take k)).getD j 0 ↔ Cn (es.take k) i j)
  | 0, _, i, j, hi, hj => by
    simp only [List.take_zero, uniAll, List.foldl_nil]
    rw [iota_get _ _ hi, iota_get _ _ hj]
    constructor
    · intro h; rw [h]; exact .refl _
    · intro h
      cases h with
      | refl => rfl
      | tail _ hw => simp [near, nearA, nearB] at hw
  | k + 1, hk, i, j, hi, hj => by
    have hE := he _ (mem_getD (xss := es) (i := k) (by omega))
    have ih := uniAll_cn he k (by omega)
    have hlen := (uniAll_cnt (es.take k) (iota n) (LabOk.iota n) (fun e h => he e (List.mem_of_mem_take h))).1.len
    rw [take_succ_tot es k (by omega), uniAll_snoc, uni_eq hlen hE hi hj, Cn.snoc, ih i j hi hj]
    obtain ⟨_, a1, a2, b1, b2⟩ := hE
    have ea : ((e0 (es.getD k [])).toNat : Int) = e0 (es.getD k []) := by omega
    have eb : ((e1 (es.getD k [])).toNat : Int) = e1 (es.getD k []) := by omega
    have j1 := ih i (e0 (es.getD k [])).toNat hi (by omega)
    have j2 := ih (e1 (es.getD k [])).toNat j (by omega) hj
    have j3 := ih i (e1 (es.getD k [])).toNat hi (by omega)
    have j4 := ih (e0 (es.getD k [])).toNat j (by omega) hj
    rw [ea] at j1 j4
    rw [eb] at j2 j3
    rw [← j1, ← j2, ← j3, ← j4]
    simp only [gI]
    constructor
    · rintro (h | ⟨h1, h2⟩ | ⟨h1, h2⟩)
      · exact .inl h
      · exact .inr (.inl ⟨h1, h2.symm⟩)
      · exact .inr (.inr ⟨h1, h2.symm⟩)
    · rintro (h | ⟨h1, h2⟩ | ⟨h1, h2⟩)
      · exact .inl h
      · exact .inr (.inl ⟨h1, h2.symm⟩)
      · exact .inr (.inr ⟨h1, h2.symm⟩)
def lbl (n : Nat) (es : List (List Int)) : List Int := uniAll (iota n) es
theorem lbl_ok {n : Nat} {es : List (List Int)} (he : ∀ e ∈ es, EdIn n e) : LabOk n (lbl n es) := (uniAll_cnt es (iota n) (LabOk.iota n) he).1
theorem lbl_cn {n : Nat} {es : List (List Int)} (he : ∀ e ∈ es, EdIn n e) {i j : Nat} (hi : i < n) (hj : j < n) : (lbl n es).getD i 0 = (lbl n es).getD j 0 ↔ Cn es i j := by
  have := uniAll_cn he es.length (Nat.le_refl _) i j hi hj
  rwa [List.take_length] at this
theorem lab_le {n : Nat} {l l' : List Int} (h : LabOk n l) (h' : LabOk n l') (hp : ∀ i j, i < n → j < n → l.getD i 0 = l.getD j 0 → l'.getD i 0 = l'.getD j 0) {i : Nat} (hi : i < n) : l'.getD i 0 ≤ l.getD i 0 := by
  have h1 := h.nn i hi
  have h2 := h.le i hi
  have h3 := h.idem i hi
  have h4 := hp (l.getD i 0).toNat i (by omega) hi h3
  have h5 := h'.le (l.getD i 0).toNat (by omega)
  omega
theorem lab_eq {n : Nat} {l l' : List Int} (h : LabOk n l) (h' : LabOk n l') (hp : ∀ i j, i < n → j < n → (l.getD i 0 = l.getD j 0 ↔ l'.getD i 0 = l'.getD j 0)) : l = l' := by
  apply List.ext_getElem?
  intro i
  by_cases hi : i < n
  · have a := lab_le h h' (fun i j hi hj => (hp i j hi hj).1) hi
    have b := lab_le h' h (fun i j hi hj => (hp i j hi hj).2) hi
    have h1 := h.len
    have h2 := h'.len
    have e : l.getD i 0 = l'.getD i 0 := by omega
    rw [List.getD_eq_getElem?_getD, List.getD_eq_getElem?_getD, List.getElem?_eq_getElem (by omega), List.getElem?_eq_getElem (by omega)] at e
    rw [List.getElem?_eq_getElem (by omega), List.getElem?_eq_getElem (by omega)]
    exact congrArg some e
  · have h1 := h.len
    have h2 := h'.len
    rw [List.getElem?_eq_none (by omega), List.getElem?_eq_none (by omega)]
def butE (es : List (List Int)) (t : Nat) : List (List Int) := es.take t ++ es.drop (t + 1)
theorem near_but {es : List (List Int)} {t : Nat} (ht : t < es.length) {v x : Int} : x ∈ near (butE es t ++ [es.getD t []]) v ↔ x ∈ near es v := by
  rw [mem_near, mem_near]
  have hm : ∀ e, e ∈ butE es t ++ [es.getD t []] ↔ e ∈ es := fun e => by
    have hd : es = es.take t ++ es.getD t [] :: es.drop (t + 1) := by rw [← drop_cons [] ht, List.take_append_drop]
    conv => rhs; rw [hd]
    simp only [butE, List.mem_append, List.mem_cons, List.mem_singleton, List.not_mem_nil, or_false]
    constructor
    · rintro ((h | h) | h)
      · exact .inl h
      · exact .inr (.inr h)
      · exact .inr (.inl h)
    · rintro (h | h | h)
      · exact .inl (.inl h)
      · exact .inr h
      · exact .inl (.inr h)
  constructor
  · rintro ⟨e, h1, h2⟩; exact ⟨e, (hm e).1 h1, h2⟩
  · rintro ⟨e, h1, h2⟩; exact ⟨e, (hm e).2 h1, h2⟩
theorem forest {n : Nat} {es : List (List Int)} (hn : 0 < n) (he : ∀ e ∈ es, EdIn n e) (ha : acy (iota n) es = true) {t : Nat} (ht : t < es.length) : ¬ Cn (butE es t) (e0 (es.getD t [])) (e1 (es.getD t [])) := by
  intro hc
  have hsub : ∀ e ∈ butE es t, e ∈ es := fun e h => (List.mem_append.1 h).elim List.mem_of_mem_take List.mem_of_mem_drop
  have he0 : ∀ e ∈ butE es t, EdIn n e := fun e h => he e (hsub e h)
  have hiff : ∀ i j : Int, Cn es i j ↔ Cn (butE es t) i j := fun i j => by
    have h1 : Cn es i j ↔ Cn (butE es t ++ [es.getD t []]) i j := ⟨fun h => h.mono (fun u x hx => (near_but ht).2 hx), fun h => h.mono (fun u x hx => (near_but ht).1 hx)⟩
    rw [h1, Cn.snoc]
    constructor
    · rintro (h | ⟨h1, h2⟩ | ⟨h1, h2⟩)
      · exact h
      · exact (h1.trans hc).trans h2
      · exact (h1.trans hc.symm).trans h2
    · exact .inl
  have hl : lbl n es = lbl n (butE es t) := lab_eq (lbl_ok he) (lbl_ok he0) fun i j hi hj => by rw [lbl_cn he hi hj, lbl_cn he0 hi hj, hiff]
  have c1 := (comp_iff hn he)
  have c2 := (comp_iff hn he0).2.2.1
  have c3 := cntU_le (butE es t) (iota n)
  have c4 := c1.2.2.2.1.1 ha
  have c5 : (butE es t).length + 1 = es.length := by
    rw [butE, List.length_append, List.length_take, List.length_drop]; omega
  have c6 := c1.2.1
  have e1 : uniAll (iota n) es = uniAll (iota n) (butE es t) := hl
  rw [e1] at c6
  omega
end Go.Ax
