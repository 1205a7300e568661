/-
  Contraction keeps graphs graphs, in plain Lean. No conditions but those of the theorems.
-/
import Derived.Test.YtpcjjklkiejeaaaHp
set_option linter.all false
namespace Go.Ax
open Go.Proofs

/-- each edge parts the vertices -/
def Sep (es : List (List Int)) : Prop := ∀ e ∈ es, ∃ φ : Int → Prop, φ (e0 e) ∧ ¬ φ (e1 e) ∧ ∀ f ∈ es, f ≠ e → (φ (e0 f) ↔ φ (e1 f))
theorem Sep_of {n : Nat} {es : List (List Int)} (hn : 0 < n) (he : ∀ e ∈ es, EdIn n e) (ha : acy (iota n) es = true) : Sep es := by
  intro e hm
  obtain ⟨t, ht, rfl⟩ := List.getElem_of_mem hm
  have hg : es.getD t [] = es[t] := by rw [List.getD_eq_getElem?_getD, List.getElem?_eq_getElem ht]; rfl
  refine ⟨fun x => Cn (butE es t) (e0 es[t]) x, .refl _, by rw [← hg]; exact forest hn he ha ht, fun f hf hne => ?_⟩
  have hm : f ∈ butE es t := by
    have hd : es = es.take t ++ es.getD t [] :: es.drop (t + 1) := by rw [← drop_cons [] ht, List.take_append_drop]
    rw [hd, List.mem_append, List.mem_cons] at hf
    rw [butE, List.mem_append]
    rcases hf with h | h | h
    · exact .inl h
    · exact absurd (h.trans hg) hne
    · exact .inr h
  exact ⟨fun h => .tail h (mem_near.2 ⟨f, hm, .inr ⟨rfl, rfl⟩⟩), fun h => .tail h (mem_near.2 ⟨f, hm, .inl ⟨rfl, rfl⟩⟩)⟩
theorem awayE_iff {v : Int} {e : List Int} : awayE v e = true ↔ e0 e ≠ v ∧ e1 e ≠ v := by
  simp only [awayE, Bool.and_eq_true, decide_eq_true_eq, e0, e1]
theorem mem_con {es : List (List Int)} {v : Int} {e : List Int} : e ∈ conE es v ↔ (e ∈ es ∧ e0 e ≠ v ∧ e1 e ≠ v) ∨ ((near es v).length = 2 ∧ e = near es v) := by
  rw [conE, List.mem_append, List.mem_filter, awayE_iff]
  constructor
  · rintro (h | h)
    · exact .inl h
    · split at h
      · exact .inr ⟨‹_›, List.mem_singleton.1 h⟩
      · cases h
  · rintro (h | ⟨h1, h2⟩)
    · exact .inl h
    · rw [if_pos h1]; exact .inr (List.mem_singleton.2 h2)
theorem two_form {l : List Int} (h : l.length = 2) : ∃ a b, l = [a, b] := by
  match l, h with
  | [a, b], _ => exact ⟨a, b, rfl⟩
/-- the new edge's ends -/
theorem con_new {n : Nat} {es : List (List Int)} (g : GrN n es) {v : Int} (h2 : (near es v).length = 2) :
    ∃ a b, near es v = [a, b] ∧ a < b ∧ a ≠ v ∧ b ≠ v ∧ 0 ≤ a ∧ b < n ∧ ∃ f1 ∈ es, ∃ f2 ∈ es, ((e1 f1 = v ∧ e0 f1 = a) ∨ (e0 f1 = v ∧ e1 f1 = a)) ∧ ((e1 f2 = v ∧ e0 f2 = b) ∨ (e0 f2 = v ∧ e1 f2 = b)) := by
  obtain ⟨a, b, hab⟩ := two_form h2
  have hs := near_sorted g.eok v
  have ma : a ∈ near es v := by rw [hab]; simp
  have mb : b ∈ near es v := by rw [hab]; simp
  rw [hab] at hs
  simp only [List.pairwise_cons, List.mem_singleton, forall_eq] at hs
  have h3 := near_in g.ed ma
  have h4 := near_in g.ed mb
  obtain ⟨f1, m1, c1⟩ := mem_near.1 ma
  obtain ⟨f2, m2, c2⟩ := mem_near.1 mb
  exact ⟨a, b, hab, hs.1, near_ne g ma, near_ne g mb, h3.1, h4.2, f1, m1, f2, m2, c1, c2⟩
/-- what parts the new edge's ends -/
theorem con_part {n : Nat} {es : List (List Int)} (g : GrN n es) (hb : Sep es) {v : Int} (h2 : (near es v).length = 2) :
    ∃ φ : Int → Prop, φ (e0 (near es v)) ∧ ¬ φ (e1 (near es v)) ∧ ∀ f ∈ es, e0 f ≠ v → e1 f ≠ v → (φ (e0 f) ↔ φ (e1 f)) := by
  obtain ⟨a, b, hab, hlt, av, bv, a0, bn, f1, m1, f2, m2, c1, c2⟩ := con_new g h2
  rw [hab]
  show ∃ φ : Int → Prop, φ a ∧ ¬ φ b ∧ _
  obtain ⟨φ, p1, p2, p3⟩ := hb f1 m1
  have hne : f2 ≠ f1 := by
    rintro rfl
    omega
  have p4 := p3 f2 m2 hne
  have p5 : ∀ f ∈ es, e0 f ≠ v → e1 f ≠ v → (φ (e0 f) ↔ φ (e1 f)) := fun f hf h0 h1 => p3 f hf (by rintro rfl; omega)
  rcases c1 with ⟨x1, x2⟩ | ⟨x1, x2⟩
  · rw [x2] at p1
    rw [x1] at p2
    refine ⟨φ, p1, ?_, p5⟩
    rcases c2 with ⟨y1, y2⟩ | ⟨y1, y2⟩
    · rw [y1, y2] at p4
      exact fun h => p2 (p4.1 h)
    · rw [y1, y2] at p4
      exact fun h => p2 (p4.2 h)
  · rw [x1] at p1
    rw [x2] at p2
    refine ⟨fun x => ¬ φ x, p2, ?_, fun f hf h0 h1 => not_congr (p5 f hf h0 h1)⟩
    rcases c2 with ⟨y1, y2⟩ | ⟨y1, y2⟩
    · rw [y1, y2] at p4
      exact fun h => h (p4.2 p1)
    · rw [y1, y2] at p4
      exact fun h => h (p4.1 p1)
theorem con_br {n : Nat} {es : List (List Int)} (g : GrN n es) (hb : Sep es) (v : Int) : Sep (conE es v) := by
  intro e he
  rcases mem_con.1 he with ⟨h1, h2, h3⟩ | ⟨h1, rfl⟩
  · obtain ⟨φ, p1, p2, p3⟩ := hb e h1
    refine ⟨φ, p1, p2, fun f hf hne => ?_⟩
    rcases mem_con.1 hf with ⟨k1, k2, k3⟩ | ⟨k1, rfl⟩
    · exact p3 f k1 hne
    · obtain ⟨a, b, hab, hlt, av, bv, a0, bn, f1, m1, f2, m2, c1, c2⟩ := con_new g k1
      rw [hab]
      show φ a ↔ φ b
      have q1 := p3 f1 m1 (by rintro rfl; omega)
      have q2 := p3 f2 m2 (by rintro rfl; omega)
      rcases c1 with ⟨x1, x2⟩ | ⟨x1, x2⟩ <;> rcases c2 with ⟨y1, y2⟩ | ⟨y1, y2⟩ <;> rw [x1, x2] at q1 <;> rw [y1, y2] at q2
      · exact q1.trans q2.symm
      · exact q1.trans q2
      · exact q1.symm.trans q2.symm
      · exact q1.symm.trans q2
  · obtain ⟨φ, p1, p2, p3⟩ := con_part g hb h1
    refine ⟨φ, p1, p2, fun f hf hne => ?_⟩
    rcases mem_con.1 hf with ⟨k1, k2, k3⟩ | ⟨k1, rfl⟩
    · exact p3 f k1 k2 k3
    · exact absurd rfl hne
theorem con_nodup {n : Nat} {es : List (List Int)} (g : GrN n es) (hb : Sep es) (v : Int) : (conE es v).Nodup := by
  have hp := (eds_pair es none g.eok).2
  have hnd : es.Nodup := hp.imp fun {a b} h => by
    rintro rfl
    simp only [ltE] at h
    omega
  rw [conE]
  refine List.nodup_append.2 ⟨hnd.sublist List.filter_sublist, ?_, ?_⟩
  · split <;> simp
  · intro e he f hf hef
    subst hef
    split at hf
    · rename_i h2
      rw [List.mem_singleton] at hf
      subst hf
      obtain ⟨h1, h3⟩ := List.mem_filter.1 he
      have h4 := awayE_iff.1 h3
      obtain ⟨φ, p1, p2, p3⟩ := con_part g hb h2
      exact p2 ((p3 _ h1 h4.1 h4.2).1 p1)
    · cases hf
theorem con_len {es : List (List Int)} (hlt : ∀ e ∈ es, e0 e < e1 e) (v : Int) : (es.filter (awayE v)).length + (near es v).length = es.length := by
  induction es with
  | nil => rfl
  | cons e es ih =>
    have ih := ih fun x hx => hlt x (by simp [hx])
    have h1 := hlt e (by simp)
    simp only [near, nearA, nearB, List.length_append, List.length_map, List.filter_cons, beq_iff_eq] at ih ⊢
    by_cases ha : awayE v e = true
    · have h2 := awayE_iff.1 ha
      rw [if_pos ha, if_neg h2.1, if_neg h2.2]
      simp only [List.length_cons]
      omega
    · rw [if_neg ha]
      have h2 : e0 e = v ∨ e1 e = v := by
        rw [awayE_iff] at ha
        omega
      rcases h2 with h2 | h2
      · rw [if_pos h2, if_neg (by omega)]
        simp only [List.length_cons]
        omega
      · rw [if_pos h2, if_neg (by omega)]
        simp only [List.length_cons]
        omega
/-! renaming -/
def incI (v y : Int) : Int := if y < v then y else y + 1
theorem decI_eq {v x : Int} (x0 : 0 ≤ x) (x1 : x ≤ 1000) : decI v x = if v < x then x - 1 else x := by
  rw [decI]
  split
  · exact wrap_id (n := x - 1) (by omega) (by omega)
  · rfl
theorem inc_dec {v x : Int} (x0 : 0 ≤ x) (x1 : x ≤ 1000) (h : x ≠ v) : incI v (decI v x) = x := by
  rw [decI_eq x0 x1, incI]
  split <;> split <;> omega
theorem decE_ends {v : Int} {e : List Int} (h : e.length = 2) : e0 (decE v e) = decI v (e0 e) ∧ e1 (decE v e) = decI v (e1 e) := by
  obtain ⟨a, b, rfl⟩ := two_form h
  exact ⟨rfl, rfl⟩
theorem edge_eq {e f : List Int} (he : e.length = 2) (hf : f.length = 2) (h0 : e0 e = e0 f) (h1 : e1 e = e1 f) : e = f := by
  obtain ⟨a, b, rfl⟩ := two_form he
  obtain ⟨c, d, rfl⟩ := two_form hf
  have h0 : a = c := h0
  have h1 : b = d := h1
  rw [h0, h1]
theorem edsOk_of {n : Nat} : ∀ {es : List (List Int)} {p : Option (List Int)}, (∀ e ∈ es, EdIn n e ∧ e0 e < e1 e) → es.Pairwise (fun a b => lexLt a b = true) → (∀ x, p = some x → ∀ e ∈ es, lexLt x e = true) → edsOk n p es = true
  | [], _, _, _, _ => by simp [edsOk]
  | e :: es, p, h1, h2, h3 => by
    rw [List.pairwise_cons] at h2
    simp only [edsOk, Bool.and_eq_true]
    refine ⟨?_, edsOk_of (fun x hx => h1 x (by simp [hx])) h2.2 fun x hx f hf => ?_⟩
    · obtain ⟨⟨a1, a2, a3, a4, a5⟩, a6⟩ := h1 e (by simp)
      simp only [edOk, Bool.and_eq_true, decide_eq_true_eq, beq_iff_eq]
      refine ⟨⟨⟨⟨a1, a2⟩, a6⟩, a5⟩, ?_⟩
      cases p with
      | none => rfl
      | some x => exact h3 x rfl e (by simp)
    · injection hx with hx
      subst hx
      exact h2.1 f hf
/-- what is left keeps what was asked -/
theorem con_ok {n : Nat} {es : List (List Int)} (g : GrN n es) (hb : Sep es) {v : Int} (v0 : 0 ≤ v) (v1 : v < n) (hn : 1 < n) (h2 : (near es v).length ≤ 2) :
    GrN (n - 1) (srtE ((conE es v).map (decE v))) ∧ Sep (srtE ((conE es v).map (decE v))) := by
  have g2 := g.n2
  -- the edges ahead of renaming
  have hC : ∀ e ∈ conE es v, e.length = 2 ∧ 0 ≤ e0 e ∧ e0 e < e1 e ∧ e1 e < n ∧ e0 e ≠ v ∧ e1 e ≠ v := fun e he => by
    rcases mem_con.1 he with ⟨h1, h3, h4⟩ | ⟨h1, rfl⟩
    · have h5 := g.ed e h1
      exact ⟨h5.1, h5.2.1, g.lt e h1, h5.2.2.2.2, h3, h4⟩
    · obtain ⟨a, b, hab, hlt, av, bv, a0, bn, _⟩ := con_new g h1
      rw [hab]
      exact ⟨rfl, a0, hlt, bn, av, bv⟩
  have hinj : ∀ e ∈ conE es v, ∀ f ∈ conE es v, decE v e = decE v f → e = f := fun e he f hf h => by
    obtain ⟨a1, a2, a3, a4, a5, a6⟩ := hC e he
    obtain ⟨b1, b2, b3, b4, b5, b6⟩ := hC f hf
    have c1 := decE_ends (v := v) a1
    have c2 := decE_ends (v := v) b1
    rw [h] at c1
    refine edge_eq a1 b1 ?_ ?_
    · rw [← inc_dec (v := v) (x := e0 e) (by omega) (by omega) a5, ← inc_dec (v := v) (x := e0 f) (by omega) (by omega) b5, ← c1.1, c2.1]
    · rw [← inc_dec (v := v) (x := e1 e) (by omega) (by omega) a6, ← inc_dec (v := v) (x := e1 f) (by omega) (by omega) b6, ← c1.2, c2.2]
  have hD : ∀ e ∈ (conE es v).map (decE v), EdIn (n - 1) e ∧ e0 e < e1 e := fun e he => by
    obtain ⟨f, hf, rfl⟩ := List.mem_map.1 he
    obtain ⟨a1, a2, a3, a4, a5, a6⟩ := hC f hf
    have c1 := decE_ends (v := v) a1
    have d0 := decI_eq (v := v) (x := e0 f) (by omega) (by omega)
    have d1 := decI_eq (v := v) (x := e1 f) (by omega) (by omega)
    rw [EdIn, c1.1, c1.2, d0, d1, decE_len]
    refine ⟨⟨a1, ?_⟩, ?_⟩
    · split <;> split <;> omega
    · split <;> split <;> omega
  have hS := srtE_perm ((conE es v).map (decE v))
  have hnd : ((conE es v).map (decE v)).Nodup := by
    rw [List.Nodup, List.pairwise_map]
    exact (con_nodup g hb v).imp_of_mem fun ha hb h h3 => h (hinj _ ha _ hb h3)
  have hnd2 := (hS.nodup_iff).2 hnd
  have hE : ∀ e ∈ srtE ((conE es v).map (decE v)), EdIn (n - 1) e ∧ e0 e < e1 e := fun e he => hD e (hS.mem_iff.1 he)
  refine ⟨⟨by omega, by omega, ?_, edsOk_of hE ?_ (fun x hx => by cases hx), fun e he => (hE e he).1, fun e he => (hE e he).2⟩, ?_⟩
  · rw [srtE_len, List.length_map, conE, List.length_append]
    have := con_len g.lt v
    have := g.el
    split <;> simp <;> omega
  · have h1 := List.pairwise_mergeSort (le := leE) leE_trans leE_total ((conE es v).map (decE v))
    refine (h1.and hnd2).imp fun {a b} h => ?_
    have h3 : lexLt b a = false := by simpa [leE] using h.1
    cases h4 : lexLt a b with
    | true => rfl
    | false => exact absurd (lexLt_tri a b h4 h3) h.2
  · intro e he
    obtain ⟨f, hf, rfl⟩ := List.mem_map.1 (hS.mem_iff.1 he)
    obtain ⟨φ, p1, p2, p3⟩ := con_br g hb v f hf
    obtain ⟨a1, a2, a3, a4, a5, a6⟩ := hC f hf
    have c1 := decE_ends (v := v) a1
    refine ⟨fun y => φ (incI v y), ?_, ?_, fun f' hf' hne => ?_⟩
    · simp only [c1.1]
      rw [inc_dec (by omega) (by omega) a5]; exact p1
    · simp only [c1.2]
      rw [inc_dec (by omega) (by omega) a6]; exact p2
    · obtain ⟨k, hk, rfl⟩ := List.mem_map.1 (hS.mem_iff.1 hf')
      obtain ⟨b1, b2, b3, b4, b5, b6⟩ := hC k hk
      have c2 := decE_ends (v := v) b1
      simp only [c2.1, c2.2]
      rw [inc_dec (by omega) (by omega) b5, inc_dec (by omega) (by omega) b6]
      exact p3 k hk (by rintro rfl; exact hne rfl)
end Go.Ax
