import Derived.Test.YtlbmgfiepmhjhaaB07q
import Derived.Shelf.SlLaysM
import Derived.Test.YtlbmgfiepmhjhaaProg
import Derived.Test.YtlbmgfiepmhjhaaB02q
import Derived.Shelf.SortM.Plain
import Derived.Shelf.SortM.SortNone
/-
  Components of graphs in plain Lean: chains of edges, labels, forests. No conditions but those of the theorems.
-/
set_option linter.all false
namespace Go.Ax
open Go.Proofs

theorem mem_near {es : List (List Int)} {v x : Int} : x ∈ near es v ↔ ∃ e ∈ es, (e1 e = v ∧ e0 e = x) ∨ (e0 e = v ∧ e1 e = x) := by
  simp only [near, nearA, nearB, List.mem_append, List.mem_map, List.mem_filter, beq_iff_eq]
  constructor
  · rintro (⟨e, ⟨h1, h2⟩, h3⟩ | ⟨e, ⟨h1, h2⟩, h3⟩)
    · exact ⟨e, h1, .inl ⟨h2, h3⟩⟩
    · exact ⟨e, h1, .inr ⟨h2, h3⟩⟩
  · rintro ⟨e, h1, ⟨h2, h3⟩ | ⟨h2, h3⟩⟩
    · exact .inl ⟨e, ⟨h1, h2⟩, h3⟩
    · exact .inr ⟨e, ⟨h1, h2⟩, h3⟩
theorem near_symm {es : List (List Int)} {v x : Int} (h : x ∈ near es v) : v ∈ near es x := by
  obtain ⟨e, h1, h2⟩ := mem_near.1 h
  exact mem_near.2 ⟨e, h1, h2.symm.imp And.symm And.symm⟩
inductive Cn (es : List (List Int)) : Int → Int → Prop
  | refl (u : Int) : Cn es u u
  | tail {u v w : Int} (h : Cn es u v) (hw : w ∈ near es v) : Cn es u w
theorem Cn.trans {es : List (List Int)} {u v w : Int} (h : Cn es u v) (h' : Cn es v w) : Cn es u w := by
  induction h' with
  | refl => exact h
  | tail _ hw ih => exact .tail ih hw
theorem Cn.one {es : List (List Int)} {u v : Int} (h : v ∈ near es u) : Cn es u v := .tail (.refl u) h
theorem Cn.symm {es : List (List Int)} {u v : Int} (h : Cn es u v) : Cn es v u := by
  induction h with
  | refl => exact .refl _
  | tail _ hw ih => exact (Cn.one (near_symm hw)).trans ih
theorem Cn.mono {es es' : List (List Int)} (hs : ∀ u x, x ∈ near es u → x ∈ near es' u) {u v : Int} (h : Cn es u v) : Cn es' u v := by
  induction h with
  | refl => exact .refl _
  | tail _ hw ih => exact .tail ih (hs _ _ hw)
theorem Cn.in {n : Nat} {es : List (List Int)} (hed : ∀ e ∈ es, EdIn n e) {u v : Int} (h : Cn es u v) (hu : 0 ≤ u ∧ u < n) : 0 ≤ v ∧ v < n := by
  induction h with
  | refl => exact hu
  | tail _ hw _ => exact near_in hed hw
theorem near_snoc {es : List (List Int)} {e : List Int} {v x : Int} : x ∈ near (es ++ [e]) v ↔ x ∈ near es v ∨ (e1 e = v ∧ e0 e = x) ∨ (e0 e = v ∧ e1 e = x) := by
  rw [mem_near, mem_near]
  constructor
  · rintro ⟨f, hf, h⟩
    rcases List.mem_append.1 hf with hf | hf
    · exact .inl ⟨f, hf, h⟩
    · rw [List.mem_singleton] at hf
      rw [hf] at h
      exact .inr h
  · rintro (⟨f, hf, h⟩ | h)
    · exact ⟨f, List.mem_append.2 (.inl hf), h⟩
    · exact ⟨e, by simp, h⟩
theorem Cn.snoc {es : List (List Int)} {e : List Int} {i j : Int} : Cn (es ++ [e]) i j ↔ Cn es i j ∨ (Cn es i (e0 e) ∧ Cn es (e1 e) j) ∨ (Cn es i (e1 e) ∧ Cn es (e0 e) j) := by
  constructor
  · intro h
    induction h with
    | refl => exact .inl (.refl _)
    | tail _ hw ih =>
      rcases near_snoc.1 hw with hw | ⟨h1, h2⟩ | ⟨h1, h2⟩
      · rcases ih with ih | ⟨ia, ib⟩ | ⟨ia, ib⟩
        · exact .inl (.tail ih hw)
        · exact .inr (.inl ⟨ia, .tail ib hw⟩)
        · exact .inr (.inr ⟨ia, .tail ib hw⟩)
      · subst h1 h2
        rcases ih with ih | ⟨ia, ib⟩ | ⟨ia, ib⟩
        · exact .inr (.inr ⟨ih, .refl _⟩)
        · exact .inl ia
        · exact .inr (.inr ⟨ia, .refl _⟩)
      · subst h1 h2
        rcases ih with ih | ⟨ia, ib⟩ | ⟨ia, ib⟩
        · exact .inr (.inl ⟨ih, .refl _⟩)
        · exact .inr (.inl ⟨ia, .refl _⟩)
        · exact .inl ia
  · have hm : ∀ {u v : Int}, Cn es u v → Cn (es ++ [e]) u v := fun h => h.mono (fun u x hx => near_snoc.2 (.inl hx))
    rintro (h | ⟨h1, h2⟩ | ⟨h1, h2⟩)
    · exact hm h
    · exact ((hm h1).trans (Cn.one (near_snoc.2 (.inr (.inr ⟨rfl, rfl⟩))))).trans (hm h2)
    · exact ((hm h1).trans (Cn.one (near_snoc.2 (.inr (.inl ⟨rfl, rfl⟩))))).trans (hm h2)
end Go.Ax
/-
  The order in which the component of a vertex is gone through, in plain Lean. No conditions but those of the theorems.
-/
set_option linter.all false
namespace Go.Ax
open Go.Proofs

structure Bfs (n : Nat) (es : List (List Int)) (root : Int) (ord par : List Int) (i k : Nat) : Prop where
  nd : ord.Nodup
  inr : ∀ x ∈ ord, 0 ≤ x ∧ x < n
  pl : par.length = n
  ne : 0 < ord.length
  hd : ord.getD 0 0 = root
  rp : gI par root = -1
  tree : ∀ t, 0 < t → t < ord.length → ∃ s, s < t ∧ s ≤ i ∧ gI par (ord.getD t 0) = ord.getD s 0 ∧ ord.getD t 0 ∈ near es (ord.getD s 0) ∧ (s = i → ord.getD t 0 ∈ (near es (ord.getD i 0)).take k)
  done : ∀ t, t < i → ∀ x ∈ near es (ord.getD t 0), x ∈ ord
  cur : ∀ x ∈ (near es (ord.getD i 0)).take k, x ∈ ord
  ile : i ≤ ord.length
theorem getD_mem {l : List Int} {t : Nat} (h : t < l.length) : l.getD t 0 ∈ l := by
  rw [List.getD_eq_getElem?_getD, List.getElem?_eq_getElem h]; exact List.getElem_mem _
theorem getD_at {l : List Int} {k : Nat} (h : k < l.length) : l[k] = l.getD k 0 := by
  rw [List.getD_eq_getElem?_getD, List.getElem?_eq_getElem h]; rfl
theorem mem_at {l : List Int} {x : Int} (h : x ∈ l) : ∃ t, t < l.length ∧ l.getD t 0 = x := by
  obtain ⟨t, ht, rfl⟩ := List.mem_iff_getElem.1 h
  exact ⟨t, ht, by rw [List.getD_eq_getElem?_getD, List.getElem?_eq_getElem ht]; rfl⟩
theorem set_gI {l : List Int} {x y v : Int} (h0 : 0 ≤ x) (hx : x.toNat < l.length) (hy : 0 ≤ y) : gI (l.set x.toNat v) y = if y = x then v else gI l y := by
  simp only [gI, List.getD_eq_getElem?_getD, List.getElem?_set]
  by_cases h : y = x
  · rw [h, if_pos rfl, if_pos hx, if_pos rfl]; rfl
  · rw [if_neg (by omega), if_neg h]
theorem Bfs.add {n : Nat} {es : List (List Int)} {root : Int} {ord par : List Int} {i k : Nat} (hb : Bfs n es root ord par i k) (hed : edsOk n none es = true) (hi : i < ord.length) (hk : k < (near es (ord.getD i 0)).length)
    (hf : (near es (ord.getD i 0)).getD k 0 ∉ ord) : Bfs n es root (ord ++ [(near es (ord.getD i 0)).getD k 0]) (par.set ((near es (ord.getD i 0)).getD k 0).toNat (ord.getD i 0)) i (k + 1) := by
  have he : ∀ e ∈ es, EdIn n e := fun e h => (edsOk_in hed e h).1
  have hin := near_in he (getD_mem hk)
  have hmem := getD_mem hk
  have htk := List.take_succ_eq_append_getElem hk
  have hgk : (near es (ord.getD i 0))[k] = (near es (ord.getD i 0)).getD k 0 := getD_at hk
  rw [hgk] at htk
  generalize hw : (near es (ord.getD i 0)).getD k 0 = w at *
  have hpl := hb.pl
  have hol : ∀ t, t < ord.length → (ord ++ [w]).getD t 0 = ord.getD t 0 := fun t ht => by
    simp only [List.getD_eq_getElem?_getD]; rw [List.getElem?_append_left ht]
  have hlast : (ord ++ [w]).getD ord.length 0 = w := by simp [List.getD_eq_getElem?_getD]
  have hset : ∀ x ∈ ord, gI (par.set w.toNat (ord.getD i 0)) x = gI par x := fun x hx => by
    rw [set_gI hin.1 (by omega) (hb.inr x hx).1, if_neg (fun h => hf (by rw [← h]; exact hx))]
  have hne := hb.ne
  refine ⟨?_, fun x hx => ?_, by rw [List.length_set]; exact hpl, by simp, by rw [hol 0 hne]; exact hb.hd, ?_, fun t h0 ht => ?_, fun t ht x hx => ?_, fun x hx => ?_, by rw [List.length_append]; have := hb.ile; omega⟩
  · rw [List.nodup_append]
    refine ⟨hb.nd, by simp, fun a ha b hb' => ?_⟩
    rw [List.mem_singleton] at hb'
    rw [hb']
    exact fun h => hf (by rw [← h]; exact ha)
  · rcases List.mem_append.1 hx with hx | hx
    · exact hb.inr x hx
    · rw [List.mem_singleton] at hx; rw [hx]; exact hin
  · have hrm : root ∈ ord := by rw [← hb.hd]; exact getD_mem hne
    rw [hset root hrm]; exact hb.rp
  · rw [List.length_append, List.length_singleton] at ht
    by_cases htl : t = ord.length
    · refine ⟨i, by omega, Nat.le_refl _, ?_, ?_, fun _ => ?_⟩
      · rw [htl, hlast, hol i hi, set_gI hin.1 (by omega) hin.1, if_pos rfl]
      · rw [htl, hlast, hol i hi]; exact hmem
      · rw [htl, hlast, hol i hi, htk]; simp
    · obtain ⟨s, s1, s2, s3, s4, s5⟩ := hb.tree t h0 (by omega)
      refine ⟨s, s1, s2, ?_, ?_, fun hs => ?_⟩
      · rw [hol t (by omega), hol s (by omega), hset _ (getD_mem (by omega))]; exact s3
      · rw [hol t (by omega), hol s (by omega)]; exact s4
      · rw [hol t (by omega), hol i hi, htk]
        exact List.mem_append.2 (.inl (s5 hs))
  · rw [hol t (by omega)] at hx
    exact List.mem_append.2 (.inl (hb.done t ht x hx))
  · rw [hol i hi, htk] at hx
    rcases List.mem_append.1 hx with hx | hx
    · exact List.mem_append.2 (.inl (hb.cur x hx))
    · exact List.mem_append.2 (.inr hx)
theorem Bfs.skip {n : Nat} {es : List (List Int)} {root : Int} {ord par : List Int} {i k : Nat} (hb : Bfs n es root ord par i k) (hed : edsOk n none es = true) (hi : i < ord.length) (hk : k < (near es (ord.getD i 0)).length)
    (hw : (near es (ord.getD i 0)).getD k 0 = gI par (ord.getD i 0)) : Bfs n es root ord par i (k + 1) := by
  have he : ∀ e ∈ es, EdIn n e := fun e h => (edsOk_in hed e h).1
  have hin := near_in he (getD_mem hk)
  have htk := List.take_succ_eq_append_getElem hk
  have hgk : (near es (ord.getD i 0))[k] = (near es (ord.getD i 0)).getD k 0 := getD_at hk
  rw [hgk] at htk
  have hwm : (near es (ord.getD i 0)).getD k 0 ∈ ord := by
    by_cases h0 : i = 0
    · have h1 := hb.rp
      rw [← hb.hd] at h1
      rw [h0] at hw hin
      rw [hw] at hin
      omega
    · obtain ⟨s, s1, _, s3, _⟩ := hb.tree i (by omega) hi
      rw [hw, s3]
      exact getD_mem (by omega)
  refine ⟨hb.nd, hb.inr, hb.pl, hb.ne, hb.hd, hb.rp, fun t h0 ht => ?_, hb.done, fun x hx => ?_, hb.ile⟩
  · obtain ⟨s, s1, s2, s3, s4, s5⟩ := hb.tree t h0 ht
    exact ⟨s, s1, s2, s3, s4, fun hs => by rw [htk]; exact List.mem_append.2 (.inl (s5 hs))⟩
  · rw [htk] at hx
    rcases List.mem_append.1 hx with hx | hx
    · exact hb.cur x hx
    · rw [List.mem_singleton] at hx; rw [hx]; exact hwm
theorem Bfs.next {n : Nat} {es : List (List Int)} {root : Int} {ord par : List Int} {i k : Nat} (hb : Bfs n es root ord par i k) (hi : i < ord.length) (hk : (near es (ord.getD i 0)).length ≤ k) : Bfs n es root ord par (i + 1) 0 := by
  refine ⟨hb.nd, hb.inr, hb.pl, hb.ne, hb.hd, hb.rp, fun t h0 ht => ?_, fun t ht x hx => ?_, fun x hx => by simp at hx, by omega⟩
  · obtain ⟨s, s1, s2, s3, s4, s5⟩ := hb.tree t h0 ht
    exact ⟨s, s1, by omega, s3, s4, fun hs => by omega⟩
  · by_cases hti : t = i
    · have := hb.cur x
      rw [List.take_of_length_le hk] at this
      rw [hti] at hx
      exact this hx
    · exact hb.done t (by omega) x hx
theorem nodup_len : ∀ {n : Nat} (l : List Int), l.Nodup → (∀ x ∈ l, 0 ≤ x ∧ x < n) → l.length ≤ n
  | 0, l, _, hl => by
    cases l with
    | nil => simp
    | cons x l => have := hl x (by simp); omega
  | n + 1, l, hn, hl => by
    have h1 := nodup_len (n := n) (l.filter fun x => x != (n : Int)) (hn.filter _) (fun x hx => by
      have h2 := List.mem_filter.1 hx
      have h3 := hl x h2.1
      have h4 : x ≠ n := by simpa using h2.2
      omega)
    have h2 : ∀ l : List Int, l.Nodup → l.length ≤ (l.filter fun x => x != (n : Int)).length + 1 := by
      intro l
      induction l with
      | nil => simp
      | cons y l ih =>
        intro hy
        have hy2 := List.nodup_cons.1 hy
        have ih2 := ih hy2.2
        by_cases hyn : y = n
        · have h3 : (l.filter fun x => x != (n : Int)) = l := by
            rw [List.filter_eq_self]
            intro a ha
            have : a ≠ n := fun h => hy2.1 (by rw [hyn, ← h]; exact ha)
            simpa using this
          rw [List.filter_cons, hyn]
          simp [h3]
        · rw [List.filter_cons]
          simp [hyn]
          omega
    have h3 := h2 l hn
    omega
end Go.Ax
/-
  ComponentLabels: both sides, the law. No conditions but those of the contracts.
-/
set_option linter.all false
namespace Go.Ax
open Go.Proofs

end Go.Ax
/-
  ComponentLabels: labels by going through components; both sides, the law. No conditions but those of the contracts.
-/
set_option linter.all false
namespace Go.Ax
open Go.Proofs

theorem tab_setG {α : Type} (f : Nat → α) {n i : Nat} (x : α) (h : i < n) : (tab' f n).set i x = tab' (fun t => if t = i then x else f t) n := by
  apply List.ext_getElem?
  intro j
  rw [List.getElem?_set]
  by_cases hj : j < n
  · rw [tab_get? _ _ _ hj, tab_get? _ _ _ hj]
    by_cases h1 : i = j
    · rw [if_pos h1, if_pos (by rw [tab_len]; exact h), if_pos h1.symm]
    · rw [if_neg h1, if_neg (Ne.symm h1)]
  · rw [if_neg (by omega), List.getElem?_eq_none (by rw [tab_len]; omega), List.getElem?_eq_none (by rw [tab_len]; omega)]
end Go.Ax
/-
  The library's sort lies in this program as the shelf has it. No conditions.
-/
set_option linter.all false
set_option linter.all false
namespace Go.Proofs
open Go.Shelf
end Go.Proofs
/-
  slices.Sort at lists of numbers, out of the shelf's contract. No conditions but those of the contract.
-/
set_option linter.all false
namespace Go.Ax
open Go.Proofs Go.Sort Go.RowKit

end Go.Ax
/-
  Sorting in plain Lean: what is sorted; permutations. No conditions but those of the theorems.
-/
set_option linter.all false
namespace Go.Ax
open Go.Proofs

theorem perm_sub : ∀ (l l' : List Int), l.Nodup → (∀ x ∈ l, x ∈ l') → l'.length ≤ l.length → l.Perm l'
  | [], l', _, _, h => by
    have : l' = [] := List.eq_nil_of_length_eq_zero (by simpa using h)
    rw [this]
  | x :: t, l', hn, hs, hl => by
    obtain ⟨h1, h2⟩ := List.nodup_cons.1 hn
    have hx : x ∈ l' := hs x (by simp)
    have hp := List.perm_cons_erase hx
    have hlen := hp.length_eq
    refine (List.Perm.cons x (perm_sub t (l'.erase x) h2 (fun y hy => ?_) ?_)).trans hp.symm
    · refine (List.mem_erase_of_ne (fun e => h1 (by rw [← e]; exact hy))).2 (hs y (by simp [hy]))
    · simp only [List.length_cons] at hlen hl
      omega
theorem iota_pair (n : Nat) : (iota n).Pairwise (· < ·) := by
  rw [iota, tab', List.pairwise_map]
  exact List.pairwise_lt_range.imp fun h => by omega
theorem iota_mem {n : Nat} {x : Int} : x ∈ iota n ↔ 0 ≤ x ∧ x < n := by
  simp only [iota, tab', List.mem_map, List.mem_range]
  constructor
  · rintro ⟨k, hk, rfl⟩; omega
  · intro h; exact ⟨x.toNat, by omega, by omega⟩
def PmP (ls : List Int) : Prop := ∀ t : Nat, t < ls.length → (t : Int) ∈ ls
theorem PmP.perm {ls : List Int} (h : PmP ls) : (iota ls.length).Perm ls := by
  refine perm_sub _ _ ((iota_pair _).imp fun h => by omega) (fun x hx => ?_) (by rw [iota_len]; exact Nat.le_refl _)
  obtain ⟨h1, h2⟩ := iota_mem.1 hx
  have := h x.toNat (by omega)
  rwa [show ((x.toNat : Nat) : Int) = x by omega] at this
theorem PmP.inr {ls : List Int} (h : PmP ls) : ∀ k, k < ls.length → 0 ≤ ls.getD k 0 ∧ ls.getD k 0 < ls.length := fun k hk => by
  refine iota_mem.1 (h.perm.mem_iff.2 ?_)
  rw [List.getD_eq_getElem?_getD, List.getElem?_eq_getElem hk]
  exact List.getElem_mem _
theorem set_getD {α : Type} {l : List α} {i j : Nat} {x z : α} (hi : i < l.length) : (l.set i x).getD j z = if j = i then x else l.getD j z := by
  rw [List.getD_eq_getElem?_getD, List.getElem?_set, List.getD_eq_getElem?_getD]
  by_cases h : i = j
  · rw [if_pos h, if_pos hi, if_pos h.symm]; rfl
  · rw [if_neg h, if_neg (Ne.symm h)]
end Go.Ax
