/-
  The order in which the component of a vertex is gone through, in plain Lean. No conditions but those of the theorems.
-/
import Derived.Test.YtlbmgfiepmhjhaaGpp
set_option linter.all false
namespace Go.Ax
open Go.Proofs

def ltE (a b : List Int) : Prop := e0 a < e0 b ∨ (e0 a = e0 b ∧ e1 a < e1 b)
theorem ltE_of {a b : List Int} (ha : a.length = 2) (hb : b.length = 2) (h : lexLt a b = true) : ltE a b := by
  match a, b, ha, hb with
  | [x, y], [z, w], _, _ =>
    simp only [lexLt] at h
    simp only [ltE, e0, e1, List.getD_cons_zero, List.getD_cons_succ]
    by_cases h1 : x = z
    · simp [h1] at h
      omega
    · simp [h1] at h
      omega
theorem eds_pair {n : Nat} : ∀ (es : List (List Int)) (p : Option (List Int)), edsOk n p es = true → (∀ x, p = some x → x.length = 2 → ∀ e ∈ es, ltE x e) ∧ es.Pairwise ltE
  | [], _, _ => ⟨fun _ _ _ e he => (by cases he), List.Pairwise.nil⟩
  | e :: es, p, h => by
    simp only [edsOk, Bool.and_eq_true] at h
    have he := (edOk_in h.1).1.1
    obtain ⟨i1, i2⟩ := eds_pair es (some e) h.2
    have i3 := i1 e rfl he
    refine ⟨fun x hx hl f hf => ?_, List.pairwise_cons.2 ⟨i3, i2⟩⟩
    have h1 : ltE x e := by
      have h2 := h.1
      simp only [edOk, Bool.and_eq_true] at h2
      have h3 := h2.2
      rw [hx] at h3
      exact ltE_of hl he h3
    rcases List.mem_cons.1 hf with rfl | hf
    · exact h1
    · have := i3 f hf
      simp only [ltE] at h1 this ⊢
      omega
theorem near_sorted {n : Nat} {es : List (List Int)} (h : edsOk n none es = true) (v : Int) : (near es v).Pairwise (· < ·) := by
  have hp := (eds_pair es none h).2
  have hlt := fun e he => (edsOk_in h e he).2
  rw [near, List.pairwise_append]
  refine ⟨?_, ?_, ?_⟩
  · rw [nearA, List.pairwise_map]
    refine (hp.filter _).imp_of_mem (fun {a b} ha hb hab => ?_)
    have h1 := (List.mem_filter.1 ha).2
    have h2 := (List.mem_filter.1 hb).2
    simp only [beq_iff_eq] at h1 h2
    simp only [ltE] at hab
    omega
  · rw [nearB, List.pairwise_map]
    refine (hp.filter _).imp_of_mem (fun {a b} ha hb hab => ?_)
    have h1 := (List.mem_filter.1 ha).2
    have h2 := (List.mem_filter.1 hb).2
    simp only [beq_iff_eq] at h1 h2
    simp only [ltE] at hab
    omega
  · intro a ha b hb
    simp only [nearA, nearB, List.mem_map, List.mem_filter, beq_iff_eq] at ha hb
    obtain ⟨e, ⟨he, h1⟩, rfl⟩ := ha
    obtain ⟨f, ⟨hf, h2⟩, rfl⟩ := hb
    have := hlt e he
    have := hlt f hf
    omega
theorem near_nodup {n : Nat} {es : List (List Int)} (h : edsOk n none es = true) (v : Int) : (near es v).Nodup := (near_sorted h v).imp (fun h => by omega)
structure Bfs (n : Nat) (es : List (List Int)) (root : Int) (ord par : List Int) (i k : Nat) : Prop where
  nd : ord.Nodup
  inr : ∀ x ∈ ord, 0 ≤ x ∧ x < n
  pl : par.length = n
  ne : 0 < ord.length
  hd : ord.getD 0 0 = root
  rp : gI par root = -1
  tree : ∀ t, 0 < t → t < ord.length → ∃ s, s < t ∧ s ≤ i ∧ gI par (ord.getD t 0) = ord.getD s 0 ∧ ord.getD t 0 ∈ near es (ord.getD s 0) ∧ (s = i → ord.getD t 0 ∈ (near es (ord.getD i 0)).take k)
  done : ∀ t, t < i → ∀ x ∈ near es (ord.getD t 0), x ∈ ord
  cur : ∀ x ∈ (near es (ord.getD i 0)).take k, x ∈ ord
  ile : i ≤ ord.length
theorem getD_mem {l : List Int} {t : Nat} (h : t < l.length) : l.getD t 0 ∈ l := by
  rw [List.getD_eq_getElem?_getD, List.getElem?_eq_getElem h]; exact List.getElem_mem _
theorem getD_at {l : List Int} {k : Nat} (h : k < l.length) : l[k] = l.getD k 0 := by
  rw [List.getD_eq_getElem?_getD, List.getElem?_eq_getElem h]; rfl
theorem nodup_getD {l : List Int} (h : l.Nodup) {s t : Nat} (hs : s < l.length) (ht : t < l.length) (he : l.getD s 0 = l.getD t 0) : s = t := by
  have hp := List.pairwise_iff_getElem.1 h
  rcases Nat.lt_trichotomy s t with h1 | h1 | h1
  · have := hp s t hs ht h1
    rw [getD_at hs, getD_at ht] at this
    exact absurd he this
  · exact h1
  · have := hp t s ht hs h1
    rw [getD_at hs, getD_at ht] at this
    exact absurd he.symm this
theorem mem_at {l : List Int} {x : Int} (h : x ∈ l) : ∃ t, t < l.length ∧ l.getD t 0 = x := by
  obtain ⟨t, ht, rfl⟩ := List.mem_iff_getElem.1 h
  exact ⟨t, ht, by rw [List.getD_eq_getElem?_getD, List.getElem?_eq_getElem ht]; rfl⟩
theorem Bfs.start {n : Nat} {es : List (List Int)} {root : Int} (h : 0 ≤ root ∧ root < n) : Bfs n es root [root] (List.replicate n (-1)) 0 0 := by
  refine ⟨by simp, fun x hx => by rw [List.mem_singleton] at hx; rw [hx]; exact h, by simp, by simp, rfl, ?_, fun t h0 ht => by simp at ht; omega, fun t ht => absurd ht (by omega), fun x hx => by simp at hx, by simp⟩
  rw [gI, List.getD_eq_getElem?_getD, List.getElem?_replicate, if_pos (by omega)]; rfl
theorem Bfs.fresh {n : Nat} {es : List (List Int)} {root : Int} {ord par : List Int} {i k : Nat} (hb : Bfs n es root ord par i k) (hn : 0 < n) (hed : edsOk n none es = true) (ha : acy (iota n) es = true)
    (hi : i < ord.length) (hk : k < (near es (ord.getD i 0)).length) (hw : (near es (ord.getD i 0)).getD k 0 ≠ gI par (ord.getD i 0)) : (near es (ord.getD i 0)).getD k 0 ∉ ord := by
  intro hm
  obtain ⟨t, ht, hte⟩ := mem_at hm
  have he : ∀ e ∈ es, EdIn n e := fun e h => (edsOk_in hed e h).1
  generalize hw' : (near es (ord.getD i 0)).getD k 0 = w at hw hm hte
  generalize hu' : ord.getD i 0 = u at hw hw' hk
  have hwn : w ∈ near es u := by rw [← hw']; exact getD_mem hk
  obtain ⟨e, hee, hends⟩ := mem_near.1 hwn
  obtain ⟨r, hr, rfl⟩ : ∃ r, r < es.length ∧ es.getD r [] = e := by
    obtain ⟨r, hr, rfl⟩ := List.mem_iff_getElem.1 hee
    exact ⟨r, hr, by rw [List.getD_eq_getElem?_getD, List.getElem?_eq_getElem hr]; rfl⟩
  have hnu : u ∉ (near es u) := fun h => by
    obtain ⟨f, hf, h2⟩ := mem_near.1 h
    have := (edsOk_in hed f hf).2
    omega
  have hne : w ≠ u := fun h => hnu (by rw [← h] at hwn ⊢; exact hwn)
  -- all that is met hangs together without that edge
  have hc : ∀ s, s < ord.length → Cn (butE es r) root (ord.getD s 0) := by
    intro s
    induction s using Nat.strongRecOn with
    | ind s ih =>
      intro hs
      by_cases h0 : s = 0
      · rw [h0, hb.hd]; exact .refl _
      · obtain ⟨p, p1, p2, p3, p4, p5⟩ := hb.tree s (by omega) hs
        refine .tail (ih p p1 (by omega)) ?_
        rcases near_snoc.1 ((near_but hr).2 p4) with h | h
        · exact h
        · exfalso
          have hpu : (ord.getD p 0 = u ∧ ord.getD s 0 = w) ∨ (ord.getD p 0 = w ∧ ord.getD s 0 = u) := by omega
          rcases hpu with ⟨h1, h2⟩ | ⟨h1, h2⟩
          · have hpi : p = i := nodup_getD hb.nd (by omega) hi (by rw [h1, hu'])
            have h3 := p5 hpi
            rw [hu', h2] at h3
            obtain ⟨q, hq, hqe⟩ := List.mem_take_iff_getElem.1 h3
            have : q = k := by
              refine nodup_getD (near_nodup hed u) (by omega) hk ?_
              rw [hw', List.getD_eq_getElem?_getD, List.getElem?_eq_getElem (by omega)]
              exact hqe
            omega
          · rw [h2, h1] at p3
            exact hw p3.symm
  have c1 := hc t ht
  have c2 := hc i hi
  rw [hte] at c1
  rw [hu'] at c2
  have c3 : Cn (butE es r) w u := c1.symm.trans c2
  refine forest hn he ha hr ?_
  rcases hends with ⟨h1, h2⟩ | ⟨h1, h2⟩
  · rw [h1, h2]; exact c3
  · rw [h1, h2]; exact c3.symm
theorem set_gI {l : List Int} {x y v : Int} (h0 : 0 ≤ x) (hx : x.toNat < l.length) (hy : 0 ≤ y) : gI (l.set x.toNat v) y = if y = x then v else gI l y := by
  simp only [gI, List.getD_eq_getElem?_getD, List.getElem?_set]
  by_cases h : y = x
  · rw [h, if_pos rfl, if_pos hx, if_pos rfl]; rfl
  · rw [if_neg (by omega), if_neg h]
theorem Bfs.add {n : Nat} {es : List (List Int)} {root : Int} {ord par : List Int} {i k : Nat} (hb : Bfs n es root ord par i k) (hed : edsOk n none es = true) (hi : i < ord.length) (hk : k < (near es (ord.getD i 0)).length)
    (hf : (near es (ord.getD i 0)).getD k 0 ∉ ord) : Bfs n es root (ord ++ [(near es (ord.getD i 0)).getD k 0]) (par.set ((near es (ord.getD i 0)).getD k 0).toNat (ord.getD i 0)) i (k + 1) := by
  have he : ∀ e ∈ es, EdIn n e := fun e h => (edsOk_in hed e h).1
  have hin := near_in he (getD_mem hk)
  have hmem := getD_mem hk
  have htk := List.take_succ_eq_append_getElem hk
  have hgk : (near es (ord.getD i 0))[k] = (near es (ord.getD i 0)).getD k 0 := getD_at hk
  rw [hgk] at htk
  generalize hw : (near es (ord.getD i 0)).getD k 0 = w at *
  have hpl := hb.pl
  have hol : ∀ t, t < ord.length → (ord ++ [w]).getD t 0 = ord.getD t 0 := fun t ht => by
    simp only [List.getD_eq_getElem?_getD]; rw [List.getElem?_append_left ht]
  have hlast : (ord ++ [w]).getD ord.length 0 = w := by simp [List.getD_eq_getElem?_getD]
  have hset : ∀ x ∈ ord, gI (par.set w.toNat (ord.getD i 0)) x = gI par x := fun x hx => by
    rw [set_gI hin.1 (by omega) (hb.inr x hx).1, if_neg (fun h => hf (by rw [← h]; exact hx))]
  have hne := hb.ne
  refine ⟨?_, fun x hx => ?_, by rw [List.length_set]; exact hpl, by simp, by rw [hol 0 hne]; exact hb.hd, ?_, fun t h0 ht => ?_, fun t ht x hx => ?_, fun x hx => ?_, by rw [List.length_append]; have := hb.ile; omega⟩
  · rw [List.nodup_append]
    refine ⟨hb.nd, by simp, fun a ha b hb' => ?_⟩
    rw [List.mem_singleton] at hb'
    rw [hb']
    exact fun h => hf (by rw [← h]; exact ha)
  · rcases List.mem_append.1 hx with hx | hx
    · exact hb.inr x hx
    · rw [List.mem_singleton] at hx; rw [hx]; exact hin
  · have hrm : root ∈ ord := by rw [← hb.hd]; exact getD_mem hne
    rw [hset root hrm]; exact hb.rp
  · rw [List.length_append, List.length_singleton] at ht
    by_cases htl : t = ord.length
    · refine ⟨i, by omega, Nat.le_refl _, ?_, ?_, fun _ => ?_⟩
      · rw [htl, hlast, hol i hi, set_gI hin.1 (by omega) hin.1, if_pos rfl]
      · rw [htl, hlast, hol i hi]; exact hmem
      · rw [htl, hlast, hol i hi, htk]; simp
    · obtain ⟨s, s1, s2, s3, s4, s5⟩ := hb.tree t h0 (by omega)
      refine ⟨s, s1, s2, ?_, ?_, fun hs => ?_⟩
      · rw [hol t (by omega), hol s (by omega), hset _ (getD_mem (by omega))]; exact s3
      · rw [hol t (by omega), hol s (by omega)]; exact s4
      · rw [hol t (by omega), hol i hi, htk]
        exact List.mem_append.2 (.inl (s5 hs))
  · rw [hol t (by omega)] at hx
    exact List.mem_append.2 (.inl (hb.done t ht x hx))
  · rw [hol i hi, htk] at hx
    rcases List.mem_append.1 hx with hx | hx
    · exact List.mem_append.2 (.inl (hb.cur x hx))
    · exact List.mem_append.2 (.inr hx)
theorem Bfs.skip {n : Nat} {es : List (List Int)} {root : Int} {ord par : List Int} {i k : Nat} (hb : Bfs n es root ord par i k) (hed : edsOk n none es = true) (hi : i < ord.length) (hk : k < (near es (ord.getD i 0)).length)
    (hw : (near es (ord.getD i 0)).getD k 0 = gI par (ord.getD i 0)) : Bfs n es root ord par i (k + 1) := by
  have he : ∀ e ∈ es, EdIn n e := fun e h => (edsOk_in hed e h).1
  have hin := near_in he (getD_mem hk)
  have htk := List.take_succ_eq_append_getElem hk
  have hgk : (near es (ord.getD i 0))[k] = (near es (ord.getD i 0)).getD k 0 := getD_at hk
  rw [hgk] at htk
  have hwm : (near es (ord.getD i 0)).getD k 0 ∈ ord := by
    by_cases h0 : i = 0
    · have h1 := hb.rp
      rw [← hb.hd] at h1
      rw [h0] at hw hin
      rw [hw] at hin
      omega
    · obtain ⟨s, s1, _, s3, _⟩ := hb.tree i (by omega) hi
      rw [hw, s3]
      exact getD_mem (by omega)
  refine ⟨hb.nd, hb.inr, hb.pl, hb.ne, hb.hd, hb.rp, fun t h0 ht => ?_, hb.done, fun x hx => ?_, hb.ile⟩
  · obtain ⟨s, s1, s2, s3, s4, s5⟩ := hb.tree t h0 ht
    exact ⟨s, s1, s2, s3, s4, fun hs => by rw [htk]; exact List.mem_append.2 (.inl (s5 hs))⟩
  · rw [htk] at hx
    rcases List.mem_append.1 hx with hx | hx
    · exact hb.cur x hx
    · rw [List.mem_singleton] at hx; rw [hx]; exact hwm
theorem Bfs.next {n : Nat} {es : List (List Int)} {root : Int} {ord par : List Int} {i k : Nat} (hb : Bfs n es root ord par i k) (hi : i < ord.length) (hk : (near es (ord.getD i 0)).length ≤ k) : Bfs n es root ord par (i + 1) 0 := by
  refine ⟨hb.nd, hb.inr, hb.pl, hb.ne, hb.hd, hb.rp, fun t h0 ht => ?_, fun t ht x hx => ?_, fun x hx => by simp at hx, by omega⟩
  · obtain ⟨s, s1, s2, s3, s4, s5⟩ := hb.tree t h0 ht
    exact ⟨s, s1, by omega, s3, s4, fun hs => by omega⟩
  · by_cases hti : t = i
    · have := hb.cur x
      rw [List.take_of_length_le hk] at this
      rw [hti] at hx
      exact this hx
    · exact hb.done t (by omega) x hx
theorem Bfs.full {n : Nat} {es : List (List Int)} {root : Int} {ord par : List Int} {i k : Nat} (hb : Bfs n es root ord par i k) (hi : ord.length ≤ i) (x : Int) : x ∈ ord ↔ Cn es root x := by
  constructor
  · intro hx
    obtain ⟨t, ht, rfl⟩ := mem_at hx
    clear hx
    induction t using Nat.strongRecOn with
    | ind t ih =>
      by_cases h0 : t = 0
      · rw [h0, hb.hd]; exact .refl _
      · obtain ⟨s, s1, _, _, s4, _⟩ := hb.tree t (by omega) ht
        exact .tail (ih s s1 (by omega)) s4
  · intro h
    induction h with
    | refl => rw [← hb.hd]; exact getD_mem hb.ne
    | tail _ hw ih =>
      obtain ⟨t, ht, rfl⟩ := mem_at ih
      exact hb.done t (by omega) _ hw
theorem nodup_len : ∀ {n : Nat} (l : List Int), l.Nodup → (∀ x ∈ l, 0 ≤ x ∧ x < n) → l.length ≤ n
  | 0, l, _, hl => by
    cases l with
    | nil => simp
    | cons x l => have := hl x (by simp); omega
  | n + 1, l, hn, hl => by
    have h1 := nodup_len (n := n) (l.filter fun x => x != (n : Int)) (hn.filter _) (fun x hx => by
      have h2 := List.mem_filter.1 hx
      have h3 := hl x h2.1
      have h4 : x ≠ n := by simpa using h2.2
      omega)
    have h2 : ∀ l : List Int, l.Nodup → l.length ≤ (l.filter fun x => x != (n : Int)).length + 1 := by
      intro l
      induction l with
      | nil => simp
      | cons y l ih =>
        intro hy
        have hy2 := List.nodup_cons.1 hy
        have ih2 := ih hy2.2
        by_cases hyn : y = n
        · have h3 : (l.filter fun x => x != (n : Int)) = l := by
            rw [List.filter_eq_self]
            intro a ha
            have : a ≠ n := fun h => hy2.1 (by rw [hyn, ← h]; exact ha)
            simpa using this
          rw [List.filter_cons, hyn]
          simp [h3]
        · rw [List.filter_cons]
          simp [hyn]
          omega
    have h3 := h2 l hn
    omega
end Go.Ax
