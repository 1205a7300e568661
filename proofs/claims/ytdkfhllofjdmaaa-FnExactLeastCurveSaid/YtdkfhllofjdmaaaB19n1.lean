import Derived.Test.YtdkfhllofjdmaaaB10n1
import Derived.Test.YtdkfhllofjdmaaaB18n1
import Derived.Test.YtdkfhllofjdmaaaB02n1
import Derived.Sort.Row
import Derived.Test.YtdkfhllofjdmaaaB07n1
import Derived.Test.YtdkfhllofjdmaaaB11n1
/-
  Curves renumbered so that they are another one, or least, in plain Lean. No conditions but those of the theorems.
-/
set_option linter.all false
namespace Go.Ax
open Go.Proofs

def keyB (bs : List (List Int)) : List Int := (bs.map fun b => (b.length : Int) :: b).flatten
def keyC (bs ms : List (List Int)) : List Int := keyB bs ++ ms.flatten
theorem flat_inj {n : Nat} : ∀ ms ms' : List (List Int), ms.length = ms'.length → (∀ r ∈ ms, r.length = n) → (∀ r ∈ ms', r.length = n) → ms.flatten = ms'.flatten → ms = ms'
  | [], [], _, _, _, _ => rfl
  | [], _ :: _, h, _, _, _ => by simp at h
  | _ :: _, [], h, _, _, _ => by simp at h
  | r :: ms, r' :: ms', hl, h1, h2, h => by
    rw [List.flatten_cons, List.flatten_cons] at h
    obtain ⟨e1, e2⟩ := List.append_inj h (by rw [h1 r (by simp), h2 r' (by simp)])
    rw [e1, flat_inj ms ms' (by simpa using hl) (fun x hx => h1 x (by simp [hx])) (fun x hx => h2 x (by simp [hx])) e2]
theorem keyB_inj : ∀ (bs bs' : List (List Int)) (u u' : List Int), bs.length = bs'.length → keyB bs ++ u = keyB bs' ++ u' → bs = bs' ∧ u = u'
  | [], [], _, _, _, h => ⟨rfl, h⟩
  | [], _ :: _, _, _, h, _ => by simp at h
  | _ :: _, [], _, _, h, _ => by simp at h
  | b :: bs, b' :: bs', u, u', hl, h => by
    have e : ∀ (b : List Int) bs u, keyB (b :: bs) ++ u = (b.length : Int) :: (b ++ (keyB bs ++ u)) := fun b bs u => by simp [keyB]
    rw [e, e] at h
    obtain ⟨h1, h2⟩ := List.cons.inj h
    obtain ⟨e1, e2⟩ := List.append_inj h2 (by omega)
    obtain ⟨e3, e4⟩ := keyB_inj bs bs' u u' (by simpa using hl) e2
    exact ⟨by rw [e1, e3], e4⟩
theorem keyC_inj {n : Nat} {bs ms bs' ms' : List (List Int)} (h1 : bs.length = bs'.length) (h2 : ms.length = ms'.length) (h3 : ∀ r ∈ ms, r.length = n) (h4 : ∀ r ∈ ms', r.length = n) (h : keyC bs ms = keyC bs' ms') : bs = bs' ∧ ms = ms' := by
  obtain ⟨e1, e2⟩ := keyB_inj bs bs' _ _ h1 h
  exact ⟨e1, flat_inj ms ms' h2 h3 h4 e2⟩
theorem partM_len (ms : List (List Int)) (l : List Int) : (partM ms l).length = l.length := List.length_map _
theorem partM_row {ms : List (List Int)} {l r : List Int} (h : r ∈ partM ms l) : r.length = l.length := by
  obtain ⟨i, _, rfl⟩ := List.mem_map.1 h
  exact List.length_map _
theorem partB_get {bs : List (List Int)} {l : List Int} {j : Nat} (h : j < l.length) : (partB bs l).getD j [] = bs.getD (l.getD j 0).toNat [] := by
  rw [partB, List.getD_eq_getElem?_getD, List.getElem?_map, List.getElem?_eq_getElem h]
  simp [List.getD_eq_getElem?_getD, List.getElem?_eq_getElem h]
theorem partM_get {ms : List (List Int)} {l : List Int} {j k : Nat} (h : j < l.length) (h2 : k < l.length) : mm (partM ms l) j k = mm ms (l.getD j 0).toNat (l.getD k 0).toNat := by
  rw [mm, partM, List.getD_eq_getElem?_getD (l := List.map _ _), List.getElem?_map, List.getElem?_eq_getElem h]
  simp only [Option.map_some, Option.getD_some]
  rw [List.getD_eq_getElem?_getD, List.getElem?_map, List.getElem?_eq_getElem h2]
  simp [List.getD_eq_getElem?_getD, List.getElem?_eq_getElem h, List.getElem?_eq_getElem h2]
theorem part_key {n : Nat} {bs ms : List (List Int)} {q q' : List Int} (h : q.length = n) (h' : q'.length = n) (hk : keyC (partB bs q) (partM ms q) = keyC (partB bs q') (partM ms q')) : partB bs q = partB bs q' ∧ partM ms q = partM ms q' :=
  keyC_inj (n := n) (by rw [partB_len, partB_len, h, h']) (by rw [partM_len, partM_len, h, h']) (fun r hr => by rw [partM_row hr, h]) (fun r hr => by rw [partM_row hr, h']) hk
theorem mat_ext {ms ns : List (List Int)} {n : Nat} (h1 : ms.length = n) (h2 : ns.length = n) (h3 : ∀ i, i < n → (ms.getD i []).length = n) (h4 : ∀ i, i < n → (ns.getD i []).length = n) (h : ∀ i k, i < n → k < n → mm ms i k = mm ns i k) : ms = ns :=
  getD_ext [] h1 h2 fun j hj => getD_ext 0 (h3 j hj) (h4 j hj) fun k hk => h j k hj hk
theorem LeastG.congr {G G' : List Int → Prop} {n : Nat} {r : List Int} (h : ∀ q, q.Perm (iota n) → (G q ↔ G' q)) (hr : LeastG G n r) : LeastG G' n r := by
  rcases hr with ⟨e, h1⟩ | ⟨h1, h2, h3⟩
  · exact .inl ⟨e, fun q hq hG => h1 q hq ((h q hq).2 hG)⟩
  · exact .inr ⟨h1, (h r h1).1 h2, fun q hq hG => h3 q hq ((h q hq).2 hG)⟩
theorem ordP_pm {q : List Int} (h : PmP q) : PmP (ordP q) := fun t ht => by
  rw [ordP_len] at ht
  have h1 := ordP_at h ht
  have h2 := h.inr t ht
  rw [← h1, List.getD_eq_getElem?_getD, List.getElem?_eq_getElem (by rw [ordP_len]; omega)]
  exact List.getElem_mem _
theorem ordP_ordP {q : List Int} (h : PmP q) : ordP (ordP q) = q := by
  refine getD_ext 0 (by rw [ordP_len, ordP_len]) rfl fun j hj => ?_
  have h1 := ordP_at h hj
  have h2 := h.inr j hj
  have h3 := ordP_at (ordP_pm h) (t := (q.getD j 0).toNat) (by rw [ordP_len]; omega)
  rw [h1, Int.toNat_natCast] at h3
  rw [h3]
  omega
theorem ordP_iota (n : Nat) : ordP (iota n) = iota n := by
  have hp := (iota_pm (List.Perm.refl (iota n))).1
  refine getD_ext 0 (n := n) (by rw [ordP_len, iota_len]) (iota_len n) fun j hj => ?_
  have h1 := ordP_at hp (t := j) (by rw [iota_len]; exact hj)
  rw [iota_get _ _ hj, Int.toNat_natCast] at h1
  rw [h1, iota_get _ _ hj]
theorem part_iota {bs ms : List (List Int)} {n : Nat} (hb : bs.length = n) (hm : TabP ms n) : partB bs (iota n) = bs ∧ partM ms (iota n) = ms := by
  refine ⟨getD_ext [] (by rw [partB_len, iota_len]) hb fun j hj => ?_, mat_ext (n := n) (by rw [partM_len, iota_len]) hm.len (fun i hi => ?_) (fun i hi => (hm.row i hi).1) fun i k hi hk => ?_⟩
  · rw [partB_get (by rw [iota_len]; exact hj), iota_get _ _ hj, Int.toNat_natCast]
  · refine (partM_row (ms := ms) (l := iota n) ?_).trans (iota_len n)
    rw [List.getD_eq_getElem?_getD, List.getElem?_eq_getElem (by rw [partM_len, iota_len]; exact hi)]
    exact List.getElem_mem _
  · rw [partM_get (by rw [iota_len]; exact hi) (by rw [iota_len]; exact hk), iota_get _ _ hi, iota_get _ _ hk, Int.toNat_natCast, Int.toNat_natCast]
def kP (bs ms : List (List Int)) (q : List Int) : List Int := keyC (partB bs q) (partM ms q)
def LeastC (bs ms : List (List Int)) (n : Nat) (R : List (List Int) × List (List Int)) : Prop :=
  (∃ q, q.Perm (iota n) ∧ R = (partB bs q, partM ms q)) ∧ ∀ q, q.Perm (iota n) → lexLt (kP bs ms q) (keyC R.1 R.2) = false
theorem LeastC.unique {bs ms : List (List Int)} {n : Nat} {R R' : List (List Int) × List (List Int)} (h : LeastC bs ms n R) (h' : LeastC bs ms n R') : R = R' := by
  obtain ⟨⟨q, hq, rfl⟩, h⟩ := h
  obtain ⟨⟨q', hq', rfl⟩, h'⟩ := h'
  have e := lexLt_tri _ _ (h' q hq) (h q' hq')
  obtain ⟨e1, e2⟩ := part_key (n := n) (by rw [hq.length_eq, iota_len]) (by rw [hq'.length_eq, iota_len]) e
  rw [e1, e2]
def leastC (bs ms : List (List Int)) (n : Nat) : Nat → List Int → List (List Int) × List (List Int) → List (List Int) × List (List Int)
  | 0, p, B => if lexLt (kP bs ms p) (keyC B.1 B.2) then (partB bs p, partM ms p) else B
  | m + 1, p, B => (List.range n).foldl (fun B (y : Nat) => if p.contains (y : Int) then B else leastC bs ms n m (p ++ [(y : Int)]) B) B
def leastL (bs ms : List (List Int)) (n m : Nat) (p : List Int) (B : List (List Int) × List (List Int)) (k : Nat) : List (List Int) × List (List Int) := (List.range k).foldl (fun B (y : Nat) => if p.contains (y : Int) then B else leastC bs ms n m (p ++ [(y : Int)]) B) B
theorem leastL_succ (bs ms : List (List Int)) (n m : Nat) (p : List Int) (B : List (List Int) × List (List Int)) (k : Nat) :
    leastL bs ms n m p B (k + 1) = if p.contains (k : Int) then leastL bs ms n m p B k else leastC bs ms n m (p ++ [(k : Int)]) (leastL bs ms n m p B k) := by
  rw [leastL, List.range_succ, List.foldl_append]
  rfl
theorem lex_le_trans {a b c : List Int} (h1 : lexLt b a = false) (h2 : lexLt c b = false) : lexLt c a = false := lexLt_ntrans c b a h2 h1
def LC (bs ms : List (List Int)) (n : Nat) (P : List Int → Prop) (B R : List (List Int) × List (List Int)) : Prop :=
  (R = B ∨ ∃ q, q.Perm (iota n) ∧ R = (partB bs q, partM ms q)) ∧ lexLt (keyC B.1 B.2) (keyC R.1 R.2) = false ∧ ∀ q, q.Perm (iota n) → P q → lexLt (kP bs ms q) (keyC R.1 R.2) = false
theorem LC.trans {bs ms : List (List Int)} {n : Nat} {P P' : List Int → Prop} {B R S : List (List Int) × List (List Int)} (h : LC bs ms n P B R) (h' : LC bs ms n P' R S) : LC bs ms n (fun q => P q ∨ P' q) B S := by
  obtain ⟨a1, a2, a3⟩ := h
  obtain ⟨b1, b2, b3⟩ := h'
  refine ⟨?_, lex_le_trans b2 a2, fun q hq hP => ?_⟩
  · rcases b1 with rfl | b1
    · exact a1
    · exact .inr b1
  · rcases hP with hP | hP
    · exact lex_le_trans b2 (a3 q hq hP)
    · exact b3 q hq hP
theorem leastC_spec {bs ms : List (List Int)} {n : Nat} : ∀ (m : Nat) (p : List Int) (B : List (List Int) × List (List Int)), p.length + m = n → p.Nodup → (∀ x ∈ p, 0 ≤ x ∧ x < n) → LC bs ms n (fun q => ∃ s, q = p ++ s) B (leastC bs ms n m p B)
  | 0, p, B, hl, hd, hin => by
    have hp := full_perm hd hin (by omega)
    have hs : ∀ s, (p ++ s).Perm (iota n) → p ++ s = p := fun s hs => by
      have h1 := hs.length_eq
      rw [List.length_append, iota_len] at h1
      have : s = [] := List.eq_nil_of_length_eq_zero (by omega)
      rw [this, List.append_nil]
    rw [leastC]
    by_cases h : lexLt (kP bs ms p) (keyC B.1 B.2) = true
    · rw [if_pos h]
      refine ⟨.inr ⟨p, hp, rfl⟩, ?_, ?_⟩
      · cases h2 : lexLt (keyC B.1 B.2) (keyC (partB bs p) (partM ms p)) with
        | false => rfl
        | true =>
          have := lexLt_trans _ _ _ h h2
          rw [kP, lexLt_irrefl] at this
          cases this
      · rintro q hq ⟨s, rfl⟩
        rw [hs s hq]
        exact lexLt_irrefl _
    · rw [if_neg h]
      refine ⟨.inl rfl, lexLt_irrefl _, ?_⟩
      rintro q hq ⟨s, rfl⟩
      rw [hs s hq]
      simpa using h
  | m + 1, p, B, hl, hd, hin => by
    have key : ∀ k, k ≤ n → LC bs ms n (fun q => ∃ (t : Nat) (s : List Int), t < k ∧ (t : Int) ∉ p ∧ q = p ++ (t : Int) :: s) B (leastL bs ms n m p B k) := by
      intro k
      induction k with
      | zero => exact fun _ => ⟨.inl rfl, lexLt_irrefl _, fun q _ ⟨t, s, ht, _⟩ => absurd ht (by omega)⟩
      | succ k ih =>
        intro hk
        have h1 := ih (by omega)
        rw [leastL_succ]
        by_cases h : p.contains (k : Int) = true
        · rw [if_pos h]
          obtain ⟨a1, a2, a3⟩ := h1
          refine ⟨a1, a2, ?_⟩
          rintro q hq ⟨t, s, ht, htp, rfl⟩
          refine a3 _ hq ⟨t, s, ?_, htp, rfl⟩
          have : t ≠ k := fun e => htp (by rw [e]; simpa using h)
          omega
        · rw [if_neg h]
          have hkp : (k : Int) ∉ p := by simpa using h
          obtain ⟨o1, o2⟩ := snoc_ok hd hin (show k < n by omega) hkp
          have h2 := h1.trans (leastC_spec (bs := bs) (ms := ms) m (p ++ [(k : Int)]) (leastL bs ms n m p B k) (by rw [List.length_append]; simp; omega) o1 o2)
          obtain ⟨a1, a2, a3⟩ := h2
          refine ⟨a1, a2, ?_⟩
          rintro q hq ⟨t, s, ht, htp, rfl⟩
          refine a3 _ hq ?_
          by_cases e : t = k
          · subst e
            exact .inr ⟨s, by simp⟩
          · exact .inl ⟨t, s, by omega, htp, rfl⟩
    have h1 := key n (Nat.le_refl _)
    obtain ⟨a1, a2, a3⟩ := h1
    refine ⟨a1, a2, ?_⟩
    rintro q hq ⟨s, rfl⟩
    obtain ⟨t, s', ht, rfl, htp⟩ := ext_next hq (by omega)
    exact a3 _ hq ⟨t, s', ht, htp, rfl⟩
theorem leastC_least {bs ms : List (List Int)} {n : Nat} : LeastC bs ms n (leastC bs ms n n [] (partB bs (iota n), partM ms (iota n))) := by
  obtain ⟨a1, a2, a3⟩ := leastC_spec (bs := bs) (ms := ms) (n := n) n [] (partB bs (iota n), partM ms (iota n)) (by simp) .nil (fun x hx => by cases hx)
  refine ⟨?_, fun q hq => a3 q hq ⟨q, rfl⟩⟩
  rcases a1 with a1 | a1
  · exact ⟨iota n, .refl _, a1⟩
  · exact a1
def LeastU (bs ms : List (List Int)) (n : Nat) (p : List Int) (R : List (List Int) × List (List Int)) : Prop :=
  (∃ q, q.Perm (iota n) ∧ R = (partB bs (ordP q), partM ms (ordP q))) ∧ ∀ q, q.Perm (iota n) → (lexLt q p = true ∨ q = p) → lexLt (kP bs ms (ordP q)) (keyC R.1 R.2) = false
theorem LeastU.start {bs ms : List (List Int)} {n : Nat} (hb : bs.length = n) (hm : TabP ms n) : LeastU bs ms n (iota n) (bs, ms) := by
  obtain ⟨e1, e2⟩ := part_iota hb hm
  refine ⟨⟨iota n, .refl _, by rw [ordP_iota, e1, e2]⟩, fun q hq h => ?_⟩
  rcases h with h | rfl
  · rw [iota_least hq] at h; cases h
  · rw [ordP_iota, kP, e1, e2]; exact lexLt_irrefl _
theorem LeastU.next {bs ms : List (List Int)} {n : Nat} {p : List Int} {R : List (List Int) × List (List Int)} (h : LeastU bs ms n p R) (hp : p.Perm (iota n)) (hb : npB p = true) :
    LeastU bs ms n (npL p) (if lexLt (kP bs ms (ordP (npL p))) (keyC R.1 R.2) then (partB bs (ordP (npL p)), partM ms (ordP (npL p))) else R) := by
  have hp' := np_perm hp hb
  obtain ⟨a1, a2⟩ := h
  by_cases hc : lexLt (kP bs ms (ordP (npL p))) (keyC R.1 R.2) = true
  · rw [if_pos hc]
    refine ⟨⟨npL p, hp', rfl⟩, fun q hq h => ?_⟩
    rcases h with h | rfl
    · rw [np_step hp hb hq] at h
      have h1 := a2 q hq h
      cases h2 : lexLt (kP bs ms (ordP q)) (keyC (partB bs (ordP (npL p))) (partM ms (ordP (npL p)))) with
      | false => rfl
      | true => rw [lexLt_trans _ _ _ h2 hc] at h1; cases h1
    · exact lexLt_irrefl _
  · rw [if_neg hc]
    refine ⟨a1, fun q hq h => ?_⟩
    rcases h with h | rfl
    · exact a2 q hq ((np_step hp hb hq).1 h)
    · simpa using hc
theorem LeastU.least {bs ms : List (List Int)} {n : Nat} {p : List Int} {R : List (List Int) × List (List Int)} (h : LeastU bs ms n p R) (hp : p.Perm (iota n)) (hb : npB p = false) : LeastC bs ms n R := by
  obtain ⟨⟨q, hq, rfl⟩, a2⟩ := h
  obtain ⟨k1, k2⟩ := iota_pm hq
  refine ⟨⟨ordP q, pm_iota (ordP_pm k1) (by rw [ordP_len, k2]), rfl⟩, fun q' hq' => ?_⟩
  obtain ⟨k3, k4⟩ := iota_pm hq'
  have hq2 : (ordP q').Perm (iota n) := pm_iota (ordP_pm k3) (by rw [ordP_len, k4])
  have h1 := a2 (ordP q') hq2 (np_last hp hb hq2)
  rwa [ordP_ordP k3] at h1
end Go.Ax
/-
  A row of numbers in the world. No conditions but those of the theorems.
-/
set_option linter.all false
namespace Go.Ax
open Go.Proofs Go.Sort Go.RowKit

theorem toArr {xs : List Int} {j : Nat} (h : j < xs.length) : xs.toArray[j]! = xs.getD j 0 := by
  rw [getElem!_pos xs.toArray j (by simpa using h)]
  simp [List.getD_eq_getElem?_getD, List.getElem?_eq_getElem h]
theorem cz1 : Try.prog.cellsOf 2 = 1 := by kernel_rfl
theorem rep_int {cz : TypeId → Nat} {w : World} {F O : Nat → Prop} {k : IntKind} {n : Int} {cs : List Value} (h : Rep cz w F (.int k n) cs O) : cs = [.int k n] := by
  cases h
  rfl
theorem heap_putRow {w : World} {blk : Nat} {cur : Array Value} {t : TypeId} {fz : Nat × Nat} (hb : w.heap[blk]? = some (.cells cur t fz)) (d : Array Int) :
    (putRow (Value.int .i64) w blk 0 d).heap[blk]? = some (.cells (putCells (Value.int .i64) 0 d cur) t fz) := by
  simp [putRow, mapBlock, Array.getElem?_modify, hb, onCells]
theorem heap_putRow_ne {w : World} {blk k : Nat} (hk : k ≠ blk) (d : Array Int) : (putRow (Value.int .i64) w blk 0 d).heap[k]? = w.heap[k]? := by
  simp [putRow, mapBlock, Array.getElem?_modify, Ne.symm hk]
end Go.Ax
/-
  The next permutation of a list: its contract. Conditions: a list of at least one and at most 1000 numbers.
-/
set_option linter.all false
namespace Go.Ax
open Go.Proofs Go.Sort Go.RowKit

theorem npS_len (d : List Int) (i k : Nat) : (npS d i k).length = d.length := by rw [npS, List.length_set, List.length_set]
theorem npL_len (d : List Int) : (npL d).length = d.length := by
  rw [npL, npStep]
  cases npI d (d.length - 1) with
  | zero => rfl
  | succ j =>
    show (npR _ _).length = _
    rw [npR, List.length_append, List.length_reverse, List.length_take, List.length_drop, npS_len]
    omega
def f_np1 (a : List V) : List V := I (npL (unI a))
def f_np0 (a : List V) : Bool := npB (unI a)
def q_np (a : List V) : Prop := ∃ xs, a = I xs ∧ 1 ≤ xs.length ∧ xs.length ≤ 1000
def ic_np (f0 : List V → Bool) (f1 : List V → List V) (q : List V → Prop) : IContract := fun
  | [.slc true 2 (.int .i64 0) a0] => some ([q a0], .bool (f0 a0), .slc true 2 (.int .i64 0) (f1 a0))
  | _ => none
theorem s_next : SatI Try.prog 28 0 (ic_np f_np0 f_np1 q_np) := by
  intro args ps r y h hp
  unfold ic_np at h
  split at h
  · rename_i a0
    simp only [Option.some.injEq, Prod.mk.injEq] at h
    obtain ⟨rfl, rfl, rfl⟩ := h
    obtain ⟨xs, hxs, hx1, hx2⟩ : q_np a0 := (alls_cons.1 hp).1
    have hxl : a0.length = xs.length := by rw [hxs, I_length]
    have hf1 : f_np1 a0 = I (npL xs) := by rw [f_np1, hxs, unI_I]
    have hf0 : f_np0 a0 = npB xs := by rw [f_np0, hxs, unI_I]
    refine ⟨⟨_, Try.func28, by kernel_rfl, rfl⟩, ⟨_, rfl, by rw [hxs, f_np1, unI_I]; exact Sh.ints (npL_len xs).symm, fun h => absurd h (by decide)⟩, fun vals w F Oj css hsz hv hF hO => ?_⟩
    obtain ⟨hreg, hrep⟩ := hv 0 _ rfl
    rw [if_pos rfl] at hrep
    have hvs : vals = #[vals.getD 0 undef] := by
      apply Array.ext
      · simpa using hsz
      · intro i h1 h2
        have : i = 0 := by simp at h2; omega
        subst this
        simp [Array.getD, show 0 < vals.size by omega]
    have hreg' : vals.getD 0 undef = (css 0).headD undef := hreg
    show Calls _ _ _ _ fun e w' => ∃ (v : Value) (cs : List Value) (On Fr Xn : Nat → Prop), _ ∧ _ ∧ _ ∧ V.reg _ (css 0) (vals.getD 0 undef) ∧ Rep _ _ _ _ (css 0) Xn ∧ _
    generalize css 0 = cs0 at *
    generalize vals.getD 0 undef = v0 at *
    cases hrep with
    | own0 =>
      exfalso
      have h9 := congrArg List.length hxs
      rw [I_length] at h9
      simp at h9
      omega
    | own e d es b len cap cur cs Os O hb hcz hln hc hm hOb hOs hdis hcs hr =>
      have hv0 : v0 = .slice (some ⟨b, 0, none⟩) len cap := hreg'
      have hbs : b < w.heap.size := (Array.getElem?_eq_some_iff.1 hb).1
      have hce : Try.prog.cellsOf 2 = 1 := cz1
      have hcell : ∀ i, i < xs.length → cs i = [.int .i64 (xs.getD i 0)] := fun i hi => by
        refine rep_int (hr i _ ?_)
        rw [hxs, I, List.getElem?_map, List.getElem?_eq_getElem hi, List.getD_eq_getElem?_getD, List.getElem?_eq_getElem hi]
        rfl
      have hH : Go.Sort.Holds (Value.int .i64) w b 0 xs.toArray := fun j hj => by
        have hj' : j < xs.length := by simpa using hj
        refine ⟨?_, ?_⟩
        · have h1 := (hcs j (by omega)).2 0 (.int .i64 (xs.getD j 0)) (by rw [hcell j hj']; rfl)
          rw [hce] at h1
          rw [show (0 : Nat) + j = j * 1 + 0 by omega, h1]
          refine congrArg (fun z => some (Value.int .i64 z)) ?_
          exact (toArr hj').symm
        · simp [World.frozen?, hb]
      have hlx : len = xs.length := by rw [hln, hxl]
      rw [hvs, hv0, hlx]
      refine (np_walk b 0 cap xs w hH hx1 hx2 (by omega)).mono ?_
      rintro e1 w' ⟨rfl, q, k2⟩
      obtain ⟨ys, hys⟩ : ∃ ys, ys = npL xs := ⟨_, rfl⟩
      have hyl : ys.length = xs.length := by rw [hys, npL_len]
      rw [← hys] at k2
      have hH2 := holds_putRow (Value.int .i64) (Sort.ahead w q) b 0 xs.toArray ys.toArray hH (by simp [hyl])
      have hb2 : w'.heap[b]? = some (.cells (putCells (Value.int .i64) 0 ys.toArray cur) 2 (0, 0)) := by
        rw [k2]
        exact heap_putRow (w := Sort.ahead w q) hb _
      refine ⟨.bool (npB xs), [.bool (npB xs)], fun _ => False, fun _ => False, fun x => x = b, rfl, by rw [hf0]; rfl, by rw [hf0]; exact .bool _ _, ?_, ?_, ?_⟩
      · rw [hlx] at hv0
        exact rfl
      · rw [hf1, ← hys, ← hlx]
        refine .own _ _ _ b _ cap (putCells (Value.int .i64) 0 ys.toArray cur) (fun i => [.int .i64 (ys.getD i 0)]) (fun _ _ => False) _ hb2 ?_ (by rw [I_length]; omega) (by rw [I_length]; omega) hm rfl (fun _ _ h => h.elim) (fun _ _ _ _ h => h.elim) (fun i hi => ?_) (fun i x hx => ?_) (fun h => by cases h)
        · rw [putCells, Array.size_mapIdx]; exact hcz
        · rw [I_length] at hi
          refine ⟨by rw [hce]; rfl, fun k v hk => ?_⟩
          cases k with
          | succ k => simp at hk
          | zero =>
            simp only [List.getElem?_cons_zero, Option.some.injEq] at hk
            subst hk
            have h1 := (hH2 i (by simpa using hi)).1
            rw [hce, k2, show i * 1 + 0 = 0 + i by omega, h1]
            refine congrArg (fun z => some (Value.int .i64 z)) ?_
            exact toArr hi
        · rw [I, List.getElem?_map] at hx
          cases hyi : ys[i]? with
          | none => rw [hyi] at hx; cases hx
          | some z =>
            rw [hyi] at hx
            simp only [Option.map_some, Option.some.injEq] at hx
            subst hx
            rw [List.getD_eq_getElem?_getD, hyi]
            exact .int _ _ _
      · refine ⟨by rw [k2, Go.Sort.size_putRow]; exact Nat.le_refl _, by rw [k2]; rfl, by rw [k2]; rfl, by rw [k2]; exact ⟨rfl, Nat.le_add_right _ _⟩, fun k hk hx => ?_, fun b hb => hb.elim False.elim False.elim, fun x hx => .inl (by rw [hx]; exact hOb), fun b hb => hb.elim, fun b hb => ⟨fun h => h, fun h => h⟩, fun _ k off u hx hu hcu => ?_⟩
        · rw [k2, heap_putRow_ne (fun h => hx (by rw [h]; exact hOb))]
          rfl
        · rw [k2, cell?_putRow_other]
          · exact hcu
          · by_cases hkb : k = b
            · by_cases hof : off < xs.length
              · exfalso
                have h1 := (hH off (by simpa using hof)).1
                rw [hkb] at hcu
                rw [show (0 : Nat) + off = off by omega] at h1
                rw [h1] at hcu
                simp only [Option.some.injEq] at hcu
                rw [← hcu] at hu
                simp [isHdr] at hu
              · refine .inr (.inr ?_)
                simp only [List.size_toArray]
                omega
            · exact .inl hkb
  · cases h
end Go.Ax
/-
  Copies of graphs; vertices. No conditions but those of the contracts.
-/
set_option linter.all false
namespace Go.Ax
open Go.Proofs

set_option maxHeartbeats 1000000 in
set_option maxRecDepth 100000 in
theorem s_impl_copyLists : Sat Try.prog 72 (c_m_m f_cpSS IsIIs) := by
  intro args ps r h hp
  unfold c_m_m at h
  split at h
  · rename_i a0
    simp only [Option.some.injEq, Prod.mk.injEq] at h
    obtain ⟨rfl, rfl⟩ := h
    obtain ⟨xss, hes, hl1, hl2⟩ : IsIIs a0 := (alls_cons.1 hp).1
    have hel : a0.length = xss.length := by rw [hes, II_length]
    have hf0 : f_cpSS a0 = II true xss := by rw [f_cpSS, hes, unII_II]
    have g0 : V.frzs a0 = a0 := by rw [hes, II_frzs]
    have ges : ∀ k, a0.getD k (.slc false 2 (.int .i64 0) []) = .slc false 2 (.int .i64 0) (I (xss.getD k [])) := fun k => by rw [hes, II_getD]
    obtain ⟨n, hn⟩ : ∃ n : Int, n = xss.length := ⟨_, rfl⟩
    generalize H_same : same = F_same
    generalize H_IsIs : IsIs = F_IsIs
    refine fnOk_ofI (T := tab) (B := [(71, c_laws_toInt64S F_same F_IsIs)]) (Bi := []) [0, 2, 3, 5, 9, 10, 11] Try.func72 rfl rfl (by kernel_rfl) (Nat.le_of_ble_eq_true rfl) mixed tabOk (by subst H_same H_IsIs; exact (bookCons s_clone bookNil)) (by subst H_same H_IsIs; exact bookINil) (by kernel_rfl) ?_
    intro L lp rr hL hr hf hlp
    have Es : ∀ xs : List Int, F_same (I xs) = I xs := fun xs => by rw [← H_same, same]
    conv => cbv
    simp only [stdEqs hL, imp_self, true_and, and_true, bif_or, bif_and, Bool.or_eq_true, Bool.or_eq_false_iff, Bool.and_eq_true, Bool.and_eq_false_iff, decide_eq_true_eq, decide_eq_false_iff_not, Bool.not_eq_true', Bool.not_eq_false', beq_iff_eq, beq_eq_false_iff_ne, ne_eq, toNat0, toNat1, ok_int, toI_int, I_frzs, I_length, I_getD, ok_ints, toL_slc, g0, hel, ← hn]
    refine ⟨by omega, by omega, by omega, ?_⟩
    refine hlp (List V × Int) _ _ _ [3, 9, 10, 11] (fun x => [(3, none, .val (.slc true 27 (.slc true 2 (.int .i64 0) []) x.1)), (9, none, .val (.slc false 27 (.slc false 2 (.int .i64 0) []) a0)), (10, none, .val (.int .i64 n)), (11, none, .val (.int .i64 x.2))])
      (fun x => 0 ≤ x.2 ∧ x.2 ≤ n ∧ x.1 = II true (xss.take x.2.toNat)) (fun x => (n - x.2).toNat) (([], 0)) (by subst hL; rw [hn, ← hel]; rfl) ?_ ?_
    · exact ⟨by simp, by simp only; omega, rfl⟩
    rintro ⟨os, i⟩ ⟨i0, i1, hI⟩ hfx ag hag
    simp only at i0 i1 hI
    have hol : os.length = i.toNat := by rw [hI, II_length, List.length_take]; omega
    conv => cbv
    simp only [stdEqs hL, imp_self, true_and, and_true, bif_or, bif_and, Bool.or_eq_true, Bool.or_eq_false_iff, Bool.and_eq_true, Bool.and_eq_false_iff, decide_eq_true_eq, decide_eq_false_iff_not, Bool.not_eq_true', Bool.not_eq_false', beq_iff_eq, beq_eq_false_iff_ne, ne_eq, toNat0, toNat1, ok_int, toI_int, I_frzs, I_length, I_getD, ok_ints, toL_slc, hel, ges, Es]
    refine ⟨fun h2 => ?_, fun h2 => ?_⟩
    · have hin : i.toNat < xss.length := by omega
      have hm := mem_getD hin
      rw [wrap_id (n := i + 1) (by omega) (by omega)]
      refine ⟨i0, by omega, by rw [← H_IsIs]; exact ⟨⟨_, rfl⟩, by rw [I_length]; exact hl2 _ hm⟩, by simp only [List.length_cons, List.length_nil]; omega, solid1 (by simp [V.solid]), ?_⟩
      refine hag (_, i + 1) ⟨by simp only; omega, by simp only; omega, ?_⟩ (by simp only; omega)
      simp only [toNat_succ i0]
      rw [hI, take_succ_tot _ _ hin, II_append]
      rfl
    · rw [hr, hf0, hI, List.take_of_length_le (by omega)]
  · cases h
end Go.Ax
