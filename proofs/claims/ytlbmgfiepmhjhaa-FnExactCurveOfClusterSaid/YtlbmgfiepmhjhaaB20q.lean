import Derived.Test.YtlbmgfiepmhjhaaB17q
import Derived.Test.YtlbmgfiepmhjhaaB18q
import Derived.Test.YtlbmgfiepmhjhaaB19q
/-
  Blocks of sequences, in plain Lean. No conditions but those of the theorems.
-/
set_option linter.all false
namespace Go.Ax
open Go.Proofs

theorem rep_head {e r s : Nat} {x y : List Nat} (hr : r ≠ e) (hs : s ≠ e) : ∀ a b : Nat, List.replicate a e ++ r :: x = List.replicate b e ++ s :: y → a = b ∧ r = s ∧ x = y
  | 0, 0, h => by
    simp only [List.replicate_zero, List.nil_append, List.cons.injEq] at h
    exact ⟨rfl, h⟩
  | 0, b + 1, h => by
    simp only [List.replicate_zero, List.nil_append, List.replicate_succ, List.cons_append, List.cons.injEq] at h
    exact absurd h.1 hr
  | a + 1, 0, h => by
    simp only [List.replicate_zero, List.nil_append, List.replicate_succ, List.cons_append, List.cons.injEq] at h
    exact absurd h.1.symm hs
  | a + 1, b + 1, h => by
    simp only [List.replicate_succ, List.cons_append, List.cons.injEq, true_and] at h
    obtain ⟨h1, h2⟩ := rep_head hr hs a b h
    exact ⟨by rw [h1], h2⟩
def OkB : List (Nat × Nat) → Prop
  | [] => True
  | [_] => True
  | p :: q :: l => p.1 ≠ q.1 ∧ 1 ≤ q.2 ∧ OkB (q :: l)
def expB (bl : List (Nat × Nat)) : List Nat := bl.flatMap fun p => List.replicate p.2 p.1
def rowsN (bl : List (Nat × Nat)) : List (List Int) := bl.map fun p => [(p.1 : Int), (p.2 : Int)]
theorem rowsN_len (bl : List (Nat × Nat)) : (rowsN bl).length = bl.length := by simp [rowsN]
theorem rowsN_get {bl : List (Nat × Nat)} {i : Nat} {p : Nat × Nat} (h : bl[i]? = some p) : (rowsN bl).getD i [] = [(p.1 : Int), (p.2 : Int)] := by
  rw [rowsN, List.getD_eq_getElem?_getD, List.getElem?_map, h]; rfl
theorem rowsN_set (bl : List (Nat × Nat)) (i : Nat) (p : Nat × Nat) : (rowsN bl).set i [(p.1 : Int), (p.2 : Int)] = rowsN (bl.set i p) := by
  rw [rowsN, rowsN, List.map_set]
theorem rowsN_append (a b : List (Nat × Nat)) : rowsN (a ++ b) = rowsN a ++ rowsN b := by simp [rowsN]
theorem expB_cons (p : Nat × Nat) (l : List (Nat × Nat)) : expB (p :: l) = List.replicate p.2 p.1 ++ expB l := by simp [expB]
theorem expB_append (a b : List (Nat × Nat)) : expB (a ++ b) = expB a ++ expB b := by simp [expB]
theorem blk_next {v c q r : Nat} {tl : List (Nat × Nat)} {X : List Nat} (ho : OkB ((v, c) :: tl)) (hr : r ≠ v) (h : expB ((v, c) :: tl) = List.replicate q v ++ r :: X) :
    c = q ∧ ∃ c1 tl', tl = (r, c1) :: tl' ∧ OkB tl ∧ expB tl = r :: X := by
  rw [expB_cons] at h
  match tl, ho with
  | [], _ =>
    exfalso
    have h1 : r ∈ List.replicate q v ++ r :: X := by simp
    rw [← h] at h1
    simp only [expB, List.flatMap_nil, List.append_nil] at h1
    exact hr (List.mem_replicate.1 h1).2
  | (v1, c1) :: tl', ho =>
    obtain ⟨h1, h2, h3⟩ := ho
    have h4 : expB ((v1, c1) :: tl') = v1 :: (List.replicate (c1 - 1) v1 ++ expB tl') := by
      rw [expB_cons]
      simp only
      rw [show c1 = (c1 - 1) + 1 by have : 1 ≤ c1 := h2; omega, List.replicate_succ]
      rfl
    rw [h4] at h
    obtain ⟨e1, e2, e3⟩ := rep_head (Ne.symm h1) hr _ _ h
    have e2 : v1 = r := e2
    refine ⟨e1, c1, tl', by rw [e2], h3, by rw [h4, e3, e2]⟩
theorem blk_less {v c k : Nat} {tl : List (Nat × Nat)} {Y : List Nat} (ho : OkB ((v, c) :: tl)) (h : expB ((v, c) :: tl) = List.replicate k v ++ Y) :
    k ≤ c ∧ OkB ((v, c - k) :: tl) ∧ expB ((v, c - k) :: tl) = Y := by
  rw [expB_cons] at h
  have hk : k ≤ c := by
    rcases Nat.lt_or_ge c k with h1 | h1
    · exfalso
      simp only at h
      rw [show k = c + (k - c) by omega, ← List.replicate_append_replicate, List.append_assoc, List.append_cancel_left_eq, show k - c = (k - c - 1) + 1 by omega, List.replicate_succ, List.cons_append] at h
      match tl, ho with
      | [], _ => simp [expB] at h
      | (v1, c1) :: tl', ho =>
        obtain ⟨h3, h4, _⟩ := ho
        rw [expB_cons] at h
        simp only at h h4
        rw [show c1 = (c1 - 1) + 1 by omega, List.replicate_succ, List.cons_append, List.cons.injEq] at h
        exact h3 h.1.symm
    · exact h1
  refine ⟨hk, ?_, ?_⟩
  · cases tl with
    | nil => trivial
    | cons p tl => exact ho
  · rw [expB_cons]
    simp only at h ⊢
    rw [show c = k + (c - k) by omega, ← List.replicate_append_replicate, List.append_assoc, List.append_cancel_left_eq] at h
    exact h
def addB (B : List (Nat × Nat)) (x : Nat) : List (Nat × Nat) := match B.getLast? with
  | some p => if p.1 = x then B.set (B.length - 1) (p.1, p.2 + 1) else B ++ [(x, 1)]
  | none => [(x, 1)]
def blkN (L : List Nat) : List (Nat × Nat) := L.foldl addB []
theorem blkN_snoc (L : List Nat) (x : Nat) : blkN (L ++ [x]) = addB (blkN L) x := by rw [blkN, blkN, List.foldl_append]; rfl
theorem okB_append : ∀ {B : List (Nat × Nat)} {p : Nat × Nat} {x : Nat}, OkB (B ++ [p]) → p.1 ≠ x → OkB (B ++ [p] ++ [(x, 1)])
  | [], p, x, _, h => ⟨h, Nat.le_refl _, trivial⟩
  | [q], p, x, h, h2 => ⟨h.1, h.2.1, h2, Nat.le_refl _, trivial⟩
  | q :: q2 :: B, p, x, h, h2 => ⟨h.1, h.2.1, okB_append (B := q2 :: B) h.2.2 h2⟩
theorem okB_set : ∀ {B : List (Nat × Nat)} {p : Nat × Nat}, OkB (B ++ [p]) → OkB (B ++ [(p.1, p.2 + 1)])
  | [], p, _ => trivial
  | [q], p, h => ⟨h.1, Nat.le_add_left _ _, trivial⟩
  | q :: q2 :: B, p, h => ⟨h.1, h.2.1, okB_set (B := q2 :: B) h.2.2⟩
theorem blkN_ok' : ∀ (k : Nat) (L : List Nat), L.length = k → OkB (blkN L) ∧ expB (blkN L) = L ∧ (L ≠ [] → ∃ B p, blkN L = B ++ [p] ∧ 1 ≤ p.2 ∧ L.getLast? = some p.1)
  | 0, L, h => by
    obtain rfl := List.eq_nil_of_length_eq_zero h
    exact ⟨trivial, rfl, fun h => absurd rfl h⟩
  | k + 1, L0, h => by
    obtain ⟨L, x, rfl⟩ : ∃ L x, L0 = L ++ [x] := by
      have hne : L0 ≠ [] := fun h2 => by rw [h2] at h; simp at h
      exact ⟨L0.dropLast, L0.getLast hne, (List.dropLast_concat_getLast hne).symm⟩
    obtain ⟨i1, i2, i3⟩ := blkN_ok' k L (by rw [List.length_append, List.length_singleton] at h; omega)
    rw [blkN_snoc]
    by_cases hL : L = []
    · subst hL
      exact ⟨trivial, rfl, fun _ => ⟨[], (x, 1), rfl, Nat.le_refl _, rfl⟩⟩
    · obtain ⟨B, p, hB, hp1, hp2⟩ := i3 hL
      have hlast : (blkN L).getLast? = some p := by rw [hB]; simp
      rw [addB, hlast]
      simp only
      by_cases hx : p.1 = x
      · rw [if_pos hx]
        have hset : (blkN L).set ((blkN L).length - 1) (p.1, p.2 + 1) = B ++ [(p.1, p.2 + 1)] := by
          rw [hB, List.length_append, List.length_singleton, Nat.add_sub_cancel, List.set_append_right _ _ (Nat.le_refl _), Nat.sub_self]; rfl
        rw [hset]
        refine ⟨?_, ?_, fun _ => ⟨B, _, rfl, by simp only; omega, by simp [hx]⟩⟩
        · rw [hB] at i1; exact okB_set i1
        · rw [← i2, hB, expB_append, expB_append, List.append_assoc, ← hx]
          congr 1
          simp [expB, List.replicate_succ']
      · rw [if_neg hx]
        refine ⟨?_, ?_, fun _ => ⟨blkN L, _, rfl, Nat.le_refl _, by simp⟩⟩
        · rw [hB] at i1 ⊢; exact okB_append i1 hx
        · rw [expB_append, i2]; rfl
theorem blkN_ok (L : List Nat) : OkB (blkN L) ∧ expB (blkN L) = L ∧ (L ≠ [] → ∃ B p, blkN L = B ++ [p] ∧ 1 ≤ p.2 ∧ L.getLast? = some p.1) := blkN_ok' _ L rfl
theorem val_small : ∀ (l : List Nat) (p e : Nat), 0 < e → Val p e l → 2 ^ l.length ≤ e
  | [], p, e, he, _ => he
  | t :: l, p, e, he, h => by
    have hg := Nat.gcd_pos_of_pos_left t he
    have ih := val_small l t (Nat.gcd e t) hg h.2.2.2
    obtain ⟨c, hc⟩ := Nat.gcd_dvd_left e t
    have hc2 : 2 ≤ c := by
      rcases Nat.lt_or_ge c 2 with h1 | h1
      · exfalso
        have : c = 0 ∨ c = 1 := by omega
        rcases this with rfl | rfl
        · omega
        · exact h.2.2.1 (by omega)
      · exact h1
    rw [List.length_cons, Nat.pow_succ]
    have h2 : Nat.gcd e t * 2 ≤ Nat.gcd e t * c := Nat.mul_le_mul_left _ hc2
    omega
end Go.Ax
/-
  Delta invariants and lengths of branches. No conditions but those of the contracts.
-/
set_option linter.all false
namespace Go.Ax
open Go.Proofs

def Low (l : List Int) : Prop := ∀ m ∈ l, 1 ≤ m ∧ m ≤ 64
theorem Low.take {l : List Int} (h : Low l) (n : Nat) : Low (l.take n) := fun m hm => h m (List.mem_of_mem_take hm)
theorem Low.at {l : List Int} (h : Low l) {i : Nat} (hi : i < l.length) : 1 ≤ l.getD i 0 ∧ l.getD i 0 ≤ 64 := by
  rw [List.getD_eq_getElem?_getD, List.getElem?_eq_getElem hi]
  exact h _ (List.getElem_mem hi)
end Go.Ax
/-
  Branches of sequences: spec. No conditions but those of the contracts.
-/
set_option linter.all false
namespace Go.Ax
open Go.Proofs
set_option maxHeartbeats 2000000

def f_blk (a : List V) : List V := II true (rowsN (blkN (intL (unI a))))
def q_blk (a : List V) : Prop := ∃ L : List Nat, a = I (natL L) ∧ L.length ≤ 100000
set_option maxHeartbeats 1000000 in
set_option maxRecDepth 100000 in
theorem s_spec_l04Blocks : Sat Try.prog 134 (c_l_m f_blk q_blk) := by
  intro args ps r h hp
  unfold c_l_m at h
  split at h
  · rename_i a0
    simp only [Option.some.injEq, Prod.mk.injEq] at h
    obtain ⟨rfl, rfl⟩ := h
    obtain ⟨ls, hls, hll⟩ : q_blk a0 := (alls_cons.1 hp).1
    have g0 : V.frzs a0 = a0 := by rw [hls, I_frzs]
    have hal : a0.length = ls.length := by rw [hls, I_length, natL_len]
    have gal : ∀ k, a0.getD k (.int .i64 0) = .int .i64 ((ls.getD k 0 : Nat) : Int) := fun k => by rw [hls, I_getD]; exact congrArg _ (natL_getD ls k 0)
    have hf0 : f_blk a0 = II true (rowsN (blkN ls)) := by rw [f_blk, hls, unI_I, int_nat]
    obtain ⟨n, hn⟩ : ∃ n : Int, n = ls.length := ⟨_, rfl⟩
    refine fnOk_ofI (T := tab) (B := []) (Bi := []) [0, 2, 3, 4, 5] Try.func134 rfl rfl (by kernel_rfl) (Nat.le_of_ble_eq_true rfl) mixed tabOk (by exact bookNil) (by exact bookINil) (by kernel_rfl) ?_
    intro L lp rr hL hr hf hlp
    conv => cbv
    refine hlp (List V × Int) _ _ _ [0, 3, 4] (fun x => [(0, none, .val (.slc false 2 (.int .i64 0) a0)), (3, none, .val (.slc true 22 (.slc true 2 (.int .i64 0) []) x.1)), (4, none, .val (.int .i64 x.2))])
      (fun x => 0 ≤ x.2 ∧ x.2 ≤ n ∧ x.1 = II true (rowsN (blkN (ls.take x.2.toNat))) ∧ x.1.length ≤ x.2.toNat) (fun x => (n - x.2).toNat) (([], 0)) (by subst hL; rfl) ?_ ?_
    · exact ⟨by simp, by simp only; omega, rfl, by simp⟩
    rintro ⟨es, i⟩ ⟨i0, i1, hI, hel⟩ hfx ag hag
    simp only at i0 i1 hI hel
    obtain ⟨bl, hbl⟩ : ∃ bl, bl = blkN (ls.take i.toNat) := ⟨_, rfl⟩
    rw [← hbl] at hI
    have hesl : es.length = bl.length := by rw [hI, II_length, rowsN_len]
    have b7 : i < n → i.toNat < ls.length := fun h3 => by omega
    obtain ⟨x, hx⟩ : ∃ x, x = ls.getD i.toNat 0 := ⟨_, rfl⟩
    obtain ⟨es2, hes2⟩ : ∃ es2, es2 = es ++ [V.slc true 2 (V.int IntKind.i64 0) [V.int IntKind.i64 (x : Int), V.int IntKind.i64 0]] := ⟨_, rfl⟩
    have hel3 : es.length ≤ 100000 := by
      have h3 : i.toNat ≤ 100000 := by omega
      exact Nat.le_trans hel h3
    have b1 : IntKind.wrap .i64 ((es.length : Int) + 1 - 1) = (es.length : Int) := by
      have h3 : (es.length : Int) + 1 - 1 = es.length := by clear hI hes2; omega
      rw [h3]
      exact wrap_id (by clear hI hes2; omega) (by clear hI hes2; omega)
    have b2 : IntKind.wrap .i64 (i + 1) = i + 1 := wrap_id (by omega) (by omega)
    have b3 : 0 < es.length → IntKind.wrap .i64 ((es.length : Int) - 1) = ((es.length - 1 : Nat) : Int) := fun h3 => by
      rw [wrap_id (by omega) (by omega)]
      omega
    have h2l : es2.length = es.length + 1 := by rw [hes2]; simp
    have b4 : ¬ i < n → ls.length ≤ i.toNat := fun h3 => by omega
    have b5 : IntKind.wrap .i64 (i - 1) = i - 1 := wrap_id (by omega) (by omega)
    have b6 : i < n → 0 ≤ i + 1 ∧ i + 1 ≤ n ∧ (n - (i + 1)).toNat < (n - i).toNat := fun h3 => by omega
    have h2g : es2.getD es.length (.slc true 2 (.int .i64 0) []) = .slc true 2 (.int .i64 0) (I [(x : Int), 0]) := by
      rw [hes2, List.getD_eq_getElem?_getD, List.getElem?_append_right (Nat.le_refl _), Nat.sub_self]; rfl
    have hlast : ∀ h3 : ¬ i = 0, ∃ B p, bl = B ++ [p] ∧ p.1 = ls.getD (i - 1).toNat 0 := fun h3 => by
      obtain ⟨_, _, h5⟩ := blkN_ok (ls.take i.toNat)
      have hlt : i.toNat ≤ ls.length := by omega
      obtain ⟨B, p, h6, _, h7⟩ := h5 (fun h8 => by
        have := congrArg List.length h8
        rw [List.length_take, List.length_nil] at this
        omega)
      refine ⟨B, p, by rw [hbl, h6], ?_⟩
      rw [List.getLast?_eq_getElem?, List.length_take, List.getElem?_take_of_lt (by omega), show min i.toNat ls.length - 1 = (i - 1).toNat by omega] at h7
      rw [List.getD_eq_getElem?_getD, h7]; rfl
    have hadd : (i = 0 ∨ ¬ ((x : Int) = ((ls.getD (i - 1).toNat 0 : Nat) : Int))) → addB bl x = bl ++ [(x, 1)] := fun h3 => by
      by_cases h4 : i = 0
      · have : bl = [] := by rw [hbl, h4]; rfl
        rw [this]; rfl
      · obtain ⟨B, p, h5, h6⟩ := hlast h4
        have h7 : ¬ p.1 = x := fun h8 => by
          rcases h3 with h3 | h3
          · exact h4 h3
          · exact h3 (by rw [← h6, h8])
        have h8 : bl.getLast? = some p := by rw [h5]; simp
        rw [addB, h8]
        simp only
        rw [if_neg h7]
    have htk : i < n → ls.take (i.toNat + 1) = ls.take i.toNat ++ [x] := fun h3 => by
      rw [List.take_succ, hx, List.getD_eq_getElem?_getD, List.getElem?_eq_getElem (b7 h3)]; rfl
    have hsnoc : i < n → blkN (ls.take (i.toNat + 1)) = addB bl x := fun h3 => by rw [htk h3, blkN_snoc, hbl]
    conv => cbv
    simp only [stdEqs hL, imp_self, true_and, and_true, bif_or, bif_and, Bool.or_eq_true, Bool.or_eq_false_iff, Bool.and_eq_true, Bool.and_eq_false_iff, decide_eq_true_eq, decide_eq_false_iff_not, Bool.not_eq_true', Bool.not_eq_false', beq_iff_eq, beq_eq_false_iff_ne, ne_eq, toNat0, toNat1, ok_int, toI_int, I_frzs, I_length, I_getD, ok_ints, toL_slc, g0, hal, gal, ← hn, ← hx, ← hes2]
    refine ⟨fun h2 => ⟨fun _ => i0, fun _ => h2, fun _ => trivial, fun h3 => ?_, fun h3 => ?_, fun _ => trivial, fun h3 => ?_, fun h3 => ?_⟩, fun h2 => ?_⟩
    · rw [wrap_id (by omega) (by omega)]; omega
    · rw [wrap_id (by omega) (by omega)]; omega
    · have h2l3 : (es2.length : Int) = es.length + 1 := by rw [h2l]; rfl
      rw [h2l3, b1, b2, Int.toNat_natCast]
      simp only [h2g, toL_slc, h2l, I_length, I_getD, toI_int]
      have hlt : es.length < es.length + 1 := Nat.lt_succ_self _
      have hl2 : [(x : Int), 0].length = 2 := rfl
      simp only [hl2]
      refine ⟨i0, h2, ?_, solid1 (by simp [V.solid]), Int.natCast_nonneg _, Int.lt_succ _, hlt, rfl, hlt, rfl, by omega, by omega, hlt, rfl, by omega, rfl, ?_⟩
      · simp only [List.length_singleton]
        have : (es.length : Int) ≤ 100000 := Int.ofNat_le.2 hel3
        omega
      refine ⟨hlt, rfl, by omega, by omega, hlt, rfl, by omega, rfl, ?_⟩
      obtain ⟨c1, c2, c3⟩ := b6 h2
      rw [b5] at h3
      refine hag (_, i + 1) ⟨c1, c2, ?_, ?_⟩ c3
      · simp only [toNat_succ i0]
        rw [hsnoc h2, hadd h3, rowsN_append, II_append, hes2, List.set_append_right _ _ (Nat.le_refl _), Nat.sub_self, hI]
        rfl
      · simp only [toNat_succ i0, List.length_set, h2l]
        exact Nat.succ_le_succ hel
    · have h30 : ¬ i = 0 := h3.1
      have h31 := h3.2
      rw [b5] at h31
      obtain ⟨B, p, h5, h6⟩ := hlast h30
      have hpx : p.1 = x := by
        have h32 : (x : Int) = ((ls.getD (i - 1).toNat 0 : Nat) : Int) := h31
        rw [h6]
        exact (Int.ofNat_inj.1 h32).symm
      have h8 : bl.getLast? = some p := by rw [h5]; simp
      have hblen : bl.length = B.length + 1 := by rw [h5]; simp
      have hel4 : es.length - 1 = B.length := by rw [hesl, hblen]; rfl
      have hpos : 0 < es.length := by rw [hesl, hblen]; exact Nat.succ_pos _
      have hadd2 : addB bl x = bl.set B.length (p.1, p.2 + 1) := by
        rw [addB, h8]
        simp only
        rw [if_pos hpx, hblen]; rfl
      have hgp : bl[B.length]? = some p := by rw [h5, List.getElem?_append_right (Nat.le_refl _), Nat.sub_self]; rfl
      have hg : es.getD B.length (.slc true 2 (.int .i64 0) []) = .slc true 2 (.int .i64 0) (I [(p.1 : Int), (p.2 : Int)]) := by
        rw [hI, II_getD, rowsN_get hgp]
      have hp2 : p.2 ≤ 100000 := by
        have h9 := (blkN_ok (ls.take i.toNat)).2.1
        rw [← hbl, h5, expB_append] at h9
        have h10 := congrArg List.length h9
        rw [List.length_append, List.length_take, expB_cons, List.length_append, List.length_replicate] at h10
        omega
      have hlt : B.length < es.length := by rw [hesl, hblen]; exact Nat.lt_succ_self _
      have hw : IntKind.wrap .i64 ((p.2 : Int) + 1) = ((p.2 + 1 : Nat) : Int) := by
        rw [wrap_id (by omega) (by omega)]; rfl
      rw [b3 hpos, hel4, b2, Int.toNat_natCast]
      have hl2 : [(p.1 : Int), (p.2 : Int)].length = 2 := rfl
      have hg1 : [(p.1 : Int), (p.2 : Int)].getD 1 0 = p.2 := rfl
      simp only [hg, toL_slc, I_length, I_getD, toI_int, hl2, hg1, hw]
      obtain ⟨c1, c2, c3⟩ := b6 h2
      refine ⟨Int.natCast_nonneg _, Int.ofNat_lt.2 hlt, hlt, rfl, hlt, rfl, by omega, by omega, hlt, rfl, by omega, rfl, hlt, rfl, by omega, by omega, hlt, rfl, by omega, rfl, ?_⟩
      refine hag (_, i + 1) ⟨c1, c2, ?_, ?_⟩ c3
      · simp only [toNat_succ i0]
        rw [hsnoc h2, hadd2, ← rowsN_set, ← II_set, hI]
        rfl
      · simp only [toNat_succ i0, List.length_set]
        exact Nat.le_succ_of_le hel
    · have h5 : ls.take i.toNat = ls := List.take_of_length_le (b4 h2)
      rw [hr, hf0, hI, hbl, h5]
  · cases h
end Go.Ax
