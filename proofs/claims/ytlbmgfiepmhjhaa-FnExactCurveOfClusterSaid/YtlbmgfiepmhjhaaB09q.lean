import Derived.Test.YtlbmgfiepmhjhaaB08q
import Derived.Test.YtlbmgfiepmhjhaaB06q
/-
  Curvettes of codes, in plain Lean: their multiplicities are the sequence of a branch. No conditions but those of the theorems.
-/
set_option linter.all false
namespace Go.Ax
open Go.Proofs

def lead : Nat → List Nat → Nat
  | _, [] => 0
  | t, c :: cs => if c = t then lead (t + 1) cs + 1 else 0
def mC : List Nat → List Nat
  | [] => [1]
  | _ :: cs => ((mC cs).take (lead 2 cs + 1)).sum :: mC cs
theorem mC_len : ∀ cs : List Nat, (mC cs).length = cs.length + 1
  | [] => rfl
  | _ :: cs => by rw [mC, List.length_cons, mC_len cs, List.length_cons]
theorem lead_le : ∀ (cs : List Nat) (t : Nat), lead t cs ≤ cs.length
  | [], _ => Nat.le_refl _
  | c :: cs, t => by
    rw [lead]
    split
    · have := lead_le cs (t + 1); simp only [List.length_cons]; omega
    · exact Nat.zero_le _
theorem mC_pos : ∀ (cs : List Nat), ∀ x ∈ mC cs, 1 ≤ x
  | [], x, h => by simp only [mC, List.mem_singleton] at h; omega
  | c :: cs, x, h => by
    rw [mC] at h
    rcases List.mem_cons.1 h with h | h
    · have hl := mC_len cs
      cases hm : mC cs with
      | nil => rw [hm] at hl; simp at hl
      | cons y l =>
        have := mC_pos cs y (by rw [hm]; simp)
        rw [h, hm, List.take_succ_cons, List.sum_cons]
        omega
    · exact mC_pos cs x h
theorem mC_same : ∀ (cs : List Nat) (t q : Nat), 2 ≤ t → q ≤ lead t cs → ∀ j, j < q → (mC cs).getD j 0 = (mC cs).getD 0 0
  | [], t, q, _, hq, j, hj => by rw [lead] at hq; omega
  | c :: cs, t, q, ht, hq, j, hj => by
    rw [lead] at hq
    split at hq
    · rename_i hc
      cases j with
      | zero => rfl
      | succ j =>
        have ih := mC_same cs (t + 1) (q - 1) (by omega) (by omega) j (by omega)
        rw [mC, List.getD_cons_succ, ih, List.getD_cons_zero]
        have h0 : lead 2 cs = 0 := by
          cases cs with
          | nil => rfl
          | cons d cs =>
            rw [lead] at hq ⊢
            split at hq
            · rw [if_neg (by omega)]
            · omega
        have hl := mC_len cs
        rw [h0]
        cases hm : mC cs with
        | nil => rw [hm] at hl; simp at hl
        | cons y l => simp
    · omega
theorem Val.up : ∀ (l : List Nat) {p e s : Nat}, e ∣ s → (∀ t ∈ l, t + s ≤ 2000) → Val p e l → Val (p + s) e (l.map (· + s)) ∧ chN (p + s) e (l.map (· + s)) = chN p e l
  | [], p, e, s, _, _, h => ⟨h, rfl⟩
  | t :: l, p, e, s, he, hs, h => by
    obtain ⟨h1, h2, h3, h4⟩ := h
    have hg : Nat.gcd e (t + s) = Nat.gcd e t := by
      obtain ⟨k, rfl⟩ := he
      rw [Nat.mul_comm, Nat.gcd_add_mul_right_right]
    obtain ⟨i1, i2⟩ := Val.up l (s := s) (Nat.dvd_trans (Nat.gcd_dvd_left e t) he) (fun x hx => hs x (List.mem_cons_of_mem _ hx)) h4
    have hb := hs t (by simp)
    refine ⟨⟨show p + s < t + s by omega, hb, by rw [hg]; exact h3, by rw [hg]; exact i1⟩, ?_⟩
    simp only [List.map_cons, chN]
    rw [hg, i2, show t + s - (p + s) = t - p by omega]
theorem take_rep {a b : Nat} {x : List Nat} : ∀ k : Nat, (List.replicate k a ++ b :: x).take (k + 1) = List.replicate k a ++ [b]
  | 0 => rfl
  | k + 1 => by rw [List.replicate_succ, List.cons_append, List.take_succ_cons, take_rep k]; rfl
theorem sum_rep (a b : Nat) : ∀ k : Nat, (List.replicate k a ++ [b]).sum = k * a + b
  | 0 => by simp
  | k + 1 => by rw [List.replicate_succ, List.cons_append, List.sum_cons, sum_rep a b k, Nat.add_mul]; omega
theorem split_rep {a : Nat} : ∀ (k : Nat) (L : List Nat), k < L.length → (∀ j, j < k → L.getD j 0 = a) → ∃ b x, L = List.replicate k a ++ b :: x
  | _, [], h, _ => by simp at h
  | 0, y :: L, _, _ => ⟨y, L, rfl⟩
  | k + 1, y :: L, h, hs => by
    obtain ⟨b, x, hx⟩ := split_rep k L (by simpa using h) (fun j hj => by simpa using hs (j + 1) (by omega))
    have h0 : y = a := by simpa using hs 0 (by omega)
    exact ⟨b, x, by rw [hx, h0, List.replicate_succ]; rfl⟩
theorem rep_split {a r b : Nat} (hr : r ≠ a) {X x : List Nat} : ∀ (k q : Nat), List.replicate q a ++ r :: X = List.replicate k a ++ b :: x → (k < q ∧ b = a) ∨ (k = q ∧ b = r)
  | 0, 0, h => by simp at h; exact .inr ⟨rfl, h.1.symm⟩
  | 0, q + 1, h => by rw [List.replicate_succ] at h; simp at h; exact .inl ⟨by omega, h.1.symm⟩
  | k + 1, 0, h => by rw [List.replicate_succ] at h; simp at h; exact absurd h.1 hr
  | k + 1, q + 1, h => by
    rw [List.replicate_succ, List.replicate_succ] at h
    simp only [List.cons_append, List.cons.injEq, true_and] at h
    have := rep_split hr k q h
    omega
theorem mC_seq : ∀ (cs : List Nat), cs.length ≤ 30 → (∀ x ∈ mC cs, x ≤ 64) → ∃ n l m, BrN n l ∧ mC cs = chN 0 n l ++ List.replicate m 1 ∧ (mC cs).getD 0 0 = n ∧ ∀ t ∈ l, t ≤ 64 * (cs.length + 1)
  | [], _, _ => ⟨1, [], 1, ⟨by omega, by omega, rfl⟩, rfl, rfl, fun t ht => by cases ht⟩
  | c :: cs, hl, hb => by
    rw [mC] at hb
    simp only [List.length_cons] at hl ⊢
    obtain ⟨a, l, m, hB, hL, ha, ht⟩ := mC_seq cs (by omega) (fun x hx => hb x (List.mem_cons_of_mem _ hx))
    have hlen := mC_len cs
    have hle := lead_le cs 2
    obtain ⟨k, hk⟩ : ∃ k, k = lead 2 cs := ⟨_, rfl⟩
    rw [← hk] at hle
    have hsame : ∀ j, j < k → (mC cs).getD j 0 = a := fun j hj => by rw [mC_same cs 2 k (by omega) (by omega) j hj, ha]
    obtain ⟨b, x, hx⟩ := split_rep k (mC cs) (by omega) hsame
    have hn : ((mC cs).take (k + 1)).sum = k * a + b := by rw [hx, take_rep, sum_rep]
    obtain ⟨n, hnn⟩ : ∃ n, n = k * a + b := ⟨_, rfl⟩
    have hn64 : n ≤ 64 := by rw [hnn, ← hn, hk]; exact hb _ (by simp)
    have hb1 : 1 ≤ b := mC_pos cs b (by rw [hx]; simp)
    have hb64 : b ≤ 64 := hb b (List.mem_cons_of_mem _ (by rw [hx]; simp))
    have ha1 := hB.lo
    have ha64 := hB.hi
    rw [mC, ← hk, hn, ← hnn]
    by_cases hk0 : k = 0
    · -- one point is proximate: the same multiplicity
      subst hk0
      have hba : b = a := by rw [← ha, hx]; rfl
      have hna : n = a := by rw [hnn, hba]; omega
      rw [hna]
      cases l with
      | nil =>
        have h1 : a = 1 := hB.val
        subst h1
        exact ⟨1, [], m + 1, hB, by rw [hL]; rfl, rfl, fun t ht => by cases ht⟩
      | cons t l =>
        have ht0 := ht t (by simp)
        obtain ⟨v1, v2⟩ := Val.up (t :: l) (p := a) (e := a) (s := a) (Nat.dvd_refl a) (fun y hy => by have := ht y hy; omega) hB.val
        refine ⟨a, (t :: l).map (· + a), m, ⟨ha1, ha64, v1.weak (by omega)⟩, ?_, rfl, fun y hy => ?_⟩
        · have v0 := (Val.up (t :: l) (p := 0) (e := a) (s := a) (Nat.dvd_refl a) (fun y hy => by have := ht y hy; omega) (hB.val.weak (by omega))).2
          rw [hL, ← v0]
          simp only [List.map_cons, chN, Nat.sub_zero]
          have e1 : ex (t + a) a = a :: ex (t + a - (0 + a)) a := by
            rw [show t + a - (0 + a) = t by omega, ex_pos (by omega), ex_pos (show 0 < a by omega), Nat.add_div_right _ (by omega), Nat.add_mod_right, List.replicate_succ, List.cons_append]
          rw [e1]
          rfl
        · obtain ⟨z, hz, rfl⟩ := List.mem_map.1 hy
          have := ht z hz
          omega
    · cases l with
      | nil =>
        have h1 : a = 1 := hB.val
        subst h1
        have hall : ∀ y ∈ mC cs, y = 1 := fun y hy => by
          rw [hL] at hy
          simp only [chN, List.nil_append] at hy
          exact List.eq_of_mem_replicate hy
        have hbe : b = 1 := hall b (by rw [hx]; simp)
        have hn1 : n = k + 1 := by rw [hnn, hbe]; omega
        have hm : m = cs.length + 1 := by
          rw [← hlen, hL]; simp [chN]
        refine ⟨n, [n + 1], m - n, ⟨by omega, hn64, by omega, by omega, ?_, ?_⟩, ?_, rfl, fun y hy => ?_⟩
        · rw [Nat.gcd_self_add_right]
          simp
          omega
        · rw [Nat.gcd_self_add_right]
          simp [Val]
        · rw [hL]
          simp only [chN, Nat.sub_zero, List.append_nil, List.nil_append]
          have e1 : ex (n + 1) n = n :: List.replicate n 1 := by
            rw [ex_pos (by omega), Nat.add_comm n 1, Nat.add_div_right _ (by omega), Nat.add_mod_right, Nat.div_eq_of_lt (by omega), Nat.mod_eq_of_lt (by omega), ex_pos (by omega), Nat.div_one, Nat.mod_one, ex_zero]
            simp
          rw [e1, List.cons_append, List.replicate_append_replicate, show n + (m - n) = m by omega]
        · simp only [List.mem_singleton] at hy
          omega
      | cons t l =>
        have hv := hB.val
        obtain ⟨v1, v2, v3, v4⟩ := id hv
        have hnd : ¬ a ∣ t := by
          intro hd
          exact v3 (Nat.gcd_eq_left hd)
        obtain ⟨X, hX, hr0, hr1⟩ := ex_form (show 0 < a by omega) hnd
        obtain ⟨q, hq⟩ : ∃ q, q = t / a := ⟨_, rfl⟩
        obtain ⟨r, hr⟩ : ∃ r, r = t % a := ⟨_, rfl⟩
        rw [← hq, ← hr] at hX
        rw [← hr] at hr0 hr1
        have htq : t = q * a + r := by rw [hq, hr, Nat.mul_comm]; exact (Nat.div_add_mod t a).symm
        have hL2 : mC cs = List.replicate q a ++ r :: (X ++ (chN t (Nat.gcd a t) l ++ List.replicate m 1)) := by
          rw [hL, chN, Nat.sub_zero, hX]
          simp
        have ht2 : ∀ y ∈ t :: l, y + a ≤ 2000 := fun y hy => by have := ht y hy; omega
        have hcase := rep_split (by omega) k q (hL2.symm.trans hx)
        have htb := ht t (by simp)
        rcases hcase with ⟨hkq, hba⟩ | ⟨hkq, hbr⟩
        · -- equal points, one of them as a remainder
          have hn1 : n = (k + 1) * a := by rw [hnn, hba, Nat.add_mul]; omega
          have hlt : n + a ≤ t + a := by
            have : (k + 1) * a ≤ q * a := Nat.mul_le_mul_right a (by omega)
            omega
          have hlt2 : n < t := by
            have : (k + 1) * a ≤ q * a := Nat.mul_le_mul_right a (by omega)
            omega
          have hna : a < n := by
            have : 2 * a ≤ (k + 1) * a := Nat.mul_le_mul_right a (by omega)
            omega
          have hgcd : Nat.gcd n (n + a) = a := by
            rw [Nat.gcd_self_add_right, hn1, Nat.gcd_comm, Nat.gcd_mul_left_right]
          obtain ⟨u1, u2⟩ := Val.up (t :: l) (p := n) (e := a) (s := a) (Nat.dvd_refl a) ht2 ⟨hlt2, v2, v3, v4⟩
          refine ⟨n, (n + a) :: (t :: l).map (· + a), m, ⟨by omega, hn64, by omega, by omega, by rw [hgcd]; omega, by rw [hgcd]; exact u1⟩, ?_, rfl, fun y hy => ?_⟩
          · rw [chN, Nat.sub_zero, hgcd, u2]
            have e1 : ex (n + a) n = n :: List.replicate (k + 1) a := by
              rw [ex_pos (by omega), Nat.add_comm n a, Nat.add_div_right _ (by omega), Nat.add_mod_right, Nat.div_eq_of_lt hna, Nat.mod_eq_of_lt hna, ex_pos (by omega), hn1, Nat.mul_div_cancel _ (by omega), Nat.mul_mod_left, ex_zero]
              simp
            have e2 : ex t a = List.replicate (k + 1) a ++ ex (t - n) a := by
              have e3 : t = (t - n) + a * (k + 1) := by rw [Nat.mul_comm, ← hn1]; omega
              rw [ex_pos (by omega), ex_pos (show 0 < a by omega) (a := t - n)]
              conv => lhs; rw [e3]
              rw [Nat.add_mul_div_left _ _ (by omega), Nat.add_mul_mod_self_left, Nat.add_comm, ← List.replicate_append_replicate, List.append_assoc]
            rw [e1, hL, chN, chN, Nat.sub_zero, e2]
            simp
          · rcases List.mem_cons.1 hy with rfl | hy
            · omega
            · obtain ⟨z, hz, rfl⟩ := List.mem_map.1 hy
              have := ht z hz
              omega
        · -- the remainder is the smaller one
          have hn1 : n = t := by rw [hnn, hkq, hbr]; exact htq.symm
          have hgcd : Nat.gcd n (n + a) = Nat.gcd a t := by rw [Nat.gcd_self_add_right, hn1, Nat.gcd_comm]
          obtain ⟨u1, u2⟩ := Val.up l (p := t) (e := Nat.gcd a t) (s := a) (Nat.gcd_dvd_left a t) (fun y hy => ht2 y (List.mem_cons_of_mem _ hy)) v4
          have hga : Nat.gcd a t ≤ a := Nat.gcd_le_left t (by omega)
          refine ⟨n, (n + a) :: l.map (· + a), m, ⟨by omega, hn64, by omega, by omega, by rw [hgcd]; omega, by rw [hgcd, hn1]; exact u1⟩, ?_, rfl, fun y hy => ?_⟩
          · have e1 : ex (n + a) n = n :: ex t a := by
              rw [ex_pos (by omega), Nat.add_comm n a, Nat.add_div_right _ (by omega), Nat.add_mod_right, Nat.div_eq_of_lt (by omega), Nat.mod_eq_of_lt (by omega), hn1]
              simp
            rw [chN, Nat.sub_zero, hgcd, e1, hL, chN, Nat.sub_zero]
            rw [hn1] at *
            rw [u2]
            simp
          · rcases List.mem_cons.1 hy with rfl | hy
            · omega
            · obtain ⟨z, hz, rfl⟩ := List.mem_map.1 hy
              have := ht z (List.mem_cons_of_mem _ hz)
              omega
end Go.Ax
/-
  Multiplicities of curvettes as they are reckoned, in plain Lean. No conditions but those of the theorems.
-/
set_option linter.all false
namespace Go.Ax
open Go.Proofs

def VC (cs : List Nat) : Prop := ∀ i, i < cs.length → cs.getD i 0 = 0 ∨ (1 ≤ i ∧ (cs.getD i 0 = 2 ∨ (3 ≤ cs.getD i 0 ∧ cs.getD (i - 1) 0 + 1 = cs.getD i 0)))
theorem VC.le {cs : List Nat} (h : VC cs) : ∀ i, i < cs.length → cs.getD i 0 ≤ i + 1 ∧ cs.getD i 0 ≠ 1
  | 0, hi => by rcases h 0 hi with h | ⟨h, _⟩ <;> omega
  | i + 1, hi => by
    have ih := VC.le h i (by omega)
    rcases h (i + 1) hi with h | ⟨_, h | ⟨h1, h2⟩⟩
    · omega
    · omega
    · simp only [Nat.add_sub_cancel] at h2
      omega
def hdM (cs : List Nat) : Nat := (mC cs).getD 0 0
def QM (cs : List Nat) (j i : Nat) : Nat := ((mC (cs.drop j)).tail.take (lead (j + 1 - i) (cs.drop j))).sum
def mulA (cs : List Nat) (j : Nat) : List Nat := tab' (fun i => if i < j then QM cs j i else hdM (cs.drop i)) (cs.length + 1)
theorem mulA_len (cs : List Nat) (j : Nat) : (mulA cs j).length = cs.length + 1 := tab_len _ _
theorem mulA_get {cs : List Nat} {j i : Nat} (h : i ≤ cs.length) : (mulA cs j).getD i 0 = if i < j then QM cs j i else hdM (cs.drop i) := tab_get _ _ _ _ (by omega)
theorem mC_head (cs : List Nat) : mC cs = hdM cs :: (mC cs).tail := by
  have hl := mC_len cs
  rw [hdM]
  cases hm : mC cs with
  | nil => rw [hm] at hl; simp at hl
  | cons x l => rfl
theorem drop_at {cs : List Nat} {j : Nat} (h : j < cs.length) : cs.drop j = cs.getD j 0 :: cs.drop (j + 1) := by
  rw [List.drop_eq_getElem_cons h, List.getD_eq_getElem?_getD, List.getElem?_eq_getElem h]
  rfl
theorem mC_drop : ∀ (cs : List Nat) (j : Nat), j ≤ cs.length → (mC cs).getD j 0 = hdM (cs.drop j)
  | cs, 0, _ => rfl
  | [], j + 1, h => by simp at h
  | c :: cs, j + 1, h => by
    rw [mC, List.getD_cons_succ, List.drop_succ_cons]
    exact mC_drop cs j (by simpa using h)
theorem mulA_end (cs : List Nat) : mulA cs 0 = mC cs := by
  apply List.ext_getElem?
  intro i
  by_cases hi : i ≤ cs.length
  · have h1 := mulA_get (j := 0) hi
    rw [if_neg (by omega), ← mC_drop cs i hi] at h1
    rw [List.getD_eq_getElem?_getD, List.getD_eq_getElem?_getD, List.getElem?_eq_getElem (by rw [mulA_len]; omega), List.getElem?_eq_getElem (by rw [mC_len]; omega)] at h1
    rw [List.getElem?_eq_getElem (by rw [mulA_len]; omega), List.getElem?_eq_getElem (by rw [mC_len]; omega)]
    exact congrArg some h1
  · rw [List.getElem?_eq_none (by rw [mulA_len]; omega), List.getElem?_eq_none (by rw [mC_len]; omega)]
theorem QM_head {cs : List Nat} {j : Nat} (h : j < cs.length) : QM cs (j + 1) j + hdM (cs.drop (j + 1)) = hdM (cs.drop j) := by
  rw [QM, show j + 1 + 1 - j = 2 by omega, drop_at h]
  have h1 : hdM (cs.getD j 0 :: cs.drop (j + 1)) = ((mC (cs.drop (j + 1))).take (lead 2 (cs.drop (j + 1)) + 1)).sum := by
    rw [hdM, mC]; rfl
  rw [h1]
  conv => rhs; rw [mC_head]
  rw [List.take_succ_cons, List.sum_cons]
  omega
theorem QM_hit {cs : List Nat} {j i : Nat} (h : j < cs.length) (hi : i < j) (hc : cs.getD j 0 = j + 1 - i) : QM cs (j + 1) i + hdM (cs.drop (j + 1)) = QM cs j i := by
  rw [QM, QM, drop_at h, mC, List.tail_cons, lead, if_pos hc, show j + 1 - i + 1 = j + 1 + 1 - i by omega]
  conv => rhs; rw [mC_head]
  rw [List.take_succ_cons, List.sum_cons]
  omega
theorem QM_miss {cs : List Nat} (hv : VC cs) {j i : Nat} (h : j < cs.length) (hi : i < j) (hc : cs.getD j 0 ≠ j + 1 - i) : QM cs j i = 0 ∧ QM cs (j + 1) i = 0 := by
  constructor
  · rw [QM, drop_at h, lead, if_neg hc]
    simp
  · rw [QM]
    by_cases h1 : j + 1 < cs.length
    · rw [drop_at h1, lead, if_neg]
      · simp
      · intro h2
        rcases hv (j + 1) h1 with h3 | ⟨_, h3 | ⟨h3, h4⟩⟩
        · omega
        · omega
        · simp only [Nat.add_sub_cancel] at h4
          omega
    · rw [List.drop_of_length_le (by omega)]
      simp [lead]
theorem set_tab {α : Type} (f : Nat → α) {n i : Nat} (x : α) (h : i < n) : (tab' f n).set i x = tab' (fun t => if t = i then x else f t) n := by
  apply List.ext_getElem?
  intro j
  rw [List.getElem?_set]
  by_cases hj : j < n
  · rw [tab_get? _ _ _ hj, tab_get? _ _ _ hj]
    by_cases h1 : i = j
    · rw [if_pos h1, if_pos (by rw [tab_len]; exact h), if_pos h1.symm]
    · rw [if_neg h1, if_neg (Ne.symm h1)]
  · rw [if_neg (by omega), List.getElem?_eq_none (by rw [tab_len]; omega), List.getElem?_eq_none (by rw [tab_len]; omega)]
theorem mulA_free {cs : List Nat} (hv : VC cs) {j : Nat} (h : j < cs.length) (hc : cs.getD j 0 = 0) : (mulA cs (j + 1)).set j ((mulA cs (j + 1)).getD j 0 + (mulA cs (j + 1)).getD (j + 1) 0) = mulA cs j := by
  rw [mulA_get (by omega), mulA_get (by omega), if_pos (by omega), if_neg (by omega), QM_head h, mulA, set_tab _ _ (by omega), mulA]
  refine tab_congr fun i hi => ?_
  by_cases h1 : i = j
  · rw [if_pos h1, if_neg (by omega), h1]
  · rw [if_neg h1]
    by_cases h2 : i < j
    · obtain ⟨q1, q2⟩ := QM_miss hv h h2 (by omega)
      rw [if_pos (by omega), if_pos h2, q1, q2]
    · rw [if_neg (by omega), if_neg h2]
theorem mulA_sat {cs : List Nat} (hv : VC cs) {j c : Nat} (h : j < cs.length) (hc : cs.getD j 0 = c) (h0 : c ≠ 0) :
    ((mulA cs (j + 1)).set j ((mulA cs (j + 1)).getD j 0 + (mulA cs (j + 1)).getD (j + 1) 0)).set (j + 1 - c) ((mulA cs (j + 1)).getD (j + 1 - c) 0 + (mulA cs (j + 1)).getD (j + 1) 0) = mulA cs j ∧ j + 1 - c < j ∧ c ≤ j + 1 := by
  have hle := hv.le j h
  rw [hc] at hle
  refine ⟨?_, by omega, by omega⟩
  have hlt : j + 1 - c < j := by omega
  have e := QM_hit h hlt (show cs.getD j 0 = j + 1 - (j + 1 - c) by omega)
  rw [mulA_get (by omega), mulA_get (by omega), mulA_get (by omega), if_pos (by omega), if_neg (by omega), if_pos (by omega), QM_head h, e, mulA, set_tab _ _ (by omega), set_tab _ _ (by omega), mulA]
  refine tab_congr fun i hi => ?_
  by_cases h1 : i = j + 1 - c
  · rw [if_pos h1, if_pos (by omega), h1]
  · rw [if_neg h1]
    by_cases h3 : i = j
    · rw [if_pos h3, if_neg (by omega), h3]
    · rw [if_neg h3]
      by_cases h2 : i < j
      · obtain ⟨q1, q2⟩ := QM_miss hv h h2 (by omega)
        rw [if_pos (by omega), if_pos h2, q1, q2]
      · rw [if_neg (by omega), if_neg h2]
theorem mulA_start (cs : List Nat) : mulA cs cs.length = List.replicate cs.length 0 ++ [1] := by
  apply List.ext_getElem?
  intro i
  rw [mulA]
  by_cases hi : i < cs.length
  · rw [tab_get? _ _ _ (by omega), if_pos hi, List.getElem?_append_left (by simpa using hi), List.getElem?_replicate, if_pos hi, QM, List.drop_of_length_le (by omega)]
    simp [mC]
  · by_cases h2 : i = cs.length
    · rw [tab_get? _ _ _ (by omega), if_neg hi, h2, List.getElem?_append_right (by simp), List.drop_of_length_le (by omega)]
      simp [hdM, mC]
    · rw [List.getElem?_eq_none (by rw [tab_len]; omega), List.getElem?_eq_none (by simp; omega)]
theorem sum_small {B : Nat} : ∀ (l : List Nat), (∀ x ∈ l, x ≤ B) → l.sum ≤ B * l.length
  | [], _ => by simp
  | x :: l, h => by
    have h1 := h x (by simp)
    have h2 := sum_small l (fun y hy => h y (List.mem_cons_of_mem _ hy))
    rw [List.sum_cons, List.length_cons, Nat.mul_add]
    omega
theorem mulA_small {cs : List Nat} {j : Nat} (hj : j ≤ cs.length) (h : ∀ i, j < i → i ≤ cs.length → hdM (cs.drop i) ≤ 64) : ∀ i, i ≤ cs.length → (mulA cs j).getD i 0 ≤ 64 * (cs.length + 1) := by
  have hall : ∀ x ∈ (mC (cs.drop j)).tail, x ≤ 64 := by
    intro x hx
    obtain ⟨t, ht, rfl⟩ := List.mem_iff_getElem.1 hx
    have hl := mC_len (cs.drop j)
    simp only [List.length_tail, List.length_drop] at ht hl
    have h1 := mC_drop (cs.drop j) (t + 1) (by rw [List.length_drop]; omega)
    rw [List.drop_drop] at h1
    have h2 := h (j + (t + 1)) (by omega) (by omega)
    rw [← h1, mC_head, List.getD_cons_succ, List.getD_eq_getElem?_getD, List.getElem?_eq_getElem (by rw [List.length_tail]; omega)] at h2
    exact h2
  have hlen : (mC (cs.drop j)).tail.length ≤ cs.length := by
    rw [List.length_tail, mC_len, List.length_drop]; omega
  have htake : ∀ q, ((mC (cs.drop j)).tail.take q).sum ≤ 64 * cs.length := fun q => by
    have h1 := sum_small ((mC (cs.drop j)).tail.take q) (fun x hx => hall x (List.mem_of_mem_take hx))
    have h2 : ((mC (cs.drop j)).tail.take q).length ≤ cs.length := by rw [List.length_take]; omega
    have := Nat.mul_le_mul_left 64 h2
    omega
  intro i hi
  rw [mulA_get hi]
  split
  · rw [QM]
    have := htake (lead (j + 1 - i) (cs.drop j))
    omega
  · by_cases h2 : i = j
    · rw [h2]
      by_cases h3 : j < cs.length
      · have h4 := QM_head h3
        have h5 := h (j + 1) (by omega) (by omega)
        have h6 : QM cs (j + 1) j ≤ 64 * cs.length := by
          rw [QM]
          have hd := drop_at h3
          have : (mC (cs.drop j)).tail = mC (cs.drop (j + 1)) := by rw [hd, mC, List.tail_cons]
          have h7 := htake (lead (j + 1 + 1 - j) (cs.drop (j + 1)) + 1)
          rw [this, mC_head, List.take_succ_cons, List.sum_cons] at h7
          omega
        omega
      · rw [List.drop_of_length_le (by omega)]
        simp only [hdM, mC, List.getD_cons_zero]
        omega
    · have := h i (by omega) hi
      omega
end Go.Ax
