import Derived.Test.YtdkfhllofjdmaaaB07n2
/-
  What the laws do with graphs: sizes, copies, comparisons. No conditions but those of the contracts.
-/
set_option linter.all false
namespace Go.Ax
open Go.Proofs

def szGo : List (List Int) → Int → Int
  | [], left => left
  | x :: l, left => bif decide (szL x.length left < 0) then -1 else szGo l (szL x.length left)
def szSS (l : List (List Int)) (left : Int) : Int := bif decide (W (left - l.length) < 0) then -1 else szGo l (W (left - l.length))
def c_mi_i (f : List V → Int → Int) (q : List V → Int → Prop) : Contract := fun
  | [.slc false 27 (.slc false 2 (.int .i64 0) []) a0, .int .i64 a1] => some ([q a0 a1], .int .i64 (f a0 a1))
  | _ => none
def f_szSS (es : List V) (left : Int) : Int := szSS (unII es) left
def q_szSS (es : List V) (_ : Int) : Prop := IsII false es
theorem lenOks_II {o : Bool} {xss : List (List Int)} (h : V.lenOks (II o xss)) : ∀ i, i < xss.length → (xss.getD i []).length ≤ 9223372036854775807 := by
  intro i hi
  have h1 := lenOks_iff.1 h (.slc o 2 (.int .i64 0) (I (xss.getD i []))) (by
    rw [II, List.mem_map]
    exact ⟨xss.getD i [], by rw [List.getD_eq_getElem?_getD, List.getElem?_eq_getElem hi]; exact List.getElem_mem hi, rfl⟩)
  have h2 := h1.1
  rwa [I_length] at h2
set_option maxHeartbeats 1000000 in
set_option maxRecDepth 100000 in
theorem s_laws_szInt64SS : Sat Try.prog 18 (c_mi_i f_szSS q_szSS) := by
  intro args ps r h hp
  unfold c_mi_i at h
  split at h
  · rename_i a0 a1
    simp only [Option.some.injEq, Prod.mk.injEq] at h
    obtain ⟨rfl, rfl⟩ := h
    obtain ⟨xss, hes⟩ : IsII false a0 := (alls_cons.1 hp).1
    have hel : a0.length = xss.length := by rw [hes, II_length]
    have hf0 : f_szSS a0 a1 = szSS xss a1 := by rw [f_szSS, hes, unII_II]
    generalize H_f0_sz : f0_sz = F_f0_sz
    refine fnOk_ofI (T := tab) (B := [(39, c_li_i F_f0_sz)]) (Bi := []) [0, 1, 4, 5] Try.func18 rfl rfl (by kernel_rfl) (Nat.le_of_ble_eq_true rfl) mixed tabOk (by subst H_f0_sz; exact (bookCons s_laws_szInt64S bookNil)) (by subst H_f0_sz; exact bookINil) (by kernel_rfl) ?_
    intro L lp rr hL hr hf hlp
    have hlen := hf.1.1
    rw [hel] at hlen
    conv => cbv
    simp only [stdEqs hL, hel]
    refine ⟨fun h => ?_, fun h => ?_⟩
    · rw [hr, hf0, szSS, h]; rfl
    refine hlp (Int × Int) _ _ _ [0, 1, 5] (fun x => [(0, none, .val (.slc false 27 (.slc false 2 (.int .i64 0) []) a0)), (1, none, .val (.int .i64 x.1)), (5, none, .val (.int .i64 x.2))])
      (fun x => 0 ≤ x.2 ∧ x.2 ≤ xss.length ∧ szSS xss a1 = szGo (xss.drop x.2.toNat) x.1) (fun x => (xss.length - x.2).toNat) ((_, 0)) (by subst hL; rfl) ?_ ?_
    · refine ⟨by simp, by simp, ?_⟩
      rw [szSS, h]; rfl
    rintro ⟨left, i⟩ ⟨i0, i1, hI⟩ hfx ag hag
    conv => cbv
    simp only at i0 i1 hI
    subst hes
    simp only [stdEqs hL, hel, II_getD, ok_ints, toL_slc, I_frzs, imp_self, true_and, decide_eq_true_eq, decide_eq_false_iff_not]
    subst H_f0_sz
    have e0 : f0_sz (I (xss.getD i.toNat [])) left = szL (xss.getD i.toNat []).length left := by rw [f0_sz, I_length]
    rw [e0]
    refine ⟨fun h => ?_, fun h => ?_⟩
    · have hd : xss.drop i.toNat = xss.getD i.toNat [] :: xss.drop (i.toNat + 1) := drop_cons [] (by omega)
      refine ⟨i0, by omega, fun h2 => ?_, fun h2 => ?_⟩
      · rw [hr, hf0, hI, hd, szGo, decide_eq_true h2]; rfl
      · rw [wrap_id (n := i + 1) (by omega) (by omega)]
        refine hag (_, i + 1) ⟨by simp only; omega, by simp only; omega, ?_⟩ (by simp only; omega)
        simp only [toNat_succ i0]
        rw [hI, hd, szGo, decide_eq_false h2]; rfl
    · rw [hr, hf0, hI, List.drop_eq_nil_of_le (by omega)]; rfl
  · cases h
theorem szGo_neg : ∀ (l : List (List Int)) (left : Int), 0 ≤ left → szGo l left < 0 → szGo l left = -1
  | [], left, h, h' => by simp only [szGo] at h'; omega
  | x :: l, left, h, h' => by
    simp only [szGo] at h' ⊢
    cases hh : decide (szL x.length left < 0) with
    | true => rfl
    | false =>
      rw [hh] at h'
      exact szGo_neg l _ (by simpa using hh) h'
theorem szSS_neg {l : List (List Int)} {left : Int} (h : szSS l left < 0) : szSS l left = -1 := by
  unfold szSS at h ⊢
  cases hh : decide (W (left - l.length) < 0) with
  | true => rfl
  | false =>
    rw [hh] at h
    exact szGo_neg l _ (by simpa using hh) h
def c_m_m (f : List V → List V) (q : List V → Prop) : Contract := fun
  | [.slc false 27 (.slc false 2 (.int .i64 0) []) a0] => some ([q a0], .slc true 27 (.slc true 2 (.int .i64 0) []) (f a0))
  | _ => none
def f_cpSS (es : List V) : List V := II true (unII es)
def IsIIs (es : List V) : Prop := ∃ xss, es = II false xss ∧ xss.length ≤ 2147483647 ∧ ∀ xs ∈ xss, xs.length ≤ 2147483647
set_option maxHeartbeats 1000000 in
set_option maxRecDepth 100000 in
theorem s_laws_toInt64SS : Sat Try.prog 22 (c_m_m f_cpSS IsIIs) := by
  intro args ps r h hp
  unfold c_m_m at h
  split at h
  · rename_i a0
    simp only [Option.some.injEq, Prod.mk.injEq] at h
    obtain ⟨rfl, rfl⟩ := h
    obtain ⟨xss, hes, hl1, hl2⟩ : IsIIs a0 := (alls_cons.1 hp).1
    have hel : a0.length = xss.length := by rw [hes, II_length]
    have hf0 : f_cpSS a0 = II true xss := by rw [f_cpSS, hes, unII_II]
    generalize H_same : same = F_same
    generalize H_IsIs : IsIs = F_IsIs
    refine fnOk_ofI (T := tab) (B := [(47, c_laws_toInt64S F_same F_IsIs)]) (Bi := []) [0, 2, 3, 4] Try.func22 rfl rfl (by kernel_rfl) (Nat.le_of_ble_eq_true rfl) mixed tabOk (by subst H_same H_IsIs; exact (bookCons s_laws_toInt64S bookNil)) (by subst H_same H_IsIs; exact bookINil) (by kernel_rfl) ?_
    intro L lp rr hL hr hf hlp
    conv => cbv
    simp only [stdEqs hL, hel, true_and]
    refine ⟨by omega, by omega, by omega, ?_⟩
    refine hlp (List V × Int) _ _ _ [0, 3, 4] (fun x => [(0, none, .val (.slc false 27 (.slc false 2 (.int .i64 0) []) a0)), (3, none, .val (.slc true 27 (.slc true 2 (.int .i64 0) []) x.1)), (4, none, .val (.int .i64 x.2))])
      (fun x => 0 ≤ x.2 ∧ x.2 ≤ xss.length ∧ x.1 = II true (xss.take x.2.toNat ++ List.replicate (xss.length - x.2.toNat) [])) (fun x => (xss.length - x.2).toNat) ((_, 0)) (by subst hL; rfl) ?_ ?_
    · simp [II_replicate]
    rintro ⟨es, i⟩ ⟨i0, i1, hI⟩ hfx ag hag
    conv => cbv
    simp only at i0 i1 hI
    have hl : es.length = xss.length := by rw [hI, II_length]; simp; omega
    subst hes
    simp only [stdEqs hL, hel, hl, II_getD, ok_ints, toL_slc, I_frzs, imp_self, true_and, decide_eq_true_eq, decide_eq_false_iff_not]
    subst H_same H_IsIs
    refine ⟨fun h => ?_, fun h => ?_⟩
    · have hm : xss.getD i.toNat [] ∈ xss := by
        rw [List.getD_eq_getElem?_getD, List.getElem?_eq_getElem (by omega)]
        exact List.getElem_mem _
      refine ⟨i0, by omega, ⟨⟨_, rfl⟩, by rw [I_length]; exact hl2 _ hm⟩, i0, by omega, by omega, by rw [hI, II_getD]; exact .inl (ok_ints _ _ _), ?_⟩
      rw [wrap_id (n := i + 1) (by omega) (by omega)]
      refine hag (_, i + 1) ⟨by simp only; omega, by simp only; omega, ?_⟩ (by simp only; omega)
      simp only [toNat_succ i0, same]
      rw [hI, II_set, fill_set [] [] (by omega)]
    · rw [hr, hf0, hI, List.take_of_length_le (by omega), show xss.length - i.toNat = 0 by omega]
      simp
  · cases h
theorem IsIIs.isII {es : List V} (h : IsIIs es) : IsII false es := by
  obtain ⟨x, h, _⟩ := h
  exact ⟨x, h⟩
theorem IsIs.frz {es : List V} (h : IsIs es) : V.frzs es = es := by
  obtain ⟨⟨x, h⟩, _⟩ := h
  rw [h, I_frzs]
theorem IsI.frz {es : List V} (h : IsI es) : V.frzs es = es := by
  obtain ⟨x, h⟩ := h
  rw [h, I_frzs]
end Go.Ax
/-
  Components of graphs: labels that are united. No conditions but those of the contracts.
-/
set_option linter.all false
namespace Go.Ax
open Go.Proofs

abbrev gI (l : List Int) (i : Int) : Int := l.getD i.toNat 0
def relab (a b : Int) (l : List Int) : List Int := l.map fun x => if x = b then a else x
def iota (n : Nat) : List Int := tab' (fun i => (i : Int)) n
theorem relab_len (a b : Int) (l : List Int) : (relab a b l).length = l.length := by simp [relab]
theorem relab_get (a b : Int) (l : List Int) (i : Nat) (h : i < l.length) : (relab a b l).getD i 0 = if l.getD i 0 = b then a else l.getD i 0 := by
  simp only [relab, List.getD_eq_getElem?_getD, List.getElem?_map, List.getElem?_eq_getElem h, Option.map_some, Option.getD_some]
theorem iota_len (n : Nat) : (iota n).length = n := tab_len _ _
theorem iota_get (n i : Nat) (h : i < n) : (iota n).getD i 0 = i := tab_get _ _ _ _ h

def e0 (e : List Int) : Int := e.getD 0 0
def e1 (e : List Int) : Int := e.getD 1 0
def EdIn (n : Nat) (e : List Int) : Prop := e.length = 2 ∧ 0 ≤ e0 e ∧ e0 e < n ∧ 0 ≤ e1 e ∧ e1 e < n

def lo (lab e : List Int) : Int := min (gI lab (e0 e)) (gI lab (e1 e))
def hi (lab e : List Int) : Int := max (gI lab (e0 e)) (gI lab (e1 e))
def uni (lab e : List Int) : List Int := relab (lo lab e) (hi lab e) lab
structure LabOk (n : Nat) (lab : List Int) : Prop where
  len : lab.length = n
  nn : ∀ i, i < n → 0 ≤ lab.getD i 0
  le : ∀ i, i < n → lab.getD i 0 ≤ i
  idem : ∀ i, i < n → gI lab (lab.getD i 0) = lab.getD i 0
theorem LabOk.iota (n : Nat) : LabOk n (iota n) :=
  ⟨iota_len n, fun i h => by rw [iota_get _ _ h]; omega, fun i h => by rw [iota_get _ _ h]; omega, fun i h => by rw [iota_get _ _ h, gI, Int.toNat_natCast, iota_get _ _ h]⟩

def cntR (lab : List Int) : Nat → Nat
  | 0 => 0
  | k + 1 => cntR lab k + (if lab.getD k 0 = k then 1 else 0)
theorem cntR_le (lab : List Int) : ∀ {i j : Nat}, i ≤ j → cntR lab i ≤ cntR lab j
  | i, 0, h => by
    have : i = 0 := by omega
    rw [this]
    exact Nat.le_refl _
  | i, j + 1, h => by
    by_cases hij : i = j + 1
    · subst hij; exact Nat.le_refl _
    · have := cntR_le lab (i := i) (j := j) (by omega)
      simp only [cntR]; omega
theorem LabOk.pos {n : Nat} {lab : List Int} (h : LabOk n lab) (hn : 0 < n) : 0 < cntR lab n := by
  have h0 : lab.getD 0 0 = 0 := by have := h.nn 0 hn; have := h.le 0 hn; omega
  have h1 : cntR lab 1 = 1 := by simp only [cntR, h0]; rfl
  have := cntR_le lab (show 1 ≤ n by omega)
  omega

def acy : List Int → List (List Int) → Bool
  | _, [] => true
  | lab, e :: es => !(gI lab (e0 e) == gI lab (e1 e)) && acy (relab (gI lab (e0 e)) (gI lab (e1 e)) lab) es
def SameP (n : Nat) (l l' : List Int) : Prop := l.length = n ∧ l'.length = n ∧ ∀ i j, i < n → j < n → (l.getD i 0 = l.getD j 0 ↔ l'.getD i 0 = l'.getD j 0)
theorem relab_eq {n : Nat} {l : List Int} (hl : l.length = n) {x y : Nat} (hx : x < n) (hy : y < n) {a b : Int} (hab : a = l.getD x 0 ∧ b = l.getD y 0 ∨ a = l.getD y 0 ∧ b = l.getD x 0) {i j : Nat} (hi : i < n) (hj : j < n) :
    (relab a b l).getD i 0 = (relab a b l).getD j 0 ↔ (l.getD i 0 = l.getD j 0 ∨ (l.getD i 0 = l.getD x 0 ∧ l.getD j 0 = l.getD y 0) ∨ (l.getD i 0 = l.getD y 0 ∧ l.getD j 0 = l.getD x 0)) := by
  rw [relab_get _ _ _ _ (by omega), relab_get _ _ _ _ (by omega)]
  rcases hab with ⟨rfl, rfl⟩ | ⟨rfl, rfl⟩
  · split <;> split <;> omega
  · split <;> split <;> omega
theorem SameP.step {n : Nat} {l l' : List Int} (h : SameP n l l') {e : List Int} (he : EdIn n e) : SameP n (relab (gI l (e0 e)) (gI l (e1 e)) l) (uni l' e) := by
  obtain ⟨h1, h2, h3⟩ := h
  obtain ⟨_, a1, a2, b1, b2⟩ := he
  refine ⟨by rw [relab_len, h1], by rw [uni, relab_len, h2], fun i j hi hj => ?_⟩
  have hx : (e0 e).toNat < n := by omega
  have hy : (e1 e).toNat < n := by omega
  rw [relab_eq h1 hx hy (.inl ⟨rfl, rfl⟩) hi hj, uni, relab_eq h2 hx hy (by simp only [lo, Go.Ax.hi, gI]; omega) hi hj, h3 i j hi hj, h3 i _ hi hx, h3 j _ hj hy, h3 i _ hi hy, h3 j _ hj hx]
def lexLt : List Int → List Int → Bool
  | x :: a, y :: b => bif !(x == y) then decide (x < y) else lexLt a b
  | [], _ :: _ => true
  | _, [] => false
def edOk (n : Nat) (p : Option (List Int)) (e : List Int) : Bool := e.length == 2 && decide (0 ≤ e0 e) && decide (e0 e < e1 e) && decide (e1 e < n) && (match p with
  | none => true
  | some x => lexLt x e)
def edsOk (n : Nat) : Option (List Int) → List (List Int) → Bool
  | _, [] => true
  | p, e :: es => edOk n p e && edsOk n (some e) es
def isGr (ws : List Int) (es : List (List Int)) : Bool := decide (1 ≤ ws.length) && decide (ws.length ≤ 40) && within ws (-1000) 1000 && edsOk ws.length none es && acy (iota ws.length) es
end Go.Ax
/-
  The order of lists, in plain Lean. No conditions but those of the theorems.
-/
set_option linter.all false
namespace Go.Ax
open Go.Proofs

theorem lexLt_irrefl : ∀ l : List Int, lexLt l l = false
  | [] => rfl
  | x :: l => by simp only [lexLt, beq_self_eq_true, Bool.not_true, cond_false]; exact lexLt_irrefl l
theorem lexLt_cons (x y : Int) (a b : List Int) : lexLt (x :: a) (y :: b) = true ↔ x < y ∨ x = y ∧ lexLt a b = true := by
  simp only [lexLt]
  by_cases h : x = y
  · subst h; simp
  · have : (x == y) = false := by simpa using h
    rw [this]; simp [h]
theorem lexLt_trans : ∀ a b c : List Int, lexLt a b = true → lexLt b c = true → lexLt a c = true
  | _, [], _, h, _ => by cases ‹List Int› <;> simp [lexLt] at h
  | [], y :: b, [], _, h => by simp [lexLt] at h
  | [], y :: b, z :: c, _, _ => rfl
  | x :: a, y :: b, [], _, h => by simp [lexLt] at h
  | x :: a, y :: b, z :: c, h1, h2 => by
    rw [lexLt_cons] at *
    rcases h1 with h1 | ⟨h1, h1'⟩
    · rcases h2 with h2 | ⟨h2, _⟩ <;> exact .inl (by omega)
    · rcases h2 with h2 | ⟨h2, h2'⟩
      · exact .inl (by omega)
      · exact .inr ⟨by omega, lexLt_trans a b c h1' h2'⟩
theorem lexLt_tri : ∀ a b : List Int, lexLt a b = false → lexLt b a = false → a = b
  | [], [], _, _ => rfl
  | [], y :: b, h, _ => by simp [lexLt] at h
  | x :: a, [], _, h => by simp [lexLt] at h
  | x :: a, y :: b, h1, h2 => by
    have n1 : ¬ (x < y ∨ x = y ∧ lexLt a b = true) := fun h => by rw [(lexLt_cons x y a b).2 h] at h1; cases h1
    have n2 : ¬ (y < x ∨ y = x ∧ lexLt b a = true) := fun h => by rw [(lexLt_cons y x b a).2 h] at h2; cases h2
    have e : x = y := by omega
    subst e
    rw [lexLt_tri a b (by cases h : lexLt a b <;> simp_all) (by cases h : lexLt b a <;> simp_all)]
theorem lexLt_ntrans (a b c : List Int) (h1 : lexLt a b = false) (h2 : lexLt b c = false) : lexLt a c = false := by
  cases h : lexLt a c with
  | false => rfl
  | true =>
    cases h3 : lexLt b a with
    | true => rw [lexLt_trans b a c h3 h] at h2; cases h2
    | false =>
      have e := lexLt_tri a b h1 h3
      rw [e, h2] at h; cases h
end Go.Ax
/-
  Permutations in plain Lean; what is laid by one. No conditions but those of the theorems.
-/
set_option linter.all false
namespace Go.Ax
open Go.Proofs

theorem perm_sub : ∀ (l l' : List Int), l.Nodup → (∀ x ∈ l, x ∈ l') → l'.length ≤ l.length → l.Perm l'
  | [], l', _, _, h => by
    have : l' = [] := List.eq_nil_of_length_eq_zero (by simpa using h)
    rw [this]
  | x :: t, l', hn, hs, hl => by
    obtain ⟨h1, h2⟩ := List.nodup_cons.1 hn
    have hx : x ∈ l' := hs x (by simp)
    have hp := List.perm_cons_erase hx
    have hlen := hp.length_eq
    refine (List.Perm.cons x (perm_sub t (l'.erase x) h2 (fun y hy => ?_) ?_)).trans hp.symm
    · refine (List.mem_erase_of_ne (fun e => h1 (by rw [← e]; exact hy))).2 (hs y (by simp [hy]))
    · simp only [List.length_cons] at hlen hl
      omega
theorem iota_pair (n : Nat) : (iota n).Pairwise (· < ·) := by
  rw [iota, tab', List.pairwise_map]
  exact List.pairwise_lt_range.imp fun h => by omega
theorem iota_mem {n : Nat} {x : Int} : x ∈ iota n ↔ 0 ≤ x ∧ x < n := by
  simp only [iota, tab', List.mem_map, List.mem_range]
  constructor
  · rintro ⟨k, hk, rfl⟩; omega
  · intro h; exact ⟨x.toNat, by omega, by omega⟩
def PmP (ls : List Int) : Prop := ∀ t : Nat, t < ls.length → (t : Int) ∈ ls
theorem PmP.perm {ls : List Int} (h : PmP ls) : (iota ls.length).Perm ls := by
  refine perm_sub _ _ ((iota_pair _).imp fun h => by omega) (fun x hx => ?_) (by rw [iota_len]; exact Nat.le_refl _)
  obtain ⟨h1, h2⟩ := iota_mem.1 hx
  have := h x.toNat (by omega)
  rwa [show ((x.toNat : Nat) : Int) = x by omega] at this
theorem PmP.inr {ls : List Int} (h : PmP ls) : ∀ k, k < ls.length → 0 ≤ ls.getD k 0 ∧ ls.getD k 0 < ls.length := fun k hk => by
  refine iota_mem.1 (h.perm.mem_iff.2 ?_)
  rw [List.getD_eq_getElem?_getD, List.getElem?_eq_getElem hk]
  exact List.getElem_mem _
theorem PmP.inj {ls : List Int} (h : PmP ls) {s t : Nat} (hs : s < ls.length) (ht : t < ls.length) (he : ls.getD s 0 = ls.getD t 0) : s = t := by
  have hn : ls.Nodup := h.perm.nodup_iff.1 ((iota_pair _).imp fun h => by omega)
  rw [List.getD_eq_getElem?_getD, List.getElem?_eq_getElem hs, List.getD_eq_getElem?_getD, List.getElem?_eq_getElem ht] at he
  have hp := List.pairwise_iff_getElem.1 hn
  rcases Nat.lt_trichotomy s t with h1 | h1 | h1
  · exact absurd he (hp s t hs ht h1)
  · exact h1
  · exact absurd he.symm (hp t s ht hs h1)
theorem PmP.sur {ls : List Int} (h : PmP ls) {j : Nat} (hj : j < ls.length) : ∃ t, t < ls.length ∧ ls.getD t 0 = j := by
  obtain ⟨t, ht, he⟩ := List.mem_iff_getElem.1 (h j hj)
  exact ⟨t, ht, by rw [List.getD_eq_getElem?_getD, List.getElem?_eq_getElem ht]; exact he⟩
def putK {α : Type} (ls : List Int) (f : Nat → α) (z : α) (n : Nat) : Nat → List α
  | 0 => List.replicate n z
  | k + 1 => (putK ls f z n k).set (ls.getD k 0).toNat (f k)
theorem putK_len {α : Type} (ls : List Int) (f : Nat → α) (z : α) (n : Nat) : ∀ k, (putK ls f z n k).length = n
  | 0 => List.length_replicate
  | k + 1 => by rw [putK, List.length_set]; exact putK_len ls f z n k
theorem set_getD {α : Type} {l : List α} {i j : Nat} {x z : α} (hi : i < l.length) : (l.set i x).getD j z = if j = i then x else l.getD j z := by
  rw [List.getD_eq_getElem?_getD, List.getElem?_set, List.getD_eq_getElem?_getD]
  by_cases h : i = j
  · rw [if_pos h, if_pos hi, if_pos h.symm]; rfl
  · rw [if_neg h, if_neg (Ne.symm h)]
theorem putK_get {α : Type} {ls : List Int} (h : PmP ls) (f : Nat → α) (z : α) : ∀ k, k ≤ ls.length → (∀ t, t < k → (putK ls f z ls.length k).getD (ls.getD t 0).toNat z = f t) ∧ (∀ t, k ≤ t → t < ls.length → (putK ls f z ls.length k).getD (ls.getD t 0).toNat z = z)
  | 0, _ => ⟨fun t ht => absurd ht (by omega), fun t _ ht => by
      rw [putK, List.getD_eq_getElem?_getD, List.getElem?_replicate]; split <;> rfl⟩
  | k + 1, hk => by
    obtain ⟨h1, h2⟩ := putK_get h f z k (by omega)
    have hb := h.inr k (by omega)
    have hs : ∀ t, t < ls.length → ((ls.getD t 0).toNat = (ls.getD k 0).toNat ↔ t = k) := fun t ht => by
      have := h.inr t ht
      exact ⟨fun e => h.inj ht (by omega) (by omega), fun e => by rw [e]⟩
    refine ⟨fun t ht => ?_, fun t ht htl => ?_⟩
    · rw [putK, set_getD (by rw [putK_len]; omega)]
      by_cases htk : t = k
      · rw [if_pos ((hs t (by omega)).2 htk), htk]
      · rw [if_neg (fun e => htk ((hs t (by omega)).1 e))]; exact h1 t (by omega)
    · rw [putK, set_getD (by rw [putK_len]; omega), if_neg (fun e => by have := (hs t htl).1 e; omega)]
      exact h2 t (by omega) htl
def ordP (ls : List Int) : List Int := putK ls (fun k => (k : Int)) 0 ls.length ls.length
theorem getD_ext {α : Type} {l l' : List α} {n : Nat} (z : α) (h1 : l.length = n) (h2 : l'.length = n) (h : ∀ j, j < n → l.getD j z = l'.getD j z) : l = l' := by
  apply List.ext_getElem?
  intro j
  by_cases hj : j < n
  · have := h j hj
    rw [List.getD_eq_getElem?_getD, List.getD_eq_getElem?_getD, List.getElem?_eq_getElem (by omega), List.getElem?_eq_getElem (by omega)] at this
    rw [List.getElem?_eq_getElem (by omega), List.getElem?_eq_getElem (by omega)]
    exact congrArg some this
  · rw [List.getElem?_eq_none (by omega), List.getElem?_eq_none (by omega)]
theorem ordP_len (ls : List Int) : (ordP ls).length = ls.length := putK_len _ _ _ _ _
theorem ordP_at {ls : List Int} (h : PmP ls) {t : Nat} (ht : t < ls.length) : (ordP ls).getD (ls.getD t 0).toNat 0 = t := (putK_get h (fun k => (k : Int)) 0 ls.length (Nat.le_refl _)).1 t ht
theorem putK_full {α : Type} {ls : List Int} (h : PmP ls) (f : Nat → α) (z : α) : putK ls f z ls.length ls.length = (ordP ls).map fun i => f i.toNat := by
  refine getD_ext z (putK_len _ _ _ _ _) (by rw [List.length_map, ordP_len]) fun j hj => ?_
  obtain ⟨t, ht, he⟩ := h.sur hj
  have h1 := (putK_get h f z ls.length (Nat.le_refl _)).1 t ht
  have h2 := ordP_at h ht
  rw [he, Int.toNat_natCast] at h1 h2
  rw [h1, List.getD_eq_getElem?_getD, List.getElem?_map]
  rw [List.getD_eq_getElem?_getD, List.getElem?_eq_getElem (by rw [ordP_len]; exact hj)] at h2
  rw [List.getElem?_eq_getElem (by rw [ordP_len]; exact hj)]
  simp only [Option.map_some, Option.getD_some] at h2 ⊢
  rw [h2, Int.toNat_natCast]
theorem putK_same {α : Type} {ls : List Int} (h : PmP ls) (f : Nat → α) (z : α) {k : Nat} (hk : k < ls.length) : (putK ls f z ls.length k).set (ls.getD k 0).toNat z = putK ls f z ls.length k := by
  have hb := h.inr k hk
  refine getD_ext z (by rw [List.length_set, putK_len]) (putK_len _ _ _ _ _) fun j hj => ?_
  rw [set_getD (by rw [putK_len]; omega)]
  split
  · rename_i e
    rw [e, (putK_get h f z k (by omega)).2 k (Nat.le_refl _) hk]
  · rfl
end Go.Ax
