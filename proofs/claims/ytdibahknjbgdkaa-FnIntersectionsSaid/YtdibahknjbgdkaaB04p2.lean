import Derived.Test.YtdibahknjbgdkaaB03p2
import Derived.Test.YtdibahknjbgdkaaRows
import Derived.Test.YtdibahknjbgdkaaAxP4p2
/-
  What the laws do with branches: sizes, copies, comparisons, marks; the law of semiroots. No conditions but those of the contracts.
-/
set_option linter.all false
namespace Go.Ax
open Go.Proofs

def c_b_b (f0 : List V → List V) (q : List V → Prop) : Contract := fun
  | [.agg [.slc false 2 (.int .i64 0) a0]] => some ([q a0], .agg [.slc true 2 (.int .i64 0) (f0 a0)])
  | _ => none
end Go.Ax
/-
  Lists of lists of numbers, and of branches: copies, comparisons, marks; curves of one branch. No conditions but those of the contracts.
-/
set_option linter.all false
namespace Go.Ax
open Go.Proofs

def II (o : Bool) (xss : List (List Int)) : List V := xss.map fun xs => .slc o 2 (.int .i64 0) (I xs)
def unII (es : List V) : List (List Int) := es.map fun v => unI v.toL
theorem unII_II (o : Bool) (xss : List (List Int)) : unII (II o xss) = xss := by
  simp only [unII, II, List.map_map]
  conv => rhs; rw [← List.map_id xss]
  apply List.map_congr_left
  intro xs _
  simp [V.toL]
theorem II_length (o : Bool) (xss : List (List Int)) : (II o xss).length = xss.length := by simp [II]
theorem II_getD (o : Bool) (xss : List (List Int)) (i : Nat) : (II o xss).getD i (.slc o 2 (.int .i64 0) []) = .slc o 2 (.int .i64 0) (I (xss.getD i [])) := by
  simp only [II, List.getD_eq_getElem?_getD, List.getElem?_map]
  cases xss[i]? <;> rfl
theorem II_set (o : Bool) (xss : List (List Int)) (i : Nat) (xs : List Int) : (II o xss).set i (.slc o 2 (.int .i64 0) (I xs)) = II o (xss.set i xs) := by simp [II, List.map_set]
theorem II_frzs (o : Bool) (xss : List (List Int)) : V.frzs (II o xss) = II false xss := by
  rw [V.frzs_eq]
  simp only [II, List.map_map]
  apply List.map_congr_left
  intro xs _
  simp [V.frz, I_frzs]
theorem II_noFzs (xss : List (List Int)) : V.noFzs (II true xss) = true := by
  rw [V.noFzs_eq]
  simp only [II, List.all_map, List.all_eq_true]
  intro xs _
  simp [V.noFz]
theorem toL_slc (o : Bool) (e : TypeId) (d : V) (es : List V) : stdV.toL (.slc o e d es) = es := rfl
def IsII (o : Bool) (es : List V) : Prop := ∃ xss, es = II o xss
theorem ok_ints (o o' : Bool) (xs : List Int) : vw stdV tab o 20 24 (.slc o' 2 (.int .i64 0) (I xs)) = some (.slc o 2 (.int .i64 0) (I xs)) := by cases o <;> rfl

theorem take_succ_tot (xss : List (List Int)) (i : Nat) (h : i < xss.length) : xss.take (i + 1) = xss.take i ++ [xss.getD i []] := by
  rw [List.take_succ_eq_append_getElem h, List.getD_eq_getElem?_getD, List.getElem?_eq_getElem h]
  rfl
end Go.Ax
/-
  Lists of branches; curves. No conditions but those of the contracts.
-/
set_option linter.all false
namespace Go.Ax
open Go.Proofs

def bL : V → List V
  | .agg [.slc _ _ _ es] => es
  | _ => []
def BB (o : Bool) (xss : List (List Int)) : List V := xss.map fun xs => .agg [.slc o 2 (.int .i64 0) (I xs)]
def unBB (es : List V) : List (List Int) := es.map fun v => unI (bL v)
theorem unBB_BB (o : Bool) (xss : List (List Int)) : unBB (BB o xss) = xss := by
  simp only [unBB, BB, List.map_map]
  conv => rhs; rw [← List.map_id xss]
  apply List.map_congr_left
  intro xs _
  simp [bL]
theorem BB_length (o : Bool) (xss : List (List Int)) : (BB o xss).length = xss.length := by simp [BB]
theorem BB_getD (o : Bool) (xss : List (List Int)) (i : Nat) : (BB o xss).getD i (.agg [.slc o 2 (.int .i64 0) []]) = .agg [.slc o 2 (.int .i64 0) (I (xss.getD i []))] := by
  simp only [BB, List.getD_eq_getElem?_getD, List.getElem?_map]
  cases xss[i]? <;> rfl
theorem BB_frzs (o : Bool) (xss : List (List Int)) : V.frzs (BB o xss) = BB false xss := by
  rw [V.frzs_eq]
  simp only [BB, List.map_map]
  apply List.map_congr_left
  intro xs _
  simp [V.frz, V.frzs, I_frzs]
theorem fld_bran (o : Bool) (e : TypeId) (d : V) (es : List V) : stdV.fld (.agg [.slc o e d es]) 0 = .slc o e d es := rfl
theorem toL_bran (o : Bool) (e : TypeId) (d : V) (es : List V) : stdV.toL (stdV.fld (.agg [.slc o e d es]) 0) = es := rfl
def IsBB (o : Bool) (es : List V) : Prop := ∃ xss, es = BB o xss
theorem ok_bran (o o' : Bool) (xs : List Int) : vw stdV tab o 20 26 (.agg [.slc o' 2 (.int .i64 0) (I xs)]) = some (.agg [.slc o 2 (.int .i64 0) (I xs)]) := by cases o <;> rfl

end Go.Ax
/-
  What all rows take: facts of the program, and what arguments of the types in use are. No conditions.
-/
set_option linter.all false
namespace Go.Proofs.Ytdibahknjbgdkaa
open Go.ChangeShapes Go.WideShapes Go.ChangeAt Go.RowKit Go.Ax

theorem ownK : ownKnob Try.prog.godebug = none := by kernel_rfl
theorem laidOut : laidOutB Try.prog = true := by kernel_rfl
def okK : TK → Bool
  | .oth => false
  | _ => true
theorem noOth : ∀ t ti, tget tab t = some ti → ti.k ≠ .oth := by
  have h : (tab.all fun x => okK x.2.k) = true := by kernel_rfl
  intro t ti ht hk
  have := List.all_eq_true.1 h _ (tget_mem ht)
  rw [hk] at this
  cases this

end Go.Proofs.Ytdibahknjbgdkaa
/-
  What every row of this seat asks of the whole program, once. No conditions.
-/
set_option linter.all false
namespace Go.Ax
open Go.Proofs Go.Proofs.Ytdibahknjbgdkaa

theorem and2 {a b : Bool} (ha : a = true) (hb : b = true) : (a && b) = true := by rw [ha, hb]; rfl
set_option maxRecDepth 100000 in
theorem pfEnter : Try.prog.mayEnter = true := by kernel_rfl
set_option maxRecDepth 100000 in
theorem pfLift : (({ program := "", sum := "", func := "", spec := "" } : OpenClaim).lifted == Try.prog.liftsFinal) = true := by kernel_rfl
set_option maxRecDepth 100000 in
theorem pfMake : (Try.prog.make == some ({ program := "", sum := "", func := "", spec := "" } : OpenClaim).make) = true := by kernel_rfl
end Go.Ax
/-
  Curves of one branch. No conditions but those of the contracts.
-/
set_option linter.all false
namespace Go.Ax
open Go.Proofs

set_option maxHeartbeats 1000000 in
set_option maxRecDepth 100000 in
theorem s_spec_l01Own : Sat Try.prog 82 (c_laws_toInt64S same IsIs) := by
  intro args ps r h hp
  unfold c_laws_toInt64S at h
  split at h
  · rename_i a0
    simp only [Option.some.injEq, Prod.mk.injEq] at h
    obtain ⟨rfl, rfl⟩ := h
    obtain ⟨⟨xs, hxs⟩, hlen⟩ : IsIs a0 := (alls_cons.1 hp).1
    have hxl : a0.length = xs.length := by rw [hxs, I_length]
    refine fnOk_ofI (T := tab) (B := []) (Bi := []) [0, 2] Try.func82 rfl rfl (by kernel_rfl) (Nat.le_of_ble_eq_true rfl) mixed tabOk (by exact bookNil) (by exact bookINil) (by kernel_rfl) ?_
    intro L lp rr hL hr hf hlp
    conv => cbv
    simp only [stdEqs hL, hxl]
    rw [hr, same]
    exact ⟨by rw [hxs, I_owneds], by simp; omega, by rw [hxs]; exact I_solid xs, rfl⟩
  · cases h
set_option maxHeartbeats 1000000 in
set_option maxRecDepth 100000 in
theorem s_spec_l09Own : Sat Try.prog 74 (c_b_b same IsIs) := by
  intro args ps r h hp
  unfold c_b_b at h
  split at h
  · rename_i a0
    simp only [Option.some.injEq, Prod.mk.injEq] at h
    obtain ⟨rfl, rfl⟩ := h
    have hq : IsIs a0 := (alls_cons.1 hp).1
    have q1 : IsIs (V.frzs a0) := by
      obtain ⟨⟨xs, hxs⟩, hl⟩ := hq
      rw [hxs, I_frzs, ← hxs]
      exact ⟨⟨xs, hxs⟩, hl⟩
    have g1 : V.frzs a0 = a0 := by
      obtain ⟨⟨xs, hxs⟩, hl⟩ := hq
      rw [hxs, I_frzs]
    generalize H_same : same = F_same
    generalize H_IsIs : IsIs = F_IsIs
    refine fnOk_ofI (T := tab) (B := [(82, c_laws_toInt64S F_same F_IsIs)]) (Bi := []) [0, 1, 2] Try.func74 rfl rfl (by kernel_rfl) (Nat.le_of_ble_eq_true rfl) mixed tabOk (by subst H_same H_IsIs; exact (bookCons s_spec_l01Own bookNil)) (by subst H_same H_IsIs; exact bookINil) (by kernel_rfl) ?_
    intro L lp rr hL hr hf hlp
    conv => cbv
    simp only [stdEqs hL]
    subst H_same H_IsIs
    exact ⟨q1, by rw [hr, g1]⟩
  · cases h
theorem II_replicate (o : Bool) (n : Nat) (xs : List Int) : II o (List.replicate n xs) = List.replicate n (.slc o 2 (.int .i64 0) (I xs)) := by simp [II, List.map_replicate]
theorem II_append (o : Bool) (a b : List (List Int)) : II o (a ++ b) = II o a ++ II o b := by simp [II]
theorem frzs_BB {a : List V} (h : IsBB false a) : V.frzs a = a := by
  obtain ⟨l, rfl⟩ := h
  rw [BB_frzs]
theorem frzs_II {a : List V} (h : IsII false a) : V.frzs a = a := by
  obtain ⟨l, rfl⟩ := h
  rw [II_frzs]
end Go.Ax
/-
  Lists that are built in order; divisors of branches, ratios, generators; polar invariants. No conditions but those of the contracts.
-/
set_option linter.all false
namespace Go.Ax
open Go.Proofs

def tab' {α : Type} (f : Nat → α) (n : Nat) : List α := (List.range n).map f
theorem tab_len {α : Type} (f : Nat → α) (n : Nat) : (tab' f n).length = n := by simp [tab']
theorem tab_succ {α : Type} (f : Nat → α) (n : Nat) : tab' f (n + 1) = tab' f n ++ [f n] := by simp [tab', List.range_succ]
theorem tab_get {α : Type} (f : Nat → α) (n i : Nat) (d : α) (h : i < n) : (tab' f n).getD i d = f i := by
  simp [tab', List.getD_eq_getElem?_getD, List.getElem?_map, List.getElem?_range h]
theorem tab_get? {α : Type} (f : Nat → α) (n i : Nat) (h : i < n) : (tab' f n)[i]? = some (f i) := by
  simp [tab', List.getElem?_range h]
theorem tab_congr {α : Type} {f g : Nat → α} {n : Nat} (h : ∀ i, i < n → f i = g i) : tab' f n = tab' g n := by
  simp only [tab']
  apply List.map_congr_left
  intro i hi
  exact h i (by simpa using hi)
theorem take_tab {α : Type} (f : Nat → α) (n k : Nat) (h : k ≤ n) : (tab' f n).take k = tab' f k := by
  simp only [tab', ← List.map_take, List.take_range, Nat.min_eq_left h]
abbrev W (n : Int) : Int := IntKind.wrap .i64 n
theorem dec_step : ∀ (l : List Int), dec l = true → ∀ i, i + 1 < l.length → l.getD (i + 1) 0 < l.getD i 0
  | [], h, _, _ => by simp [dec] at h
  | [a], _, i, hi => by simp at hi
  | a :: b :: l, h, i, hi => by
    simp only [dec] at h
    cases hab : decide (a ≤ b) with
    | true => rw [hab] at h; simp at h
    | false =>
      rw [hab] at h
      simp only [decide_eq_false_iff_not] at hab
      cases i with
      | zero => simp; omega
      | succ i => simpa using dec_step (b :: l) h i (by simpa using hi)
theorem dec_last : ∀ (l : List Int), dec l = true → l ≠ [] ∧ l.getD (l.length - 1) 0 = 1
  | [], h => by simp [dec] at h
  | [a], h => by simpa [dec] using h
  | a :: b :: l, h => by
    simp only [dec] at h
    cases hab : decide (a ≤ b) with
    | true => rw [hab] at h; simp at h
    | false =>
      rw [hab] at h
      refine ⟨by simp, ?_⟩
      have := (dec_last (b :: l) h).2
      simpa using this
theorem asc_step : ∀ (l : List Int), asc l = true → ∀ i, i + 1 < l.length → l.getD i 0 < l.getD (i + 1) 0
  | [], _, _, hi => by simp at hi
  | [a], _, i, hi => by simp at hi
  | a :: b :: l, h, i, hi => by
    simp only [asc] at h
    cases hab : decide (b ≤ a) with
    | true => rw [hab] at h; simp at h
    | false =>
      rw [hab] at h
      simp only [decide_eq_false_iff_not] at hab
      cases i with
      | zero => simp; omega
      | succ i => simpa using asc_step (b :: l) h i (by simpa using hi)

structure Br (xs : List Int) : Prop where
  is : isBr xs = true
  pos : 0 < xs.length
  len : xs.length ≤ 64
  low : ∀ i, i < xs.length → 1 ≤ xs.getD i 0
  high : ∀ i, i < xs.length → xs.getD i 0 ≤ 2000
  up : ∀ i, i + 1 < xs.length → xs.getD i 0 < xs.getD (i + 1) 0
  first : xs.getD 0 0 ≤ 64
  dlen : (dv xs).length = xs.length
  d0 : (dv xs).getD 0 0 = xs.getD 0 0
  dpos : ∀ i, i < xs.length → 1 ≤ (dv xs).getD i 0
  dhi : ∀ i, i < xs.length → (dv xs).getD i 0 ≤ 64
  dstep : ∀ i, i + 1 < xs.length → (dv xs).getD (i + 1) 0 < (dv xs).getD i 0
  dlast : (dv xs).getD (xs.length - 1) 0 = 1
theorem br_of {xs : List Int} (h : isBr xs = true) : Br xs := by
  obtain ⟨t, l, hx, h1, h2, hw, hd⟩ := isBr_facts h
  have h' := h
  simp only [isBr, cond_and', Bool.and_eq_true] at h'
  obtain ⟨⟨⟨⟨_, _⟩, ha⟩, _⟩, hdec⟩ := h'
  have hdl : (dv xs).length = xs.length := by rw [dv, dvGo_len]
  have hpos : 0 < xs.length := by rw [hx]; simp
  have hall : ∀ i, i < xs.length → 1 ≤ xs.getD i 0 ∧ xs.getD i 0 ≤ 2000 := by
    intro i hi
    simp only [within, List.all_eq_true, inRange, Bool.and_eq_true, decide_eq_true_eq] at hw
    rw [List.getD_eq_getElem?_getD, List.getElem?_eq_getElem hi]
    exact hw _ (List.getElem_mem hi)
  have hd0 : (dv xs).getD 0 0 = xs.getD 0 0 := by rw [hx]; simp [dv, dvGo, gcdW_zero (show 0 < t by omega)]
  have hst : ∀ i, i + 1 < xs.length → (dv xs).getD (i + 1) 0 < (dv xs).getD i 0 := fun i hi => dec_step _ hdec i (by omega)
  have hx0 : xs.getD 0 0 = t := by rw [hx]; rfl
  have hhi : ∀ i : Nat, i < xs.length → (dv xs).getD i 0 ≤ 64 - i := by
    intro i
    induction i with
    | zero => intro _; rw [hd0, hx0]; omega
    | succ i ih =>
      intro hi
      have := ih (by omega)
      have := hst i hi
      omega
  have hlast := (dec_last _ hdec).2
  rw [hdl] at hlast
  refine ⟨h, hpos, ?_, fun i hi => (hall i hi).1, fun i hi => (hall i hi).2, fun i hi => asc_step _ ha i hi, by rw [hx0]; omega, hdl, hd0, fun i hi => hd i hi, fun i hi => by have := hhi i hi; omega, hst, hlast⟩
  have := hhi (xs.length - 1) (by omega)
  rw [hlast] at this
  omega
def IsBr (es : List V) : Prop := ∃ xs, es = I xs ∧ Br xs
theorem IsBr.isP {es : List V} (h : IsBr es) : IsP es := by
  obtain ⟨xs, rfl, hb⟩ := h
  obtain ⟨t, l, rfl, h1, _⟩ := isBr_facts hb.is
  exact ⟨t, l, rfl, by omega, by have := hb.len; simp at this; omega⟩
theorem IsBr.isIs {es : List V} (h : IsBr es) : IsIs es := h.isP.isIs

def c_B_l (f : List V → List V) (q : List V → Prop) : Contract := fun
  | [.agg [.slc false 2 (.int .i64 0) a0]] => some ([q a0], .slc true 2 (.int .i64 0) (f a0))
  | _ => none
def rat (xs : List Int) (i : Nat) : Int := W (((dv xs).getD i 0).tdiv ((dv xs).getD (i + 1) 0))
def ratF (xs : List Int) : Nat → Int
  | 0 => 0
  | i + 1 => rat xs i
def ratios (xs : List Int) : List Int := tab' (ratF xs) xs.length
def f_ratios (a : List V) : List V := I (ratios (unI a))
set_option maxHeartbeats 1000000 in
set_option maxRecDepth 100000 in
theorem s_impl_ratios : Sat Try.prog 30 (c_B_l f_ratios IsBr) := by
  intro args ps r h hp
  unfold c_B_l at h
  split at h
  · rename_i a0
    simp only [Option.some.injEq, Prod.mk.injEq] at h
    obtain ⟨rfl, rfl⟩ := h
    have hq : IsBr a0 := (alls_cons.1 hp).1
    have hqi := hq.isIs
    obtain ⟨xs, hxs, hb⟩ := hq
    have g1 : V.frzs a0 = a0 := by rw [hxs, I_frzs]
    have hdl := hb.dlen
    have hp1 := hb.pos
    have hl1 := hb.len
    obtain ⟨ds, hds⟩ : ∃ ds, ds = I (dv xs) := ⟨_, rfl⟩
    have hdsl : ds.length = xs.length := by rw [hds, I_length, hdl]
    generalize H_f0_dv : f0_dv = F_f0_dv
    generalize H_IsIs : IsIs = F_IsIs
    refine fnOk_ofI (T := tab) (B := [(29, c_l_l F_f0_dv F_IsIs)]) (Bi := []) [0, 1, 2, 3, 4, 5] Try.func30 rfl rfl (by kernel_rfl) (Nat.le_of_ble_eq_true rfl) mixed tabOk (by subst H_f0_dv H_IsIs; exact (bookCons s_impl_divisors bookNil)) (by subst H_f0_dv H_IsIs; exact bookINil) (by kernel_rfl) ?_
    intro L lp rr hL hr hf hlp
    conv => cbv
    have hF : F_f0_dv (V.frzs a0) = ds := by rw [← H_f0_dv, g1, hds, f0_dv, hxs, unI_I]
    simp only [stdEqs hL, hF]
    refine ⟨by rw [← H_IsIs, g1]; exact hqi, ?_⟩
    refine hlp (List V × Int) _ _ _ [3, 4, 5] (fun x => [(3, none, .val (.slc true 2 (.int .i64 0) ds)), (4, none, .val (.slc true 2 (.int .i64 0) x.1)), (5, none, .val (.int .i64 x.2))])
      (fun x => 1 ≤ x.2 ∧ x.2 ≤ xs.length ∧ x.1 = I (tab' (ratF xs) x.2.toNat)) (fun x => (xs.length - x.2).toNat) ([.int .i64 0], 1) (by subst hL; rfl) ⟨by simp, by simp only; omega, rfl⟩ ?_
    rintro ⟨es, i⟩ ⟨i0, i1, h1⟩ hfx ag hag
    conv => cbv
    simp only at i0 i1 h1
    have hel : es.length = i.toNat := by rw [h1, I_length, tab_len]
    have ew : W (i - 1) = i - 1 := wrap_id (by omega) (by omega)
    have hg : ds.getD i.toNat (.int .i64 0) = .int .i64 ((dv xs).getD i.toNat 0) := by rw [hds, I_getD]
    have hg' : ds.getD (i - 1).toNat (.int .i64 0) = .int .i64 ((dv xs).getD (i - 1).toNat 0) := by rw [hds, I_getD]
    simp only [stdEqs hL, hdsl, hel, ew, hg, hg', ok_int, toI_int, imp_self, true_and, decide_eq_true_eq, decide_eq_false_iff_not]
    refine ⟨fun h => ?_, fun h => ?_⟩
    · have hpos := hb.dpos i.toNat (by omega)
      (repeat' first | (exact solid_one _) | (exact solid1 rfl) | (exact noown_one _) | (apply And.intro) | (intro _)) <;> (try first | exact True.intro | omega | rfl | (simp only [List.length_cons, List.length_nil, I_length]; omega))
      rw [wrap_id (n := i + 1) (by omega) (by omega)]
      refine hag (_, i + 1) ⟨by simp only; omega, by simp only; omega, ?_⟩ (by simp only; omega)
      have e1 : i.toNat = (i - 1).toNat + 1 := by omega
      simp only [toNat_succ (show 0 ≤ i by omega)]
      rw [tab_succ, h1, ← I_append]
      congr 1
      rw [e1]
      rfl
    · rw [hr, f_ratios, hxs, unI_I, h1, ratios, show i.toNat = xs.length by omega]
  · cases h

def genF (xs : List Int) : Nat → Int
  | 0 => xs.getD 0 0
  | 1 => xs.getD 1 0
  | i + 2 => W (W (W (rat xs i * genF xs (i + 1)) + xs.getD (i + 2) 0) - xs.getD (i + 1) 0)
def gens (xs : List Int) : List Int := tab' (genF xs) xs.length
def f_gens (a : List V) : List V := I (gens (unI a))
set_option maxHeartbeats 1000000 in
set_option maxRecDepth 100000 in
theorem s_impl_generators : Sat Try.prog 31 (c_B_l f_gens IsBr) := by
  intro args ps r h hp
  unfold c_B_l at h
  split at h
  · rename_i a0
    simp only [Option.some.injEq, Prod.mk.injEq] at h
    obtain ⟨rfl, rfl⟩ := h
    have hq : IsBr a0 := (alls_cons.1 hp).1
    have hqi := hq
    obtain ⟨xs, hxs, hb⟩ := hq
    have g1 : V.frzs a0 = a0 := by rw [hxs, I_frzs]
    have hp1 := hb.pos
    have hl1 := hb.len
    have hxl : a0.length = xs.length := by rw [hxs, I_length]
    obtain ⟨ds, hds⟩ : ∃ ds, ds = I (ratios xs) := ⟨_, rfl⟩
    have hdsl : ds.length = xs.length := by rw [hds, I_length, ratios, tab_len]
    generalize H_f_ratios : f_ratios = F_f_ratios
    generalize H_IsBr : IsBr = F_IsBr
    refine fnOk_ofI (T := tab) (B := [(30, c_B_l F_f_ratios F_IsBr)]) (Bi := []) [0, 1, 2, 3, 4, 5, 6] Try.func31 rfl rfl (by kernel_rfl) (Nat.le_of_ble_eq_true rfl) mixed tabOk (by subst H_f_ratios H_IsBr; exact (bookCons s_impl_ratios bookNil)) (by subst H_f_ratios H_IsBr; exact bookINil) (by kernel_rfl) ?_
    intro L lp rr hL hr hf hlp
    conv => cbv
    have hF : F_f_ratios (V.frzs a0) = ds := by rw [← H_f_ratios, g1, hds, f_ratios, hxs, unI_I]
    have hg0 : a0.getD (Int.toNat 0) (.int .i64 0) = .int .i64 (xs.getD 0 0) := by rw [hxs, I_getD]; rfl
    simp only [stdEqs hL, hF, hg0, hxl, ok_int, toI_int, true_and]
    refine ⟨by rw [← H_IsBr, g1]; exact hqi, by omega, by omega, ?_⟩
    refine hlp (List V × Int) _ _ _ [1, 3, 4, 5] (fun x => [(1, none, .val (.box 26 (.agg [.slc false 2 (.int .i64 0) a0]))), (3, none, .val (.slc true 2 (.int .i64 0) ds)), (4, none, .val (.slc true 2 (.int .i64 0) x.1)), (5, none, .val (.int .i64 x.2))])
      (fun x => 1 ≤ x.2 ∧ x.2 ≤ xs.length ∧ x.1 = I (tab' (genF xs) x.2.toNat)) (fun x => (xs.length - x.2).toNat) ([.int .i64 (xs.getD 0 0)], 1) (by subst hL; rfl) ⟨by simp, by simp only; omega, rfl⟩ ?_
    rintro ⟨es, i⟩ ⟨i0, i1, h1⟩ hfx ag hag
    conv => cbv
    simp only at i0 i1 h1
    have hel : es.length = i.toNat := by rw [h1, I_length, tab_len]
    have ew : W (i - 1) = i - 1 := wrap_id (by omega) (by omega)
    have hg : a0.getD i.toNat (.int .i64 0) = .int .i64 (xs.getD i.toNat 0) := by rw [hxs, I_getD]
    have hg' : a0.getD (i - 1).toNat (.int .i64 0) = .int .i64 (xs.getD (i - 1).toNat 0) := by rw [hxs, I_getD]
    have hgr : ds.getD (i - 1).toNat (.int .i64 0) = .int .i64 ((ratios xs).getD (i - 1).toNat 0) := by rw [hds, I_getD]
    have hge : es.getD (i - 1).toNat (.int .i64 0) = .int .i64 ((tab' (genF xs) i.toNat).getD (i - 1).toNat 0) := by rw [h1, I_getD]
    simp only [stdEqs hL, hdsl, hel, hxl, ew, hg, hg', hgr, hge, ok_int, toI_int, imp_self, true_and, decide_eq_true_eq, decide_eq_false_iff_not]
    refine ⟨fun h => ?_, fun h => ?_⟩
    · have fin : ∀ y, y = genF xs i.toNat → ag [(1, none, .val (.box 26 (.agg [.slc false 2 (.int .i64 0) a0]))), (3, none, .val (.slc true 2 (.int .i64 0) ds)), (4, none, .val (.slc true 2 (.int .i64 0) (es ++ [.int .i64 y]))), (5, none, .val (.int .i64 (W (i + 1))))] := by
        intro y hy
        rw [show W (i + 1) = i + 1 from wrap_id (by omega) (by omega)]
        refine hag (es ++ [.int .i64 y], i + 1) ⟨by simp only; omega, by simp only; omega, ?_⟩ (by simp only; omega)
        simp only [toNat_succ (show 0 ≤ i by omega)]
        rw [tab_succ, h1, ← I_append, hy]
        rfl
      (repeat' first | (exact solid_one _) | (exact solid1 rfl) | (exact noown_one _) | (apply And.intro) | (intro _)) <;> (try first | exact True.intro | omega | rfl | (simp only [List.length_cons, List.length_nil, I_length]; omega))
      · refine fin _ ?_
        obtain ⟨k, hk⟩ : ∃ k : Nat, i = k + 2 := ⟨(i - 2).toNat, by omega⟩
        subst hk
        rw [show ((k : Int) + 2).toNat = k + 2 by omega, show ((k : Int) + 2 - 1).toNat = k + 1 by omega, tab_get _ _ _ _ (by omega), ratios, tab_get _ _ _ _ (by omega)]
        rfl
      · refine fin _ ?_
        obtain rfl : i = 1 := by omega
        rfl
    · rw [hr, f_gens, hxs, unI_I, h1, gens, show i.toNat = xs.length by omega]
  · cases h
end Go.Ax
/-
  Polar invariants. No conditions but those of the contracts.
-/
set_option linter.all false
namespace Go.Ax
open Go.Proofs

end Go.Ax
/-
  What the laws do with graphs: sizes, copies, comparisons. No conditions but those of the contracts.
-/
set_option linter.all false
namespace Go.Ax
open Go.Proofs

def IsIIs (es : List V) : Prop := ∃ xss, es = II false xss ∧ xss.length ≤ 2147483647 ∧ ∀ xs ∈ xss, xs.length ≤ 2147483647
theorem IsIIs.isII {es : List V} (h : IsIIs es) : IsII false es := by
  obtain ⟨x, h, _⟩ := h
  exact ⟨x, h⟩
theorem IsIs.frz {es : List V} (h : IsIs es) : V.frzs es = es := by
  obtain ⟨⟨x, h⟩, _⟩ := h
  rw [h, I_frzs]
theorem IsI.frz {es : List V} (h : IsI es) : V.frzs es = es := by
  obtain ⟨x, h⟩ := h
  rw [h, I_frzs]
end Go.Ax
