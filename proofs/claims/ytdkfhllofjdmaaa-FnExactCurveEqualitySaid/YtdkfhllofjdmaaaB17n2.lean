import Derived.Test.YtdkfhllofjdmaaaB08n2
import Derived.Test.YtdkfhllofjdmaaaB16n2
import Derived.Test.YtdkfhllofjdmaaaB09n2
/-
  Curves renumbered. No conditions but those of the contracts.
-/
set_option linter.all false
namespace Go.Ax
open Go.Proofs
set_option maxHeartbeats 1000000

def f_rnm (a b l : List V) : List V × List V := f_part a b (I (ordP (unI l)))
def q_rnm (a b l : List V) : Prop := q_cv a b ∧ ∃ xs, l = I xs ∧ PmP xs ∧ xs.length = a.length
def rowK (ms : List (List Int)) (ls : List Int) (i : Nat) : List Int := putK ls (fun k => mm ms i k) 0 ls.length ls.length
set_option maxHeartbeats 1000000 in
set_option maxRecDepth 100000 in
theorem s_impl_renumbered : Sat Try.prog 27 (c_Cl_C f_rnm q_rnm) := by
  intro args ps r h hp
  unfold c_Cl_C at h
  split at h
  · rename_i a0 a1 a2
    simp only [Option.some.injEq, Prod.mk.injEq] at h
    obtain ⟨rfl, rfl⟩ := h
    obtain ⟨⟨⟨⟨bs, hbs, hb1, hb2⟩, ⟨ms, hms, hm1, hm2⟩⟩, hcv⟩, ⟨ls,hls,hpm,hll⟩⟩ := (alls_cons.1 hp).1
    rw [hbs, hms, unBB_BB, unII_II] at hcv
    have g1 : V.frzs a0 = a0 := by rw [hbs, BB_frzs]
    have g2 : V.frzs a1 = a1 := by rw [hms, II_frzs]
    have hbl : a0.length = bs.length := by rw [hbs, BB_length]
    have hml : a1.length = ms.length := by rw [hms, II_length]
    have gb : ∀ k, a0.getD k (.agg [.slc false 2 (.int .i64 0) []]) = .agg [.slc false 2 (.int .i64 0) (I (bs.getD k []))] := fun k => by rw [hbs, BB_getD]
    have gm : ∀ k, a1.getD k (.slc false 2 (.int .i64 0) []) = .slc false 2 (.int .i64 0) (I (ms.getD k [])) := fun k => by rw [hms, II_getD]
    have hm0 : ∀ x y : Nat, (ms.getD x []).getD y 0 = mm ms x y := fun _ _ => rfl
    obtain ⟨n, hn⟩ : ∃ n : Int, n = bs.length := ⟨_, rfl⟩
    have n1 := hcv.n1
    have n6 := hcv.n6
    have hmn : ms.length = bs.length := hcv.tab.len
    have hbr : ∀ i, i < bs.length → Br (bs.getD i []) := fun i hi => br_of (hcv.br i hi)
    have rl : ∀ k, k < bs.length → (ms.getD k []).length = bs.length := fun k hk => (hcv.tab.row k hk).1
    have mmr : ∀ i k, i < bs.length → k < bs.length → 0 ≤ mm ms i k ∧ mm ms i k ≤ 200 := fun i k hi hk => hcv.tab.range hi hk
    have mmo : ∀ i k, i < bs.length → k < bs.length → i ≠ k → 1 ≤ mm ms i k ∧ mm ms i k ≤ 200 := fun i k hi hk hne => ((hcv.tab.row i hi).2 k hk).2 hne
    rw [hbl] at hll
    have hf0 : f_rnm a0 a1 a2 = (BB true (partB bs (ordP ls)), II true (partM ms (ordP ls))) := by rw [f_rnm, f_part, hbs, hms, hls, unBB_BB, unII_II, unI_I, unI_I]
    have hal : a2.length = ls.length := by rw [hls, I_length]
    have gl : ∀ k, a2.getD k (.int .i64 0) = .int .i64 (ls.getD k 0) := fun k => by rw [hls, I_getD]
    have hin := hpm.inr
    obtain ⟨m, hm⟩ : ∃ m : Int, m = ls.length := ⟨_, rfl⟩
    generalize H_same : same = F_same
    generalize H_IsIs : IsIs = F_IsIs
    generalize H_f0_square : f0_square = F_f0_square
    generalize H_q_n : q_n = F_q_n
    refine fnOk_ofI (T := tab) (B := [(54, c_b_b F_same F_IsIs), (53, c_n_ll F_f0_square F_q_n)]) (Bi := []) [2000001012, 2000001015, 0, 1, 2, 4, 5, 6, 7, 8, 9, 18, 19, 20, 38, 39, 40] Try.func27 rfl rfl (by kernel_rfl) (Nat.le_of_ble_eq_true rfl) mixed tabOk (by subst H_same H_IsIs H_f0_square H_q_n; exact (bookCons s_impl_copyBranch (bookCons s_impl_square bookNil))) (by subst H_same H_IsIs H_f0_square H_q_n; exact bookINil) (by kernel_rfl) ?_
    intro L lp rr hL hr hf hlp
    have qcp : ∀ x, Br x → F_IsIs (I x) := fun x hx => by rw [← H_IsIs]; exact ⟨⟨_, rfl⟩, by rw [I_length]; have := hx.len; omega⟩
    have ecp : ∀ x, F_same (I x) = I x := fun x => by rw [← H_same]; rfl
    have Esq : F_f0_square m = II true (List.replicate ls.length (List.replicate ls.length 0)) := by rw [← H_f0_square, f0_square, hm, Int.toNat_natCast]
    conv => cbv
    simp only [stdEqs hL, imp_self, true_and, and_true, bif_or, bif_and, Bool.or_eq_true, Bool.or_eq_false_iff, Bool.and_eq_true, Bool.and_eq_false_iff, decide_eq_true_eq, decide_eq_false_iff_not, Bool.not_eq_true', Bool.not_eq_false', beq_iff_eq, beq_eq_false_iff_ne, ne_eq, toNat0, toNat1, ok_int, toI_int, I_frzs, I_length, I_getD, ok_ints, toL_slc, hal, ← hm, Esq]
    obtain ⟨fs0, hfs0⟩ : ∃ fs0, fs0 = List.replicate m.toNat (V.agg [V.slc true 2 (V.int IntKind.i64 0) []]) := ⟨_, rfl⟩
    obtain ⟨gs0, hgs0⟩ : ∃ gs0, gs0 = II true (List.replicate ls.length (List.replicate ls.length 0)) := ⟨_, rfl⟩
    have hF0 : fs0 = BB true (putK ls (fun i => bs.getD i []) [] ls.length 0) := by
      rw [hfs0, putK, BB_replicate, hm, Int.toNat_natCast]; rfl
    have hG0 : gs0 = II true (putK ls (rowK ms ls) (List.replicate ls.length 0) ls.length 0) := by rw [hgs0, putK]
    rw [← hfs0, ← hgs0]
    refine ⟨by omega, by omega, by omega, by rw [← H_q_n]; exact ⟨by omega, by omega⟩, ?_⟩
    refine hlp ((List V × List V) × Int) _ _ _ [1, 2, 4, 5, 18, 19, 20] (fun x => [(1, none, .val (.slc false 2 (.int .i64 0) a2)), (2, none, .val (.box 32 (.agg [.slc false 61 (.agg [.slc false 2 (.int .i64 0) []]) a0, .slc false 27 (.slc false 2 (.int .i64 0) []) a1]))), (4, none, .val (.box 32 (.agg [.slc true 61 (.agg [.slc true 2 (.int .i64 0) []]) [], .slc true 27 (.slc true 2 (.int .i64 0) []) []]))), (5, none, .val (.box 32 (.agg [.slc true 61 (.agg [.slc true 2 (.int .i64 0) []]) x.1.1, .slc true 27 (.slc true 2 (.int .i64 0) []) x.1.2]))), (18, none, .val (.slc false 61 (.agg [.slc false 2 (.int .i64 0) []]) a0)), (19, none, .val (.int .i64 n)), (20, none, .val (.int .i64 x.2))])
      (fun x => 0 ≤ x.2 ∧ x.2 ≤ n ∧ x.1.1 = BB true (putK ls (fun i => bs.getD i []) [] ls.length x.2.toNat) ∧ x.1.2 = II true (putK ls (rowK ms ls) (List.replicate ls.length 0) ls.length x.2.toNat)) (fun x => (n - x.2).toNat) (((fs0, gs0), 0)) (by subst hL; rw [hn, ← hbl]; rfl) ?_ ?_
    · exact ⟨by simp, by simp only; omega, hF0, hG0⟩
    rintro ⟨⟨fs, gs⟩, i⟩ ⟨i0, i1, hI, hJ⟩ hfx ag hag
    simp only at i0 i1 hI hJ
    have hfl : fs.length = ls.length := by rw [hI, BB_length, putK_len]
    have hgl : gs.length = ls.length := by rw [hJ, II_length, putK_len]
    obtain ⟨fsg, hfsg⟩ : ∃ fsg : Nat → List Int, ∀ k, fs.getD k (V.agg [V.slc true 2 (V.int IntKind.i64 0) []]) = V.agg [V.slc true 2 (V.int IntKind.i64 0) (I (fsg k))] := ⟨fun k => (putK ls (fun i => bs.getD i []) [] ls.length i.toNat).getD k [], fun k => by rw [hI, BB_getD]⟩
    conv => cbv
    simp only [stdEqs hL, imp_self, true_and, and_true, bif_or, bif_and, Bool.or_eq_true, Bool.or_eq_false_iff, Bool.and_eq_true, Bool.and_eq_false_iff, decide_eq_true_eq, decide_eq_false_iff_not, Bool.not_eq_true', Bool.not_eq_false', beq_iff_eq, beq_eq_false_iff_ne, ne_eq, toNat0, toNat1, ok_int, toI_int, I_frzs, I_length, I_getD, ok_ints, toL_slc, hbl, hml, gb, gm, ok_bran, toL_bran, fld_bran, hal, gl, ecp, hfl, hgl, hfsg, ← hn]
    refine ⟨fun h2 => ?_, fun h2 => ?_⟩
    · have hil : i.toNat < ls.length := by omega
      have hxi := hin _ hil
      have hbx := hbr i.toNat (by omega)
      have hrx := rl i.toNat (by omega)
      have qx := qcp _ hbx
      obtain ⟨fs', hfs'⟩ : ∃ fs', fs' = fs.set (ls.getD i.toNat 0).toNat (V.agg [.slc true 2 (.int .i64 0) (I (bs.getD i.toNat []))]) := ⟨_, rfl⟩
      obtain ⟨vr, hvr⟩ : ∃ vr, vr = I (ms.getD i.toNat []) := ⟨_, rfl⟩
      have hvl : vr.length = ls.length := by rw [hvr, I_length]; omega
      have gv : ∀ k, vr.getD k (.int .i64 0) = .int .i64 (mm ms i.toNat k) := fun k => by rw [hvr, I_getD, hm0]
      obtain ⟨r, hrr⟩ : ∃ r : Int, r = (ms.getD i.toNat []).length := ⟨_, rfl⟩
      have hrn : r = n := by omega
      obtain ⟨G, hG⟩ : ∃ G, G = putK ls (rowK ms ls) (List.replicate ls.length 0) ls.length i.toNat := ⟨_, rfl⟩
      have hGl : G.length = ls.length := by rw [hG, putK_len]
      rw [← hG] at hJ
      rw [← hfs', ← hvr]
      refine ⟨i0, h2, i0, by omega, qx, hxi.1, hxi.2, by omega, .inl (ok_bran _ _ _), i0, by omega, ?_⟩
      obtain ⟨x, hx⟩ : ∃ x, x = ls.getD i.toNat 0 := ⟨_, rfl⟩
      refine hlp (List V × Int) _ _ _ [1, 2, 4, 5, 6, 18, 19, 20, 38, 39, 40] (fun y => [(1, none, .val (.slc false 2 (.int .i64 0) a2)), (2, none, .val (.box 32 (.agg [.slc false 61 (.agg [.slc false 2 (.int .i64 0) []]) a0, .slc false 27 (.slc false 2 (.int .i64 0) []) a1]))), (4, none, .val (.box 32 (.agg [.slc true 61 (.agg [.slc true 2 (.int .i64 0) []]) [], .slc true 27 (.slc true 2 (.int .i64 0) []) []]))), (5, none, .val (.box 32 (.agg [.slc true 61 (.agg [.slc true 2 (.int .i64 0) []]) fs', .slc true 27 (.slc true 2 (.int .i64 0) []) y.1]))), (6, none, .val (.int .i64 i)), (18, none, .val (.slc false 61 (.agg [.slc false 2 (.int .i64 0) []]) a0)), (19, none, .val (.int .i64 n)), (20, none, .val (.int .i64 i)), (38, none, .val (.slc false 2 (.int .i64 0) vr)), (39, none, .val (.int .i64 r)), (40, none, .val (.int .i64 y.2))])
        (fun y => 0 ≤ y.2 ∧ y.2 ≤ n ∧ y.1 = II true (G.set x.toNat (putK ls (fun k => mm ms i.toNat k) 0 ls.length y.2.toNat))) (fun y => (n - y.2).toNat) ((gs, 0)) (by subst hL; rw [hrr]; rfl) ?_ ?_
      · refine ⟨by simp, by simp only; omega, ?_⟩
        simp only
        have e0 : putK ls (fun k => mm ms i.toNat k) 0 ls.length (0 : Int).toNat = List.replicate ls.length 0 := rfl
        rw [hJ, e0, hG, hx, putK_same hpm _ _ hil]
      rintro ⟨ks, k⟩ ⟨k0, k1, hK⟩ hfx2 ag2 hag2
      simp only at k0 k1 hK
      have hln : (ls.length : Int) = n := by omega
      have hn6 : n ≤ 6 := by omega
      have hxn : x.toNat < ls.length := by omega
      have hx0 : 0 ≤ x ∧ x < ls.length := by rw [hx]; exact hxi
      clear hb1 hm1 hb2 hm2 hll n1 n6 hmn hbl hml hn hm hfl hgl hrr hrx hcv mmr mmo hbx rl hbr hxi
      have hkl : ks.length = ls.length := by rw [hK, II_length, List.length_set, hGl]
      obtain ⟨R, hR⟩ : ∃ R, R = putK ls (fun k => mm ms i.toNat k) 0 ls.length k.toNat := ⟨_, rfl⟩
      have hRl : R.length = ls.length := by rw [hR, putK_len]
      rw [← hR] at hK
      have gk : ks.getD x.toNat (.slc true 2 (.int .i64 0) []) = .slc true 2 (.int .i64 0) (I R) := by
        rw [hK, II_getD, set_getD (by omega), if_pos rfl]
      conv => cbv
      simp only [stdEqs hL, imp_self, true_and, and_true, bif_or, bif_and, Bool.or_eq_true, Bool.or_eq_false_iff, Bool.and_eq_true, Bool.and_eq_false_iff, decide_eq_true_eq, decide_eq_false_iff_not, Bool.not_eq_true', Bool.not_eq_false', beq_iff_eq, beq_eq_false_iff_ne, ne_eq, toNat0, toNat1, ok_int, toI_int, I_frzs, I_length, I_getD, ok_ints, toL_slc, hvl, gv, hal, gl, ← hx, hkl, gk]
      refine ⟨fun h3 => ?_, fun h3 => ?_⟩
      · have hkl2 : k.toNat < ls.length := by omega
        have hyk := hin _ hkl2
        rw [wrap_id (n := k + 1) (by omega) (by omega)]
        (repeat' first | (exact solid_one _) | (exact solid1 rfl) | (exact noown_one _) | (apply And.intro) | (intro _)) <;> (try first | exact True.intro | omega | rfl | (simp only [List.length_cons, List.length_nil, I_length]; omega))
        refine hag2 (_, k + 1) ⟨by simp only; omega, by simp only; omega, ?_⟩ (by simp only; omega)
        simp only [toNat_succ k0]
        rw [hK, I_set, II_set, List.set_set, hR, putK]
      · rw [wrap_id (n := i + 1) (by omega) (by omega)]
        refine hag ((fs', ks), i + 1) ⟨by simp only; omega, by simp only; omega, ?_, ?_⟩ (by simp only; omega)
        · simp only [toNat_succ i0]
          rw [hfs', hI, BB_set, putK]
        · simp only [toNat_succ i0]
          rw [hK, hR, putK, ← hG, show k.toNat = ls.length by omega, ← hx]
          rfl
    · rw [hr, hf0, hI, hJ, show i.toNat = ls.length by omega, putK_full hpm, putK_full hpm]
      rw [show (rowK ms ls) = fun i => (ordP ls).map fun k => mm ms i k.toNat from funext fun i => putK_full hpm _ _]
      rfl
  · cases h
end Go.Ax
/-
  Curves renumbered so that they are another one, or least, in plain Lean. No conditions but those of the theorems.
-/
set_option linter.all false
namespace Go.Ax
open Go.Proofs

def keyB (bs : List (List Int)) : List Int := (bs.map fun b => (b.length : Int) :: b).flatten
def keyC (bs ms : List (List Int)) : List Int := keyB bs ++ ms.flatten
theorem flat_inj {n : Nat} : ∀ ms ms' : List (List Int), ms.length = ms'.length → (∀ r ∈ ms, r.length = n) → (∀ r ∈ ms', r.length = n) → ms.flatten = ms'.flatten → ms = ms'
  | [], [], _, _, _, _ => rfl
  | [], _ :: _, h, _, _, _ => by simp at h
  | _ :: _, [], h, _, _, _ => by simp at h
  | r :: ms, r' :: ms', hl, h1, h2, h => by
    rw [List.flatten_cons, List.flatten_cons] at h
    obtain ⟨e1, e2⟩ := List.append_inj h (by rw [h1 r (by simp), h2 r' (by simp)])
    rw [e1, flat_inj ms ms' (by simpa using hl) (fun x hx => h1 x (by simp [hx])) (fun x hx => h2 x (by simp [hx])) e2]
theorem keyB_inj : ∀ (bs bs' : List (List Int)) (u u' : List Int), bs.length = bs'.length → keyB bs ++ u = keyB bs' ++ u' → bs = bs' ∧ u = u'
  | [], [], _, _, _, h => ⟨rfl, h⟩
  | [], _ :: _, _, _, h, _ => by simp at h
  | _ :: _, [], _, _, h, _ => by simp at h
  | b :: bs, b' :: bs', u, u', hl, h => by
    have e : ∀ (b : List Int) bs u, keyB (b :: bs) ++ u = (b.length : Int) :: (b ++ (keyB bs ++ u)) := fun b bs u => by simp [keyB]
    rw [e, e] at h
    obtain ⟨h1, h2⟩ := List.cons.inj h
    obtain ⟨e1, e2⟩ := List.append_inj h2 (by omega)
    obtain ⟨e3, e4⟩ := keyB_inj bs bs' u u' (by simpa using hl) e2
    exact ⟨by rw [e1, e3], e4⟩
theorem keyC_inj {n : Nat} {bs ms bs' ms' : List (List Int)} (h1 : bs.length = bs'.length) (h2 : ms.length = ms'.length) (h3 : ∀ r ∈ ms, r.length = n) (h4 : ∀ r ∈ ms', r.length = n) (h : keyC bs ms = keyC bs' ms') : bs = bs' ∧ ms = ms' := by
  obtain ⟨e1, e2⟩ := keyB_inj bs bs' _ _ h1 h
  exact ⟨e1, flat_inj ms ms' h2 h3 h4 e2⟩
theorem partM_len (ms : List (List Int)) (l : List Int) : (partM ms l).length = l.length := List.length_map _
theorem partM_row {ms : List (List Int)} {l r : List Int} (h : r ∈ partM ms l) : r.length = l.length := by
  obtain ⟨i, _, rfl⟩ := List.mem_map.1 h
  exact List.length_map _
theorem partB_get {bs : List (List Int)} {l : List Int} {j : Nat} (h : j < l.length) : (partB bs l).getD j [] = bs.getD (l.getD j 0).toNat [] := by
  rw [partB, List.getD_eq_getElem?_getD, List.getElem?_map, List.getElem?_eq_getElem h]
  simp [List.getD_eq_getElem?_getD, List.getElem?_eq_getElem h]
theorem partM_get {ms : List (List Int)} {l : List Int} {j k : Nat} (h : j < l.length) (h2 : k < l.length) : mm (partM ms l) j k = mm ms (l.getD j 0).toNat (l.getD k 0).toNat := by
  rw [mm, partM, List.getD_eq_getElem?_getD (l := List.map _ _), List.getElem?_map, List.getElem?_eq_getElem h]
  simp only [Option.map_some, Option.getD_some]
  rw [List.getD_eq_getElem?_getD, List.getElem?_map, List.getElem?_eq_getElem h2]
  simp [List.getD_eq_getElem?_getD, List.getElem?_eq_getElem h, List.getElem?_eq_getElem h2]
theorem part_key {n : Nat} {bs ms : List (List Int)} {q q' : List Int} (h : q.length = n) (h' : q'.length = n) (hk : keyC (partB bs q) (partM ms q) = keyC (partB bs q') (partM ms q')) : partB bs q = partB bs q' ∧ partM ms q = partM ms q' :=
  keyC_inj (n := n) (by rw [partB_len, partB_len, h, h']) (by rw [partM_len, partM_len, h, h']) (fun r hr => by rw [partM_row hr, h]) (fun r hr => by rw [partM_row hr, h']) hk
theorem tab_rows {ms : List (List Int)} {n : Nat} (h : TabP ms n) {r : List Int} (hr : r ∈ ms) : r.length = n := by
  obtain ⟨i, hi, rfl⟩ := List.mem_iff_getElem.1 hr
  have := (h.row i (by rw [← h.len]; exact hi)).1
  rwa [List.getD_eq_getElem?_getD, List.getElem?_eq_getElem hi] at this
theorem mat_ext {ms ns : List (List Int)} {n : Nat} (h1 : ms.length = n) (h2 : ns.length = n) (h3 : ∀ i, i < n → (ms.getD i []).length = n) (h4 : ∀ i, i < n → (ns.getD i []).length = n) (h : ∀ i k, i < n → k < n → mm ms i k = mm ns i k) : ms = ns :=
  getD_ext [] h1 h2 fun j hj => getD_ext 0 (h3 j hj) (h4 j hj) fun k hk => h j k hj hk
def chkC (bs ms ds ns : List (List Int)) (p : List Int) (y : Int) : Bool := (bs.getD p.length [] == ds.getD y.toNat []) && (List.range p.length).all fun k => mm ms p.length k == mm ns y.toNat (p.getD k 0).toNat
theorem chkC_iff {bs ms ds ns : List (List Int)} {p : List Int} {y : Int} : chkC bs ms ds ns p y = true ↔ bs.getD p.length [] = ds.getD y.toNat [] ∧ ∀ k, k < p.length → mm ms p.length k = mm ns y.toNat (p.getD k 0).toNat := by
  simp only [chkC, Bool.and_eq_true, beq_iff_eq, List.all_eq_true, List.mem_range]
theorem gd_iff {bs ms ds ns : List (List Int)} {n : Nat} (hb : bs.length = n) (hd : ds.length = n) (hm : TabP ms n) (hn : TabP ns n) {q : List Int} (hq : q.Perm (iota n)) :
    Gd (chkC bs ms ds ns) q ↔ keyC (partB bs (ordP q)) (partM ms (ordP q)) = keyC ds ns := by
  obtain ⟨hp, hl⟩ := iota_pm hq
  have hol : (ordP q).length = n := by rw [ordP_len, hl]
  have hin := hp.inr
  rw [hl] at hin
  have oat : ∀ t, t < n → (ordP q).getD (q.getD t 0).toNat 0 = t := fun t ht => ordP_at hp (by omega)
  have pB : ∀ t, t < n → (partB bs (ordP q)).getD (q.getD t 0).toNat [] = bs.getD t [] := fun t ht => by
    have := hin t ht
    rw [partB_get (by omega), oat t ht, Int.toNat_natCast]
  have pM : ∀ t s, t < n → s < n → mm (partM ms (ordP q)) (q.getD t 0).toNat (q.getD s 0).toNat = mm ms t s := fun t s ht hs => by
    have := hin t ht
    have := hin s hs
    rw [partM_get (by omega) (by omega), oat t ht, oat s hs, Int.toNat_natCast, Int.toNat_natCast]
  have tk : ∀ i, i < n → (q.take i).length = i := fun i hi => by rw [List.length_take]; omega
  have tg : ∀ i k, k < i → i < n → (q.take i).getD k 0 = q.getD k 0 := fun i k hk hi => by
    rw [List.getD_eq_getElem?_getD, List.getElem?_take_of_lt hk, ← List.getD_eq_getElem?_getD]
  constructor
  · intro h
    have hg : ∀ t, t < n → bs.getD t [] = ds.getD (q.getD t 0).toNat [] ∧ ∀ k, k < t → mm ms t k = mm ns (q.getD t 0).toNat (q.getD k 0).toNat := fun t ht => by
      have h1 := chkC_iff.1 (h t (by omega))
      rw [tk t ht] at h1
      refine ⟨h1.1, fun k hk => ?_⟩
      have := h1.2 k hk
      rwa [tg t k hk ht] at this
    have eB : partB bs (ordP q) = ds := getD_ext [] (by rw [partB_len, hol]) hd fun j hj => by
      obtain ⟨t, ht, he⟩ := hp.sur (j := j) (by omega)
      have := pB t (by omega)
      rw [he, Int.toNat_natCast] at this
      rw [this, (hg t (by omega)).1, he, Int.toNat_natCast]
    have eM : partM ms (ordP q) = ns := mat_ext (n := n) (by rw [partM_len, hol]) hn.len (fun i hi => by
        refine (partM_row (ms := ms) (l := ordP q) ?_).trans hol
        rw [List.getD_eq_getElem?_getD, List.getElem?_eq_getElem (by rw [partM_len, hol]; exact hi)]
        exact List.getElem_mem _) (fun i hi => (hn.row i hi).1) fun i k hi hk => by
      obtain ⟨t, ht, he⟩ := hp.sur (j := i) (by omega)
      obtain ⟨s, hs, he2⟩ := hp.sur (j := k) (by omega)
      rw [hl] at ht hs
      have h1 := pM t s ht hs
      rw [he, he2, Int.toNat_natCast, Int.toNat_natCast] at h1
      rw [h1]
      rcases Nat.lt_trichotomy s t with h2 | h2 | h2
      · have := (hg t ht).2 s h2
        rw [he, he2, Int.toNat_natCast, Int.toNat_natCast] at this
        exact this
      · subst h2
        have e : i = k := by omega
        subst e
        rw [((hm.row s hs).2 s hs).1 rfl, ((hn.row i hi).2 i hi).1 rfl]
      · have := (hg s hs).2 t h2
        rw [he, he2, Int.toNat_natCast, Int.toNat_natCast] at this
        rw [← hm.sym t ht s hs, this, hn.sym i hi k hk]
    rw [eB, eM]
  · intro h
    obtain ⟨eB, eM⟩ := keyC_inj (n := n) (by rw [partB_len, hol, hd]) (by rw [partM_len, hol, hn.len]) (fun r hr => by rw [partM_row hr, hol]) (fun r hr => tab_rows hn hr) h
    intro i hi
    rw [chkC_iff, tk i (by omega)]
    refine ⟨?_, fun k hk => ?_⟩
    · rw [← pB i (by omega), eB]
    · rw [tg i k hk (by omega), ← pM i k (by omega) (by omega), eM]
theorem LeastG.congr {G G' : List Int → Prop} {n : Nat} {r : List Int} (h : ∀ q, q.Perm (iota n) → (G q ↔ G' q)) (hr : LeastG G n r) : LeastG G' n r := by
  rcases hr with ⟨e, h1⟩ | ⟨h1, h2, h3⟩
  · exact .inl ⟨e, fun q hq hG => h1 q hq ((h q hq).2 hG)⟩
  · exact .inr ⟨h1, (h r h1).1 h2, fun q hq hG => h3 q hq ((h q hq).2 hG)⟩
theorem ordP_pm {q : List Int} (h : PmP q) : PmP (ordP q) := fun t ht => by
  rw [ordP_len] at ht
  have h1 := ordP_at h ht
  have h2 := h.inr t ht
  rw [← h1, List.getD_eq_getElem?_getD, List.getElem?_eq_getElem (by rw [ordP_len]; omega)]
  exact List.getElem_mem _
def kP (bs ms : List (List Int)) (q : List Int) : List Int := keyC (partB bs q) (partM ms q)
def LeastC (bs ms : List (List Int)) (n : Nat) (R : List (List Int) × List (List Int)) : Prop :=
  (∃ q, q.Perm (iota n) ∧ R = (partB bs q, partM ms q)) ∧ ∀ q, q.Perm (iota n) → lexLt (kP bs ms q) (keyC R.1 R.2) = false
theorem LeastC.unique {bs ms : List (List Int)} {n : Nat} {R R' : List (List Int) × List (List Int)} (h : LeastC bs ms n R) (h' : LeastC bs ms n R') : R = R' := by
  obtain ⟨⟨q, hq, rfl⟩, h⟩ := h
  obtain ⟨⟨q', hq', rfl⟩, h'⟩ := h'
  have e := lexLt_tri _ _ (h' q hq) (h q' hq')
  obtain ⟨e1, e2⟩ := part_key (n := n) (by rw [hq.length_eq, iota_len]) (by rw [hq'.length_eq, iota_len]) e
  rw [e1, e2]
theorem lex_le_trans {a b c : List Int} (h1 : lexLt b a = false) (h2 : lexLt c b = false) : lexLt c a = false := lexLt_ntrans c b a h2 h1
def LC (bs ms : List (List Int)) (n : Nat) (P : List Int → Prop) (B R : List (List Int) × List (List Int)) : Prop :=
  (R = B ∨ ∃ q, q.Perm (iota n) ∧ R = (partB bs q, partM ms q)) ∧ lexLt (keyC B.1 B.2) (keyC R.1 R.2) = false ∧ ∀ q, q.Perm (iota n) → P q → lexLt (kP bs ms q) (keyC R.1 R.2) = false
theorem LC.trans {bs ms : List (List Int)} {n : Nat} {P P' : List Int → Prop} {B R S : List (List Int) × List (List Int)} (h : LC bs ms n P B R) (h' : LC bs ms n P' R S) : LC bs ms n (fun q => P q ∨ P' q) B S := by
  obtain ⟨a1, a2, a3⟩ := h
  obtain ⟨b1, b2, b3⟩ := h'
  refine ⟨?_, lex_le_trans b2 a2, fun q hq hP => ?_⟩
  · rcases b1 with rfl | b1
    · exact a1
    · exact .inr b1
  · rcases hP with hP | hP
    · exact lex_le_trans b2 (a3 q hq hP)
    · exact b3 q hq hP
def LeastU (bs ms : List (List Int)) (n : Nat) (p : List Int) (R : List (List Int) × List (List Int)) : Prop :=
  (∃ q, q.Perm (iota n) ∧ R = (partB bs (ordP q), partM ms (ordP q))) ∧ ∀ q, q.Perm (iota n) → (lexLt q p = true ∨ q = p) → lexLt (kP bs ms (ordP q)) (keyC R.1 R.2) = false
theorem LeastU.next {bs ms : List (List Int)} {n : Nat} {p : List Int} {R : List (List Int) × List (List Int)} (h : LeastU bs ms n p R) (hp : p.Perm (iota n)) (hb : npB p = true) :
    LeastU bs ms n (npL p) (if lexLt (kP bs ms (ordP (npL p))) (keyC R.1 R.2) then (partB bs (ordP (npL p)), partM ms (ordP (npL p))) else R) := by
  have hp' := np_perm hp hb
  obtain ⟨a1, a2⟩ := h
  by_cases hc : lexLt (kP bs ms (ordP (npL p))) (keyC R.1 R.2) = true
  · rw [if_pos hc]
    refine ⟨⟨npL p, hp', rfl⟩, fun q hq h => ?_⟩
    rcases h with h | rfl
    · rw [np_step hp hb hq] at h
      have h1 := a2 q hq h
      cases h2 : lexLt (kP bs ms (ordP q)) (keyC (partB bs (ordP (npL p))) (partM ms (ordP (npL p)))) with
      | false => rfl
      | true => rw [lexLt_trans _ _ _ h2 hc] at h1; cases h1
    · exact lexLt_irrefl _
  · rw [if_neg hc]
    refine ⟨a1, fun q hq h => ?_⟩
    rcases h with h | rfl
    · exact a2 q hq ((np_step hp hb hq).1 h)
    · simpa using hc
theorem maps_hit {bs ms ds ns : List (List Int)} {n : Nat} (hb : bs.length = n) (hd : ds.length = n) (hm : TabP ms n) (hn : TabP ns n) (h1 : 1 ≤ n) {p : List Int} (hp : p.Perm (iota n))
    (hlt : ∀ q, q.Perm (iota n) → lexLt q p = true → ¬ kP bs ms (ordP q) = keyC ds ns) (he : kP bs ms (ordP p) = keyC ds ns) : mapsF (chkC bs ms ds ns) n n [] = p := by
  refine (mapsF_least h1).unique (LeastG.congr (G := fun q => kP bs ms (ordP q) = keyC ds ns) (fun q hq => (gd_iff hb hd hm hn hq).symm) (.inr ⟨hp, he, fun q hq hG => ?_⟩))
  cases h : lexLt q p with
  | false => rfl
  | true => exact absurd hG (hlt q hq h)
theorem maps_no {bs ms ds ns : List (List Int)} {n : Nat} (hb : bs.length = n) (hd : ds.length = n) (hm : TabP ms n) (hn : TabP ns n) (h1 : 1 ≤ n) {p : List Int} (hp : p.Perm (iota n))
    (hlt : ∀ q, q.Perm (iota n) → (lexLt q p = true ∨ q = p) → ¬ kP bs ms (ordP q) = keyC ds ns) (hb2 : npB p = false) : mapsF (chkC bs ms ds ns) n n [] = [] := by
  refine (mapsF_least h1).unique (LeastG.congr (G := fun q => kP bs ms (ordP q) = keyC ds ns) (fun q hq => (gd_iff hb hd hm hn hq).symm) (.inl ⟨rfl, fun q hq => hlt q hq (np_last hp hb2 hq)⟩))
end Go.Ax
