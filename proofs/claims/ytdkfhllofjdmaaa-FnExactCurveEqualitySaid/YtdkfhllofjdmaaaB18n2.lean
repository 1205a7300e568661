import Derived.Test.YtdkfhllofjdmaaaB02n2
import Derived.Sort.Row
import Derived.Test.YtdkfhllofjdmaaaB06n2
import Derived.Test.YtdkfhllofjdmaaaB10n2
import Derived.Test.YtdkfhllofjdmaaaB17n2
import Derived.Test.YtdkfhllofjdmaaaB13n2
/-
  A row of numbers in the world. No conditions but those of the theorems.
-/
set_option linter.all false
namespace Go.Ax
open Go.Proofs Go.Sort Go.RowKit

theorem toArr {xs : List Int} {j : Nat} (h : j < xs.length) : xs.toArray[j]! = xs.getD j 0 := by
  rw [getElem!_pos xs.toArray j (by simpa using h)]
  simp [List.getD_eq_getElem?_getD, List.getElem?_eq_getElem h]
theorem cz1 : Try.prog.cellsOf 2 = 1 := by kernel_rfl
theorem rep_int {cz : TypeId → Nat} {w : World} {F O : Nat → Prop} {k : IntKind} {n : Int} {cs : List Value} (h : Rep cz w F (.int k n) cs O) : cs = [.int k n] := by
  cases h
  rfl
theorem heap_putRow {w : World} {blk : Nat} {cur : Array Value} {t : TypeId} {fz : Nat × Nat} (hb : w.heap[blk]? = some (.cells cur t fz)) (d : Array Int) :
    (putRow (Value.int .i64) w blk 0 d).heap[blk]? = some (.cells (putCells (Value.int .i64) 0 d cur) t fz) := by
  simp [putRow, mapBlock, Array.getElem?_modify, hb, onCells]
theorem heap_putRow_ne {w : World} {blk k : Nat} (hk : k ≠ blk) (d : Array Int) : (putRow (Value.int .i64) w blk 0 d).heap[k]? = w.heap[k]? := by
  simp [putRow, mapBlock, Array.getElem?_modify, Ne.symm hk]
end Go.Ax
/-
  The next permutation of a list: its contract. Conditions: a list of at least one and at most 1000 numbers.
-/
set_option linter.all false
namespace Go.Ax
open Go.Proofs Go.Sort Go.RowKit

theorem npS_len (d : List Int) (i k : Nat) : (npS d i k).length = d.length := by rw [npS, List.length_set, List.length_set]
theorem npL_len (d : List Int) : (npL d).length = d.length := by
  rw [npL, npStep]
  cases npI d (d.length - 1) with
  | zero => rfl
  | succ j =>
    show (npR _ _).length = _
    rw [npR, List.length_append, List.length_reverse, List.length_take, List.length_drop, npS_len]
    omega
def f_np1 (a : List V) : List V := I (npL (unI a))
def f_np0 (a : List V) : Bool := npB (unI a)
def q_np (a : List V) : Prop := ∃ xs, a = I xs ∧ 1 ≤ xs.length ∧ xs.length ≤ 1000
def ic_np (f0 : List V → Bool) (f1 : List V → List V) (q : List V → Prop) : IContract := fun
  | [.slc true 2 (.int .i64 0) a0] => some ([q a0], .bool (f0 a0), .slc true 2 (.int .i64 0) (f1 a0))
  | _ => none
theorem s_next : SatI Try.prog 28 0 (ic_np f_np0 f_np1 q_np) := by
  intro args ps r y h hp
  unfold ic_np at h
  split at h
  · rename_i a0
    simp only [Option.some.injEq, Prod.mk.injEq] at h
    obtain ⟨rfl, rfl, rfl⟩ := h
    obtain ⟨xs, hxs, hx1, hx2⟩ : q_np a0 := (alls_cons.1 hp).1
    have hxl : a0.length = xs.length := by rw [hxs, I_length]
    have hf1 : f_np1 a0 = I (npL xs) := by rw [f_np1, hxs, unI_I]
    have hf0 : f_np0 a0 = npB xs := by rw [f_np0, hxs, unI_I]
    refine ⟨⟨_, Try.func28, by kernel_rfl, rfl⟩, ⟨_, rfl, by rw [hxs, f_np1, unI_I]; exact Sh.ints (npL_len xs).symm, fun h => absurd h (by decide)⟩, fun vals w F Oj css hsz hv hF hO => ?_⟩
    obtain ⟨hreg, hrep⟩ := hv 0 _ rfl
    rw [if_pos rfl] at hrep
    have hvs : vals = #[vals.getD 0 undef] := by
      apply Array.ext
      · simpa using hsz
      · intro i h1 h2
        have : i = 0 := by simp at h2; omega
        subst this
        simp [Array.getD, show 0 < vals.size by omega]
    have hreg' : vals.getD 0 undef = (css 0).headD undef := hreg
    show Calls _ _ _ _ fun e w' => ∃ (v : Value) (cs : List Value) (On Fr Xn : Nat → Prop), _ ∧ _ ∧ _ ∧ V.reg _ (css 0) (vals.getD 0 undef) ∧ Rep _ _ _ _ (css 0) Xn ∧ _
    generalize css 0 = cs0 at *
    generalize vals.getD 0 undef = v0 at *
    cases hrep with
    | own0 =>
      exfalso
      have h9 := congrArg List.length hxs
      rw [I_length] at h9
      simp at h9
      omega
    | own e d es b len cap cur cs Os O hb hcz hln hc hm hOb hOs hdis hcs hr =>
      have hv0 : v0 = .slice (some ⟨b, 0, none⟩) len cap := hreg'
      have hbs : b < w.heap.size := (Array.getElem?_eq_some_iff.1 hb).1
      have hce : Try.prog.cellsOf 2 = 1 := cz1
      have hcell : ∀ i, i < xs.length → cs i = [.int .i64 (xs.getD i 0)] := fun i hi => by
        refine rep_int (hr i _ ?_)
        rw [hxs, I, List.getElem?_map, List.getElem?_eq_getElem hi, List.getD_eq_getElem?_getD, List.getElem?_eq_getElem hi]
        rfl
      have hH : Go.Sort.Holds (Value.int .i64) w b 0 xs.toArray := fun j hj => by
        have hj' : j < xs.length := by simpa using hj
        refine ⟨?_, ?_⟩
        · have h1 := (hcs j (by omega)).2 0 (.int .i64 (xs.getD j 0)) (by rw [hcell j hj']; rfl)
          rw [hce] at h1
          rw [show (0 : Nat) + j = j * 1 + 0 by omega, h1]
          refine congrArg (fun z => some (Value.int .i64 z)) ?_
          exact (toArr hj').symm
        · simp [World.frozen?, hb]
      have hlx : len = xs.length := by rw [hln, hxl]
      rw [hvs, hv0, hlx]
      refine (np_walk b 0 cap xs w hH hx1 hx2 (by omega)).mono ?_
      rintro e1 w' ⟨rfl, q, k2⟩
      obtain ⟨ys, hys⟩ : ∃ ys, ys = npL xs := ⟨_, rfl⟩
      have hyl : ys.length = xs.length := by rw [hys, npL_len]
      rw [← hys] at k2
      have hH2 := holds_putRow (Value.int .i64) (Sort.ahead w q) b 0 xs.toArray ys.toArray hH (by simp [hyl])
      have hb2 : w'.heap[b]? = some (.cells (putCells (Value.int .i64) 0 ys.toArray cur) 2 (0, 0)) := by
        rw [k2]
        exact heap_putRow (w := Sort.ahead w q) hb _
      refine ⟨.bool (npB xs), [.bool (npB xs)], fun _ => False, fun _ => False, fun x => x = b, rfl, by rw [hf0]; rfl, by rw [hf0]; exact .bool _ _, ?_, ?_, ?_⟩
      · rw [hlx] at hv0
        exact rfl
      · rw [hf1, ← hys, ← hlx]
        refine .own _ _ _ b _ cap (putCells (Value.int .i64) 0 ys.toArray cur) (fun i => [.int .i64 (ys.getD i 0)]) (fun _ _ => False) _ hb2 ?_ (by rw [I_length]; omega) (by rw [I_length]; omega) hm rfl (fun _ _ h => h.elim) (fun _ _ _ _ h => h.elim) (fun i hi => ?_) (fun i x hx => ?_) (fun h => by cases h)
        · rw [putCells, Array.size_mapIdx]; exact hcz
        · rw [I_length] at hi
          refine ⟨by rw [hce]; rfl, fun k v hk => ?_⟩
          cases k with
          | succ k => simp at hk
          | zero =>
            simp only [List.getElem?_cons_zero, Option.some.injEq] at hk
            subst hk
            have h1 := (hH2 i (by simpa using hi)).1
            rw [hce, k2, show i * 1 + 0 = 0 + i by omega, h1]
            refine congrArg (fun z => some (Value.int .i64 z)) ?_
            exact toArr hi
        · rw [I, List.getElem?_map] at hx
          cases hyi : ys[i]? with
          | none => rw [hyi] at hx; cases hx
          | some z =>
            rw [hyi] at hx
            simp only [Option.map_some, Option.some.injEq] at hx
            subst hx
            rw [List.getD_eq_getElem?_getD, hyi]
            exact .int _ _ _
      · refine ⟨by rw [k2, Go.Sort.size_putRow]; exact Nat.le_refl _, by rw [k2]; rfl, by rw [k2]; rfl, by rw [k2]; exact ⟨rfl, Nat.le_add_right _ _⟩, fun k hk hx => ?_, fun b hb => hb.elim False.elim False.elim, fun x hx => .inl (by rw [hx]; exact hOb), fun b hb => hb.elim, fun b hb => ⟨fun h => h, fun h => h⟩, fun _ k off u hx hu hcu => ?_⟩
        · rw [k2, heap_putRow_ne (fun h => hx (by rw [h]; exact hOb))]
          rfl
        · rw [k2, cell?_putRow_other]
          · exact hcu
          · by_cases hkb : k = b
            · by_cases hof : off < xs.length
              · exfalso
                have h1 := (hH off (by simpa using hof)).1
                rw [hkb] at hcu
                rw [show (0 : Nat) + off = off by omega] at h1
                rw [h1] at hcu
                simp only [Option.some.injEq] at hcu
                rw [← hcu] at hu
                simp [isHdr] at hu
              · refine .inr (.inr ?_)
                simp only [List.size_toArray]
                omega
            · exact .inl hkb
  · cases h
end Go.Ax
/-
  Copies of graphs; vertices. No conditions but those of the contracts.
-/
set_option linter.all false
namespace Go.Ax
open Go.Proofs

end Go.Ax
/-
  CurveEquality, the program's side. No conditions but those of the contracts.
-/
set_option linter.all false
namespace Go.Ax
open Go.Proofs
set_option maxHeartbeats 2000000

def f_fp0 (n : Int) : List V := I (iota n.toNat)
def q_fp0 (n : Int) : Prop := 0 ≤ n ∧ n ≤ 1000000
def c_i_lp (f : Int → List V) (q : Int → Prop) : Contract := fun
  | [.int .i64 a0] => some ([q a0], .slc true 2 (.int .i64 0) (f a0))
  | _ => none
set_option maxHeartbeats 1000000 in
set_option maxRecDepth 100000 in
theorem s_firstPerm : Sat Try.prog 25 (c_i_lp f_fp0 q_fp0) := by
  intro args ps r h hp
  unfold c_i_lp at h
  split at h
  · rename_i m
    simp only [Option.some.injEq, Prod.mk.injEq] at h
    obtain ⟨rfl, rfl⟩ := h
    obtain ⟨m0, m1⟩ : q_fp0 m := (alls_cons.1 hp).1
    refine fnOk_ofI (T := tab) (B := []) (Bi := []) [0, 2, 3, 4, 6, 7] Try.func25 rfl rfl (by kernel_rfl) (Nat.le_of_ble_eq_true rfl) mixed tabOk (by exact bookNil) (by exact bookINil) (by kernel_rfl) ?_
    intro L lp rr hL hr hf hlp
    conv => cbv
    refine hlp (List V × Int) _ _ _ [3, 6, 7] (fun x => [(3, none, .val (.slc true 2 (.int .i64 0) x.1)), (6, none, .val (.int .i64 m)), (7, none, .val (.int .i64 x.2))])
      (fun x => 0 ≤ x.2 ∧ x.2 ≤ m ∧ x.1 = I (iota x.2.toNat)) (fun x => (m - x.2).toNat) (([], 0)) (by subst hL; rfl) ?_ ?_
    · exact ⟨by simp, m0, rfl⟩
    rintro ⟨os, i⟩ ⟨i0, i1, hO⟩ hfx ag hag
    simp only at i0 i1 hO
    have hol : os.length = i.toNat := by rw [hO, I_length, iota_len]
    conv => cbv
    simp only [stdEqs hL, imp_self, true_and, and_true, bif_or, bif_and, Bool.or_eq_true, Bool.or_eq_false_iff, Bool.and_eq_true, Bool.and_eq_false_iff, decide_eq_true_eq, decide_eq_false_iff_not, Bool.not_eq_true', Bool.not_eq_false', beq_iff_eq, beq_eq_false_iff_ne, ne_eq, toNat0, toNat1, ok_int, toI_int, I_frzs, I_length, I_getD, ok_ints, toL_slc, hol]
    rw [wrap_id (n := i + 1) (by omega) (by omega)]
    refine ⟨fun h2 => ⟨rfl, by simp only [List.length_singleton]; omega, solid_one _, ?_⟩, fun h2 => ?_⟩
    · refine hag (_, i + 1) ⟨by simp only; omega, by simp only; omega, ?_⟩ (by simp only; omega)
      simp only [toNat_succ i0]
      rw [hO, show iota (i.toNat + 1) = iota i.toNat ++ [((i.toNat : Nat) : Int)] from tab_succ _ _, ← I_append, show ((i.toNat : Nat) : Int) = i by omega]
      rfl
    · rw [hr, hO, f_fp0, show i.toNat = m.toNat by omega]
  · cases h
structure KcP (bs ms : List (List Int)) : Prop where
  b6 : bs.length ≤ 6
  m6 : ms.length ≤ 6
  bl : ∀ i, i < bs.length → (bs.getD i []).length ≤ 1000
  ml : ∀ i, i < ms.length → (ms.getD i []).length ≤ 6
def f_key (a b : List V) : List V := I (keyC (unBB a) (unII b))
def q_key (a b : List V) : Prop := ∃ bs ms, a = BB false bs ∧ b = II false ms ∧ KcP bs ms
def c_C_lk (f : List V → List V → List V) (q : List V → List V → Prop) : Contract := fun
  | [.agg [.slc false 61 (.agg [.slc false 2 (.int .i64 0) []]) a0, .slc false 27 (.slc false 2 (.int .i64 0) []) a1]] => some ([q a0 a1], .slc true 2 (.int .i64 0) (f a0 a1))
  | _ => none
def keyT (bs : List (List Int)) (k : Nat) : List Int := keyB (bs.take k)
def rowT (ms : List (List Int)) (k : Nat) : List Int := (ms.take k).flatten
theorem keyT_succ {bs : List (List Int)} {k : Nat} (h : k < bs.length) : keyT bs (k + 1) = keyT bs k ++ [((bs.getD k []).length : Int)] ++ bs.getD k [] := by
  rw [keyT, List.take_succ_eq_append_getElem h, keyB, List.map_append, List.flatten_append, List.getD_eq_getElem?_getD, List.getElem?_eq_getElem h]
  simp [keyT, keyB]
theorem keyT_len {bs : List (List Int)} (hb : ∀ i, i < bs.length → (bs.getD i []).length ≤ 1000) : ∀ k, k ≤ bs.length → (keyT bs k).length ≤ k * 1001
  | 0, _ => by simp [keyT, keyB]
  | k + 1, h => by
    have h1 := keyT_len hb k (by omega)
    have h2 := hb k (by omega)
    rw [keyT_succ (by omega), List.length_append, List.length_append]
    simp only [List.length_cons, List.length_nil]
    omega
theorem rowT_succ {ms : List (List Int)} {k : Nat} (h : k < ms.length) : rowT ms (k + 1) = rowT ms k ++ ms.getD k [] := by
  rw [rowT, List.take_succ_eq_append_getElem h, List.flatten_append, List.getD_eq_getElem?_getD, List.getElem?_eq_getElem h]
  simp [rowT]
theorem rowT_len {ms : List (List Int)} (hb : ∀ i, i < ms.length → (ms.getD i []).length ≤ 6) : ∀ k, k ≤ ms.length → (rowT ms k).length ≤ k * 6
  | 0, _ => by simp [rowT]
  | k + 1, h => by
    have h1 := rowT_len hb k (by omega)
    have h2 := hb k (by omega)
    rw [rowT_succ (by omega), List.length_append]
    omega
theorem key_full (bs ms : List (List Int)) : keyT bs bs.length ++ rowT ms ms.length = keyC bs ms := by
  rw [keyT, rowT, List.take_length, List.take_length, keyC]
set_option maxHeartbeats 1000000 in
set_option maxRecDepth 100000 in
theorem s_impl_keyOf : Sat Try.prog 24 (c_C_lk f_key q_key) := by
  intro args ps r h hp
  unfold c_C_lk at h
  split at h
  · rename_i a0 a1
    simp only [Option.some.injEq, Prod.mk.injEq] at h
    obtain ⟨rfl, rfl⟩ := h
    obtain ⟨bs, ms, hbs, hms, hk⟩ : q_key a0 a1 := (alls_cons.1 hp).1
    have g0 : V.frzs a0 = a0 := by rw [hbs, BB_frzs]
    have g1 : V.frzs a1 = a1 := by rw [hms, II_frzs]
    have hbl : a0.length = bs.length := by rw [hbs, BB_length]
    have hml : a1.length = ms.length := by rw [hms, II_length]
    have gb : ∀ k, a0.getD k (.agg [.slc false 2 (.int .i64 0) []]) = .agg [.slc false 2 (.int .i64 0) (I (bs.getD k []))] := fun k => by rw [hbs, BB_getD]
    have gm : ∀ k, a1.getD k (.slc false 2 (.int .i64 0) []) = .slc false 2 (.int .i64 0) (I (ms.getD k [])) := fun k => by rw [hms, II_getD]
    have hf0 : f_key a0 a1 = I (keyT bs bs.length ++ rowT ms ms.length) := by rw [f_key, hbs, hms, unBB_BB, unII_II, key_full]
    obtain ⟨n, hn⟩ : ∃ n : Int, n = bs.length := ⟨_, rfl⟩
    obtain ⟨m, hm⟩ : ∃ m : Int, m = ms.length := ⟨_, rfl⟩
    have b6 := hk.b6
    have m6 := hk.m6
    refine fnOk_ofI (T := tab) (B := []) (Bi := []) [0, 1, 2, 3, 5, 7, 10, 11, 12, 28, 29, 30] Try.func24 rfl rfl (by kernel_rfl) (Nat.le_of_ble_eq_true rfl) mixed tabOk (by exact bookNil) (by exact bookINil) (by kernel_rfl) ?_
    intro L lp rr hL hr hf hlp
    conv => cbv
    simp only [stdEqs hL, imp_self, true_and, and_true, bif_or, bif_and, Bool.or_eq_true, Bool.or_eq_false_iff, Bool.and_eq_true, Bool.and_eq_false_iff, decide_eq_true_eq, decide_eq_false_iff_not, Bool.not_eq_true', Bool.not_eq_false', beq_iff_eq, beq_eq_false_iff_ne, ne_eq, toNat0, toNat1, ok_int, toI_int, I_frzs, I_length, I_getD, ok_ints, toL_slc, g0, g1]
    refine hlp (List V × Int) _ _ _ [1, 3, 10, 11, 12] (fun x => [(1, none, .val (.box 32 (.agg [.slc false 61 (.agg [.slc false 2 (.int .i64 0) []]) a0, .slc false 27 (.slc false 2 (.int .i64 0) []) a1]))), (3, none, .val (.slc true 2 (.int .i64 0) x.1)), (10, none, .val (.slc false 61 (.agg [.slc false 2 (.int .i64 0) []]) a0)), (11, none, .val (.int .i64 n)), (12, none, .val (.int .i64 x.2))])
      (fun x => 0 ≤ x.2 ∧ x.2 ≤ n ∧ x.1 = I (keyT bs x.2.toNat)) (fun x => (n - x.2).toNat) (([], 0)) (by subst hL; rw [hn, ← hbl]; rfl) ?_ ?_
    · exact ⟨by simp, by simp only; omega, rfl⟩
    rintro ⟨os, i⟩ ⟨i0, i1, hO⟩ hfx ag hag
    simp only at i0 i1 hO
    conv => cbv
    simp only [stdEqs hL, imp_self, true_and, and_true, bif_or, bif_and, Bool.or_eq_true, Bool.or_eq_false_iff, Bool.and_eq_true, Bool.and_eq_false_iff, decide_eq_true_eq, decide_eq_false_iff_not, Bool.not_eq_true', Bool.not_eq_false', beq_iff_eq, beq_eq_false_iff_ne, ne_eq, toNat0, toNat1, ok_int, toI_int, I_frzs, I_length, I_getD, ok_ints, toL_slc, hbl, hml, gb, toL_bran, fld_bran]
    refine ⟨fun h2 => ?_, fun h2 => ?_⟩
    · have hin : i.toNat < bs.length := by omega
      have l1 := keyT_len hk.bl i.toNat (by omega)
      have l2 := hk.bl i.toNat hin
      have l3 : os.length ≤ 6006 := by rw [hO, I_length]; omega
      rw [wrap_id (n := i + 1) (by omega) (by omega)]
      refine ⟨i0, by omega, ok_bran _ _ _, rfl, by first | omega | (simp only [List.length_cons, List.length_nil]; omega), solid_one _, I_owneds _, by rw [List.length_append]; simp only [List.length_cons, List.length_nil]; omega, I_solid _, ?_⟩
      refine hag (_, i + 1) ⟨by simp only; omega, by simp only; omega, ?_⟩ (by simp only; omega)
      simp only [toNat_succ i0]
      rw [hO, keyT_succ hin, ← I_append, ← I_append]
      rfl
    · refine hlp (List V × Int) _ _ _ [3, 28, 29, 30] (fun y => [(3, none, .val (.slc true 2 (.int .i64 0) y.1)), (28, none, .val (.slc false 27 (.slc false 2 (.int .i64 0) []) a1)), (29, none, .val (.int .i64 m)), (30, none, .val (.int .i64 y.2))])
        (fun y => 0 ≤ y.2 ∧ y.2 ≤ m ∧ y.1 = I (keyT bs bs.length ++ rowT ms y.2.toNat)) (fun y => (m - y.2).toNat) ((os, 0)) (by subst hL; rw [hm, ← hml]; rfl) ?_ ?_
      · refine ⟨by simp, by simp only; omega, ?_⟩
        simp only
        rw [hO, show i.toNat = bs.length by omega]
        simp [rowT]
      rintro ⟨ks, j⟩ ⟨j0, j1, hK⟩ hfx2 ag2 hag2
      simp only at j0 j1 hK
      have l1 := keyT_len hk.bl bs.length (Nat.le_refl _)
      conv => cbv
      simp only [stdEqs hL, imp_self, true_and, and_true, bif_or, bif_and, Bool.or_eq_true, Bool.or_eq_false_iff, Bool.and_eq_true, Bool.and_eq_false_iff, decide_eq_true_eq, decide_eq_false_iff_not, Bool.not_eq_true', Bool.not_eq_false', beq_iff_eq, beq_eq_false_iff_ne, ne_eq, toNat0, toNat1, ok_int, toI_int, I_frzs, I_length, I_getD, ok_ints, toL_slc, hbl, hml, gm]
      refine ⟨fun h3 => ?_, fun h3 => ?_⟩
      · have hjm : j.toNat < ms.length := by omega
        have l4 := rowT_len hk.ml j.toNat (by omega)
        have l5 := hk.ml j.toNat hjm
        have l6 : ks.length ≤ 6100 := by rw [hK, I_length, List.length_append]; omega
        rw [wrap_id (n := j + 1) (by omega) (by omega)]
        refine ⟨j0, by omega, I_owneds _, by omega, I_solid _, ?_⟩
        refine hag2 (_, j + 1) ⟨by simp only; omega, by simp only; omega, ?_⟩ (by simp only; omega)
        simp only [toNat_succ j0]
        rw [hK, rowT_succ hjm, ← I_append, ← List.append_assoc, ← I_append, ← I_append]
      · rw [hr, hf0, hK, show j.toNat = ms.length by omega]
  · cases h
end Go.Ax
