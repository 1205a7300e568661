import Derived.Test.YtdkfhllofjdmaaaRows
import Derived.Test.YtdkfhllofjdmaaaB05n2
import Derived.Test.YtdkfhllofjdmaaaAxP4n2
import Derived.Shelf.SlLaysN
import Derived.Test.YtdkfhllofjdmaaaProg
import Derived.Shelf.SlicesG.Reverse
import Derived.WalkKit
import Derived.Sort.WalkA
import Derived.Sort.WalkC
import Derived.Deep.LoopGhost
import Derived.Deep.QuietTactic
import Derived.BigRegion
import Derived.BigQuiet
/-
  What all rows take: facts of the program, and what arguments of the types in use are. No conditions.
-/
set_option linter.all false
namespace Go.Proofs.Ytdkfhllofjdmaaa
open Go.ChangeShapes Go.WideShapes Go.ChangeAt Go.RowKit Go.Ax

theorem ownK : ownKnob Try.prog.godebug = none := by kernel_rfl
theorem laidOut : laidOutB Try.prog = true := by kernel_rfl
def okK : TK → Bool
  | .oth => false
  | _ => true
theorem noOth : ∀ t ti, tget tab t = some ti → ti.k ≠ .oth := by
  have h : (tab.all fun x => okK x.2.k) = true := by kernel_rfl
  intro t ti ht hk
  have := List.all_eq_true.1 h _ (tget_mem ht)
  rw [hk] at this
  cases this

theorem wt_int {x : V} (h : Wt tab 2 x) : ∃ n, x = .int .i64 n := by
  cases h with
  | int _ ti k n h hk hn => cases h; cases hk; exact ⟨n, rfl⟩
  | bool _ ti b h hk => cases h; cases hk
  | str _ ti b h hk => cases h; cases hk
  | slc _ ti e es h hk => cases h; cases hk
  | agg _ ti e es h hk => cases h; cases hk
theorem wt_ints {x : V} (h : Wt tab 27 x) : ∃ es, x = .slc false 2 (.int .i64 0) es ∧ IsI es := by
  cases h with
  | int _ ti k n h hk hn => cases h; cases hk
  | bool _ ti b h hk => cases h; cases hk
  | str _ ti b h hk => cases h; cases hk
  | slc _ ti e es h hk hl he =>
    cases h; cases hk
    refine ⟨es, rfl, ?_⟩
    clear hl
    induction es with
    | nil => exact ⟨[], rfl⟩
    | cons y es ih =>
      obtain ⟨l, hl⟩ := ih (fun i y hy => he (i + 1) y (by simpa using hy))
      obtain ⟨n, hn⟩ := wt_int (he 0 y rfl)
      exact ⟨n :: l, by rw [hl, hn]; rfl⟩
  | agg _ ti e es h hk => cases h; cases hk

theorem wt_branch {x : V} (h : Wt tab 59 x) : ∃ es, x = .agg [.slc false 2 (.int .i64 0) es] ∧ IsI es := by
  cases h with
  | int _ ti k n h hk hn => cases h; cases hk
  | bool _ ti b h hk => cases h; cases hk
  | str _ ti b h hk => cases h; cases hk
  | slc _ ti e es h hk => cases h; cases hk
  | agg _ ti fts fs h hk hl he =>
    cases h; cases hk
    match fs, hl with
    | [y], _ =>
      obtain ⟨es, rfl, hes⟩ := wt_ints (he 0 0 27 y rfl rfl)
      exact ⟨es, rfl, hes⟩
theorem wt_intss {x : V} (h : Wt tab 23 x) : ∃ es, x = .slc false 27 (.slc false 2 (.int .i64 0) []) es ∧ IsII false es := by
  cases h with
  | int _ ti k n h hk hn => cases h; cases hk
  | bool _ ti b h hk => cases h; cases hk
  | str _ ti b h hk => cases h; cases hk
  | slc _ ti e es h hk hl he =>
    cases h; cases hk
    refine ⟨es, rfl, ?_⟩
    clear hl
    induction es with
    | nil => exact ⟨[], rfl⟩
    | cons y es ih =>
      obtain ⟨l, hl⟩ := ih (fun i y hy => he (i + 1) y (by simpa using hy))
      obtain ⟨n, hn, m, rfl⟩ := wt_ints (he 0 y rfl)
      exact ⟨m :: l, by rw [hl, hn]; rfl⟩
  | agg _ ti e es h hk => cases h; cases hk

theorem wt_branches {x : V} (h : Wt tab 22 x) : ∃ es, x = .slc false 59 (.agg [.slc false 2 (.int .i64 0) []]) es ∧ IsBB false es := by
  cases h with
  | int _ ti k n h hk hn => cases h; cases hk
  | bool _ ti b h hk => cases h; cases hk
  | str _ ti b h hk => cases h; cases hk
  | slc _ ti e es h hk hl he =>
    cases h; cases hk
    refine ⟨es, rfl, ?_⟩
    clear hl
    induction es with
    | nil => exact ⟨[], rfl⟩
    | cons y es ih =>
      obtain ⟨l, hl⟩ := ih (fun i y hy => he (i + 1) y (by simpa using hy))
      obtain ⟨n, hn, m, rfl⟩ := wt_branch (he 0 y rfl)
      exact ⟨m :: l, by rw [hl, hn]; rfl⟩
  | agg _ ti e es h hk => cases h; cases hk

theorem wt_curve {x : V} (h : Wt tab 25 x) : ∃ es fs, x = .agg [.slc false 59 (.agg [.slc false 2 (.int .i64 0) []]) es, .slc false 27 (.slc false 2 (.int .i64 0) []) fs] ∧ IsBB false es ∧ IsII false fs := by
  cases h with
  | int _ ti k n h hk hn => cases h; cases hk
  | bool _ ti b h hk => cases h; cases hk
  | str _ ti b h hk => cases h; cases hk
  | slc _ ti e es h hk => cases h; cases hk
  | agg _ ti fts fs h hk hl he =>
    cases h; cases hk
    match fs, hl with
    | [y, z], _ =>
      obtain ⟨es, rfl, hes⟩ := wt_branches (he 0 0 22 y rfl rfl)
      obtain ⟨fs, rfl, hfs⟩ := wt_intss (he 1 1 23 z rfl rfl)
      exact ⟨es, fs, rfl, hes, hfs⟩
end Go.Proofs.Ytdkfhllofjdmaaa
/-
  What every row of this seat asks of the whole program, once. No conditions.
-/
set_option linter.all false
namespace Go.Ax
open Go.Proofs Go.Proofs.Ytdkfhllofjdmaaa

theorem and2 {a b : Bool} (ha : a = true) (hb : b = true) : (a && b) = true := by rw [ha, hb]; rfl
set_option maxRecDepth 100000 in
theorem pfEnter : Try.prog.mayEnter = true := by kernel_rfl
set_option maxRecDepth 100000 in
theorem pfLift : (({ program := "", sum := "", func := "", spec := "" } : OpenClaim).lifted == Try.prog.liftsFinal) = true := by kernel_rfl
set_option maxRecDepth 100000 in
theorem pfMake : (Try.prog.make == some ({ program := "", sum := "", func := "", spec := "" } : OpenClaim).make) = true := by kernel_rfl
end Go.Ax
/-
  The library's Reverse lies in this program as the shelf has it. No conditions.
-/
set_option linter.all false
set_option linter.all false
namespace Go.Proofs
open Go.Shelf
def lrev_ren : Go.Shelf.Ren := ⟨fun | 35 => 55 | n => n, fun | 22 => 27 | 23 => 2 | 3 => 3 | 4 => 4 | 0 => 0 | n => n, fun | n => n⟩
theorem lrev : Go.Proofs.SlLaysN.n35 Try.prog lrev_ren := {
  mixed := by kernel_rfl
  f35 := ⟨Try.f55.name, by decide, Try.func55.trans (congrArg some (by kernel_rfl))⟩
  t0 := Try.underlying0
  a0 := Try.isAgg0
  z0 := Try.sizeOf0
  v0 := Try.zeroValue0
  t3 := Try.underlying3
  a3 := Try.isAgg3
  z3 := Try.sizeOf3
  v3 := Try.zeroValue3
  t4 := Try.underlying4
  a4 := Try.isAgg4
  z4 := Try.sizeOf4
  v4 := Try.zeroValue4
  t22 := Try.underlying27
  a22 := Try.isAgg27
  z22 := Try.sizeOf27
  v22 := Try.zeroValue27
  t23 := Try.underlying2
  a23 := Try.isAgg2
  z23 := Try.sizeOf2
  v23 := Try.zeroValue2 }

end Go.Proofs
/-
  The next permutation of a list: the code, walked. Conditions: a list of at least one and at most 1000 numbers.
-/
set_option linter.all false
namespace Go.Proofs
open Go.RowKit Go.Sort

def npI (d : List Int) : Nat → Nat
  | 0 => 0
  | j + 1 => if d.getD (j + 1) 0 < d.getD j 0 then npI d j else j + 1
def npK (d : List Int) (x : Int) : Nat → Nat
  | 0 => 0
  | k + 1 => if d.getD (k + 1) 0 < x then npK d x k else k + 1
def npS (d : List Int) (i k : Nat) : List Int := (d.set i (d.getD k 0)).set k (d.getD i 0)
def npR (d : List Int) (i : Nat) : List Int := d.take i ++ (d.drop i).reverse
def npStep (d : List Int) : Option (List Int) := match npI d (d.length - 1) with
  | 0 => none
  | j + 1 => some (npR (npS d j (npK d (d.getD j 0) (d.length - 1))) (j + 1))
def npB (d : List Int) : Bool := (npStep d).isSome
def npL (d : List Int) : List Int := (npStep d).getD d

theorem np_none {d : List Int} {n : Nat} (hn : n = d.length) (h : npI d (n - 1) = npI d 0) : npB d = false ∧ npL d = d := by
  have h0 : npStep d = none := by rw [npStep, ← hn, h]; rfl
  exact ⟨by rw [npB, h0]; rfl, by rw [npL, h0]; rfl⟩
theorem np_some {d : List Int} {n j k : Nat} (hn : n = d.length) (h : npI d (n - 1) = npI d (j + 1)) (h2 : ¬ d.getD (j + 1) 0 < d.getD j 0) (h3 : npK d (d.getD j 0) (n - 1) = npK d (d.getD j 0) (k + 1)) (h4 : ¬ d.getD (k + 1) 0 < d.getD j 0) :
    npB d = true ∧ npL d = npR (npS d j (k + 1)) (j + 1) := by
  rw [npI, if_neg h2] at h
  rw [npK, if_neg h4] at h3
  have h0 : npStep d = some (npR (npS d j (k + 1)) (j + 1)) := by
    rw [npStep, ← hn, h]
    show some _ = _
    rw [h3]
  exact ⟨by rw [npB, h0]; rfl, by rw [npL, h0]; rfl⟩

theorem npS_arr {d : List Int} {i k : Nat} (hi : i < d.length) (hk : k < d.length) : swp d.toArray i k = (npS d i k).toArray := by
  have e : ∀ t, t < d.length → d.toArray[t]! = d.getD t 0 := fun t ht => by
    rw [getElem!_pos d.toArray t (by simpa using ht)]
    simp [List.getD_eq_getElem?_getD, List.getElem?_eq_getElem ht]
  rw [swp, e i hi, e k hk, npS]
  simp
theorem putRow_tail {W : World} {blk off i : Nat} {e r : List Int} (hH : Holds (Value.int .i64) W blk off e.toArray) (hi : i ≤ e.length) (hr : r.length = e.length - i) :
    putRow (Value.int .i64) W blk (off + i) r.toArray = putRow (Value.int .i64) W blk off (e.take i ++ r).toArray := by
  rw [← putRow_self _ W blk off _ hH]
  unfold putRow
  rw [mapBlock_mapBlock, mapBlock_mapBlock]
  refine mapBlock_congr _ _ _ _ fun c _ _ _ => ?_
  have hl : (e.take i ++ r).length = e.length := by rw [List.length_append, List.length_take, hr]; omega
  apply Array.ext_getElem?
  intro k
  simp only [putCells, Array.getElem?_mapIdx, List.size_toArray, hl]
  cases c[k]? with
  | none => rfl
  | some y =>
    simp only [Option.map_some]
    by_cases k1 : off ≤ k ∧ k < off + e.length
    · rw [if_pos k1]
      by_cases k2 : off + i ≤ k
      · have k3 : off + i ≤ k ∧ k < off + i + r.length := by omega
        rw [if_pos k3]
        have e1 : r.toArray[k - (off + i)]! = (e.take i ++ r).toArray[k - off]! := by
          rw [getElem!_pos r.toArray _ (by simp; omega), getElem!_pos (e.take i ++ r).toArray _ (by rw [List.size_toArray, hl]; omega)]
          simp only [List.getElem_toArray]
          rw [List.getElem_append_right (by rw [List.length_take]; omega)]
          congr 1
          rw [List.length_take]; omega
        rw [e1]
        simp [k1]
      · have k3 : ¬ (off + i ≤ k ∧ k < off + i + r.length) := by omega
        rw [if_neg k3, if_pos k1]
        have e1 : e.toArray[k - off]! = (e.take i ++ r).toArray[k - off]! := by
          rw [getElem!_pos e.toArray _ (by simp; omega), getElem!_pos (e.take i ++ r).toArray _ (by rw [List.size_toArray, hl]; omega)]
          simp only [List.getElem_toArray]
          rw [List.getElem_append_left (by rw [List.length_take]; omega), List.getElem_take]
        rw [e1]
    · rw [if_neg k1]
      have k3 : ¬ (off + i ≤ k ∧ k < off + i + r.length) := by omega
      rw [if_neg k3, if_neg k1]
theorem rev_tail {blk off cap i n : Nat} {e : List Int} {W : World} (hH : Holds (Value.int .i64) W blk off e.toArray) (hn : e.length = n) (hi : i ≤ n) (he : n ≤ 1000) :
    Calls Try.prog 55 #[.slice (some ⟨blk, off + i, none⟩) (n - i) cap] W fun x w' => x = .returned (.tuple #[]) ∧ ∃ q, w' = putRow (Value.int .i64) (Sort.ahead W q) blk off (npR e i).toArray := by
  have hl : (e.drop i).length = n - i := by rw [List.length_drop, hn]
  have h := AnyG.slices_Reverse_int lrev blk (off + i) cap (e.drop i) W (fun t ht => by
    have ht' : t < n - i := by simpa [hn] using ht
    have h1 := hH (i + t) (by simp [hn]; omega)
    rw [show off + i + t = off + (i + t) by omega]
    refine ⟨?_, h1.2⟩
    rw [h1.1, getElem!_pos e.toArray _ (by simp [hn]; omega), getElem!_pos (e.drop i).toArray _ (by simp [hn]; omega)]
    simp) (by omega)
  rw [hl] at h
  change Calls Try.prog 55 _ _ _ at h
  refine h.mono ?_
  rintro x w' ⟨rfl, q, rfl⟩
  refine ⟨rfl, q, ?_⟩
  rw [npR]
  exact putRow_tail (holds_ahead _ _ _ _ _ _ hH) (by omega) (by rw [List.length_reverse, hl, hn])

set_option maxHeartbeats 16000000 in
set_option maxRecDepth 1000000 in
theorem np_walk (blk off cap : Nat) (d : List Int) (w : World) (hH : Holds (Value.int .i64) w blk off d.toArray) (h1 : 1 ≤ d.length) (h2 : d.length ≤ 1000) (hcap : d.length ≤ cap) :
    Calls Try.prog 28 #[.slice (some ⟨blk, off, none⟩) d.length cap] w fun e w' => e = .returned (.bool (npB d)) ∧ ∃ q, w' = putRow (Value.int .i64) (Sort.ahead w q) blk off (npL d).toArray := by
  obtain ⟨n, hn⟩ : ∃ n, n = d.length := ⟨_, rfl⟩
  obtain ⟨G, hG⟩ : ∃ G : Nat → Int, ∀ t, G t = d.getD t 0 := ⟨fun t => d.getD t 0, fun _ => rfl⟩
  have hc : ∀ t, t < n → w.cell? ⟨blk, off + t, none⟩ = some (.int .i64 (G t)) := fun t ht => by
    rw [(hH t (by simpa [← hn] using ht)).1, hG, getElem!_pos d.toArray t (by simpa [← hn] using ht)]
    simp [List.getD_eq_getElem?_getD, List.getElem?_eq_getElem (show t < d.length by omega)]
  have hf : ∀ t, t < n → w.frozen? ⟨blk, off + t, none⟩ = false := fun t ht => (hH t (by simpa [← hn] using ht)).2
  rw [← hn] at h1 h2 hcap ⊢
  have HN : Hid (n = d.length) := hn
  have HG : Hid (∀ t, G t = d.getD t 0) := hG
  have HH : Hid (Holds (Value.int .i64) w blk off d.toArray) := hH
  have HC : Hid (∀ t, t < n → w.cell? ⟨blk, off + t, none⟩ = some (.int .i64 (G t))) := hc
  have HF : Hid (∀ t, t < n → w.frozen? ⟨blk, off + t, none⟩ = false) := hf
  clear hn hG hH hc hf
  go_enter Try.func28, Try.ntmps28
  go_wp2
  go_loopg [3] n (fun g s3 wr => ∃ (j q : Nat), s3 = .int .i64 ((j : Int) - 1) ∧ j < n ∧ j ≤ g ∧ wr = w.drewN q ∧ Hid (npI d (n - 1) = npI d j))
  case atStart => exact ⟨n - 1, 0, by go_num, by omega, by omega, rfl, rfl⟩
  case round =>
    obtain ⟨j, q, rfl, hj, hg, rfl, HI⟩ := hrel
    cases j with
    | zero =>
      have e0 : (((0 : Nat) : Int) - 1) = -1 := rfl
      rw [e0]
      have c1 : decide ((0 : Int) ≤ -1) = false := rfl
      go_wp2_with fail
      go_quiet (fail)
      go_wp2
      go_ret
      obtain ⟨r1, r2⟩ := np_none HN.out HI.out
      refine ⟨by rw [r1]; rfl, q + nq, ?_⟩
      rw [r2]
      exact (putRow_self _ _ _ _ _ (holds_ahead _ _ _ _ _ _ HH.out)).symm
    | succ j =>
      have e0 : (((j + 1 : Nat) : Int) - 1) = (j : Int) := by omega
      rw [e0]
      have p0 : ¬ (j : Int) < 0 := by omega
      have p1 : (0 : Int) ≤ (j : Int) := by omega
      have p2 : (j : Int) < (n : Int) := by omega
      have p3 : (j : Int) + 1 < (n : Int) := by omega
      have p4 : (0 : Int) ≤ (j : Int) + 1 := by omega
      have p5 : ((j : Int) + 1).toNat = j + 1 := by omega
      obtain ⟨x, hx⟩ : ∃ x, G j = x := ⟨_, rfl⟩
      obtain ⟨y, hy⟩ : ∃ y, G (j + 1) = y := ⟨_, rfl⟩
      have hcj := HC.out j (by omega)
      have hcj1 := HC.out (j + 1) (by omega)
      rw [hx] at hcj
      rw [hy] at hcj1
      have HX : Hid (G j = x) := hx
      have HY : Hid (G (j + 1) = y) := hy
      clear hx hy
      by_cases hxy : y < x
      · go_wp2_with fail
        go_quiet (fail)
        go_wp2
        go_roundg j
        case measure => omega
        case rel => exact ⟨j, q + nq, rfl, by omega, Nat.le_refl _, rfl, (show Hid _ from by show _ = _; rw [HI.out, npI, if_pos (by rw [← HG.out, ← HG.out, HX.out, HY.out]; exact hxy)])⟩
      · go_wp2_with fail
        go_quiet (fail)
        go_wp2
        go_loopg [4] n (fun g s4 wr => ∃ (k q' : Nat), s4 = .int .i64 ((k + 1 : Nat) : Int) ∧ j ≤ k ∧ k + 1 < n ∧ k + 1 ≤ g ∧ wr = w.drewN q' ∧ Hid (npK d x (n - 1) = npK d x (k + 1)))
        case atStart => exact ⟨n - 2, q + nq, by go_num, by omega, by omega, by omega, rfl, (show Hid _ from by show _ = _; rw [show n - 2 + 1 = n - 1 by omega])⟩
        case round =>
          obtain ⟨k, q', rfl, hk0, hk1, hg2, rfl, HK⟩ := hrel
          obtain ⟨z, hz⟩ : ∃ z, G (k + 1) = z := ⟨_, rfl⟩
          have hck := HC.out (k + 1) (by omega)
          rw [hz] at hck
          have HZ : Hid (G (k + 1) = z) := hz
          clear hz
          have k2 : ((k + 1 : Nat) : Int) < (n : Int) := by omega
          have k3 : (((k + 1 : Nat) : Int)).toNat = k + 1 := by omega
          by_cases hzx : z < x
          · have hjk : j < k := by
              rcases Nat.lt_or_ge j k with h | h
              · exact h
              · exfalso
                have e : k = j := by omega
                have e1 := HZ.out
                rw [e, HY.out] at e1
                omega
            obtain ⟨k', rfl⟩ : ∃ k', k = k' + 1 := ⟨k - 1, by omega⟩
            go_wp2_with fail
            go_quiet (fail)
            go_wp2
            go_roundg (k' + 1)
            case measure => omega
            case rel => exact ⟨k', q' + nq, by go_num, by omega, by omega, Nat.le_refl _, rfl, (show Hid _ from by show _ = _; rw [HK.out, npK, if_pos (by rw [← HG.out, HZ.out]; exact hzx)])⟩
          · go_wp2_with fail
            go_quiet (fail)
            go_wp2
            have hfj := HF.out j (by omega)
            have hfk := HF.out (k + 1) (by omega)
            generalize hwq : (w.drewN q').drewN nq = wq
            have cj' : wq.cell? ⟨blk, off + j, none⟩ = some (.int .i64 x) := by rw [← hwq]; exact hcj
            have ck' : wq.cell? ⟨blk, off + (k + 1), none⟩ = some (.int .i64 z) := by rw [← hwq]; exact hck
            have fj' : wq.frozen? ⟨blk, off + j, none⟩ = false := by rw [← hwq]; exact hfj
            have fk' : wq.frozen? ⟨blk, off + (k + 1), none⟩ = false := by rw [← hwq]; exact hfk
            have HW : Hid ((w.drewN q').drewN nq = wq) := hwq
            clear hwq hcj hck hfj hfk hcj1
            obtain ⟨r1, r2⟩ := np_some HN.out HI.out (by rw [← HG.out, ← HG.out, HX.out, HY.out]; omega) (by rw [← HG.out j, HX.out]; exact HK.out) (by rw [← HG.out, ← HG.out, HX.out, HZ.out]; omega)
            have hlen : (npS d j (k + 1)).length = n := by rw [npS, List.length_set, List.length_set]; exact HN.out.symm
            have hW : ((wq.setCell ⟨blk, off + j, none⟩ (.int .i64 z)).setCell ⟨blk, off + (k + 1), none⟩ (.int .i64 x)).drew = (putRow (Value.int .i64) w blk off (npS d j (k + 1)).toArray).drewN (q' + nq + 1) := by
              have hnl := HN.out
              have e1 : ∀ t, t < n → d.toArray[t]! = G t := fun t ht => by
                rw [HG.out, getElem!_pos d.toArray t (by simp; omega)]
                simp [List.getD_eq_getElem?_getD, List.getElem?_eq_getElem (show t < d.length by omega)]
              rw [← npS_arr (by omega) (by omega), ← swap_worldC _ _ _ _ _ _ _ _ (by simp; omega) (by simp; omega), e1 j (by omega), e1 (k + 1) (by omega), HX.out, HZ.out, putRow_self _ _ _ _ _ HH.out, ← HW.out, show (w.drewN q').drewN nq = w.drewN (q' + nq) by simp [World.drewN, Nat.add_assoc]]
            have hrev := rev_tail (blk := blk) (off := off) (cap := cap - (j + 1)) (i := j + 1) (e := npS d j (k + 1)) (W := ((wq.setCell ⟨blk, off + j, none⟩ (.int .i64 z)).setCell ⟨blk, off + (k + 1), none⟩ (.int .i64 x)).drew) (n := n)
              (by rw [hW]; exact holds_ahead _ _ _ _ _ _ (holds_putRow _ _ _ _ _ _ HH.out (by simp [hlen]; exact HN.out))) hlen (by omega) h2
            have HR : Hid (npB d = true) := r1
            have HL : Hid (npL d = npR (npS d j (k + 1)) (j + 1)) := r2
            have HWW : Hid (((wq.setCell ⟨blk, off + j, none⟩ (.int .i64 z)).setCell ⟨blk, off + (k + 1), none⟩ (.int .i64 x)).drew = (putRow (Value.int .i64) w blk off (npS d j (k + 1)).toArray).drewN (q' + nq + 1)) := hW
            have HLEN : Hid ((npS d j (k + 1)).length = n) := hlen
            clear r1 r2 hW hlen
            have p6 : ¬ cap = j + 1 := by omega
            have p7 : ¬ cap - (j + 1) = 0 := by omega
            go_region
            all_goals (go_wp2_with (go_at_call 55; refine hrev.mono ?_; rintro e w' ⟨rfl, q3, rfl⟩))
            all_goals go_ret
            have e0 : ∀ N (e : Array Int), (putRow (Value.int .i64) w blk off e).drewN N = putRow (Value.int .i64) (Sort.ahead w N) blk off e := fun N e => (putRow_ahead _ w N blk off e).symm
            refine ⟨by rw [HR.out]; rfl, q' + nq + 1 + q3, ?_⟩
            rw [HL.out, HWW.out, e0]
            refine putRow_ahead_putRow _ _ _ _ _ _ _ _ ?_
            simp only [List.size_toArray]
            rw [npR, List.length_append, List.length_reverse, List.length_take, List.length_drop, HLEN.out]
            omega
end Go.Proofs
