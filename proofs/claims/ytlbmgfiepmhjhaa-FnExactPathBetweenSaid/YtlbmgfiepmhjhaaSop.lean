/-
  slices.Sort at lists of numbers, out of the shelf's contract. No conditions but those of the contract.
-/
import Derived.Test.YtlbmgfiepmhjhaaSlp
import Derived.Test.YtlbmgfiepmhjhaaFbp
import Derived.Shelf.SortM.Plain
import Derived.Shelf.SortM.SortNone
set_option linter.all false
namespace Go.Ax
open Go.Proofs Go.Sort Go.RowKit

def srt (xs : List Int) : List Int := xs.mergeSort fun x y => decide (x ≤ y)
def f_srt (es : List V) : List V := I (srt (unI es))
def ic_sort (f1 : List V → List V) (q : List V → Prop) : IContract := fun
  | [.slc true 2 (.int .i64 0) a0] => some ([q a0], .tup [], .slc true 2 (.int .i64 0) (f1 a0))
  | _ => none
theorem srt_len (xs : List Int) : (srt xs).length = xs.length := List.length_mergeSort _
theorem toArr {xs : List Int} {j : Nat} (h : j < xs.length) : xs.toArray[j]! = xs.getD j 0 := by
  rw [getElem!_pos xs.toArray j (by simpa using h)]
  simp [List.getD_eq_getElem?_getD, List.getElem?_eq_getElem h]
theorem cz1 : Try.prog.cellsOf 2 = 1 := by kernel_rfl
theorem rep_int {cz : TypeId → Nat} {w : World} {F O : Nat → Prop} {k : IntKind} {n : Int} {cs : List Value} (h : Rep cz w F (.int k n) cs O) : cs = [.int k n] := by
  cases h
  rfl
theorem heap_putRow {w : World} {blk : Nat} {cur : Array Value} {t : TypeId} {fz : Nat × Nat} (hb : w.heap[blk]? = some (.cells cur t fz)) (d : Array Int) :
    (putRow (Value.int .i64) w blk 0 d).heap[blk]? = some (.cells (putCells (Value.int .i64) 0 d cur) t fz) := by
  simp [putRow, mapBlock, Array.getElem?_modify, hb, onCells]
theorem heap_putRow_ne {w : World} {blk k : Nat} (hk : k ≠ blk) (d : Array Int) : (putRow (Value.int .i64) w blk 0 d).heap[k]? = w.heap[k]? := by
  simp [putRow, mapBlock, Array.getElem?_modify, Ne.symm hk]
theorem s_sort : SatI Try.prog 76 0 (ic_sort f_srt IsIs) := by
  intro args ps r y h hp
  unfold ic_sort at h
  split at h
  · rename_i a0
    simp only [Option.some.injEq, Prod.mk.injEq] at h
    obtain ⟨rfl, rfl, rfl⟩ := h
    obtain ⟨⟨xs, hxs⟩, hl⟩ : IsIs a0 := (alls_cons.1 hp).1
    have hxl : a0.length = xs.length := by rw [hxs, I_length]
    refine ⟨⟨_, Try.func76, by kernel_rfl, rfl⟩, ⟨_, rfl, by rw [hxs, f_srt, unI_I]; exact Sh.ints (srt_len xs).symm⟩, fun vals w F Oj css hsz hv hF hO => ?_⟩
    obtain ⟨hreg, hrep⟩ := hv 0 _ rfl
    rw [if_pos rfl] at hrep
    have hvs : vals = #[vals.getD 0 undef] := by
      apply Array.ext
      · simpa using hsz
      · intro i h1 h2
        have : i = 0 := by simp at h2; omega
        subst this
        simp [Array.getD, show 0 < vals.size by omega]
    have hreg' : vals.getD 0 undef = (css 0).headD undef := hreg
    generalize css 0 = cs0 at *
    generalize vals.getD 0 undef = v0 at *
    cases hrep with
    | own0 =>
      have hxn : xs = [] := by
        cases xs with
        | nil => rfl
        | cons x l => simp [I] at hxs
      have hv0 : v0 = .slice none 0 0 := hreg'
      rw [hvs, hv0]
      intro cs
      obtain ⟨e, w', fr, ⟨k1, k2⟩, k3⟩ := AnyM.slices_Sort_int_none lsort none 0 w cs
      refine ⟨e, w', fr, ⟨.tuple #[], [.tuple #[]], fun _ => False, fun _ => False, fun _ => False, k1, rfl, .tup [] #[] (fun _ => []) (fun _ _ => False) _ rfl (fun _ _ h => h) (fun _ _ _ _ h => h.elim) (fun i x h => by simp at h) (fun i x h => by simp at h), by rw [hv0] at hreg; rw [f_srt, hxs, unI_I, hxn]; exact hreg, ?_, ?_⟩, k3⟩
      · rw [f_srt, hxs, unI_I, hxn]
        have hn : I (srt []) = [] := by simp [srt]
        rw [hn]
        exact .own0 _ _ _
      · rw [k2]
        exact ⟨Nat.le_refl _, rfl, rfl, ⟨rfl, Nat.le_refl _⟩, fun _ _ _ => rfl, fun b hb => hb.elim False.elim False.elim, fun b hb => hb.elim, fun b hb => hb.elim, fun b hb => hb.elim, fun _ _ _ _ _ h => h⟩
    | own e d es b len cap cur cs Os O hb hcz hln hc hm hOb hOs hdis hcs hr =>
      have hv0 : v0 = .slice (some ⟨b, 0, none⟩) len cap := hreg'
      have hbs : b < w.heap.size := (Array.getElem?_eq_some_iff.1 hb).1
      have hce : Try.prog.cellsOf 2 = 1 := cz1
      have hcell : ∀ i, i < xs.length → cs i = [.int .i64 (xs.getD i 0)] := fun i hi => by
        refine rep_int (hr i _ ?_)
        rw [hxs, I, List.getElem?_map, List.getElem?_eq_getElem hi, List.getD_eq_getElem?_getD, List.getElem?_eq_getElem hi]
        rfl
      have hH : Go.Sort.Holds (Value.int .i64) w b 0 xs.toArray := fun j hj => by
        have hj' : j < xs.length := by simpa using hj
        refine ⟨?_, ?_⟩
        · have h1 := (hcs j (by omega)).2 0 (.int .i64 (xs.getD j 0)) (by rw [hcell j hj']; rfl)
          rw [hce] at h1
          rw [show (0 : Nat) + j = j * 1 + 0 by omega, h1]
          refine congrArg (fun z => some (Value.int .i64 z)) ?_
          exact (toArr hj').symm
        · simp [World.frozen?, hb]
      have hsz2 : xs.length < 4611686018427387904 := by omega
      have hlx : len = xs.length := by rw [hln, hxl]
      rw [hvs, hv0, hlx]
      intro cs1
      obtain ⟨e1, w', fr, ⟨k1, n, os, k2⟩, k3⟩ := AnyM.slices_Sort_int lsort b 0 cap xs w hH hbs hsz2 cs1
      have hH1 : Go.Sort.Holds (Value.int .i64) (Sort.ahead w n) b 0 xs.toArray := hH
      obtain ⟨ys, hys⟩ : ∃ ys, ys = srt xs := ⟨_, rfl⟩
      have hyl : ys.length = xs.length := by rw [hys, srt_len]
      have hyd : (xs.mergeSort fun x y => decide (x ≤ y)) = ys := hys.symm
      rw [hyd] at k2
      have hH2 := holds_putRow (Value.int .i64) (Sort.ahead w n) b 0 xs.toArray ys.toArray hH1 (by simp [hyl])
      have hb2 : w'.heap[b]? = some (.cells (putCells (Value.int .i64) 0 ys.toArray cur) 2 (0, 0)) := by
        rw [k2, heap_grow_old _ _ (by rw [size_putRow]; exact hbs)]
        exact heap_putRow (w := Sort.ahead w n) hb _
      refine ⟨e1, w', fr, ⟨.tuple #[], [.tuple #[]], fun _ => False, fun _ => False, fun x => x = b, k1, rfl, .tup [] #[] (fun _ => []) (fun _ _ => False) _ rfl (fun _ _ h => h) (fun _ _ _ _ h => h.elim) (fun i x h => by simp at h) (fun i x h => by simp at h), ?_, ?_, ?_⟩, k3⟩
      · exact rfl
      · rw [f_srt, hxs, unI_I, ← hys]
        refine .own _ _ _ b _ cap (putCells (Value.int .i64) 0 ys.toArray cur) (fun i => [.int .i64 (ys.getD i 0)]) (fun _ _ => False) _ hb2 ?_ (by rw [I_length]; omega) (by rw [I_length]; omega) hm rfl (fun _ _ h => h.elim) (fun _ _ _ _ h => h.elim) (fun i hi => ?_) (fun i x hx => ?_) (fun h => by cases h)
        · rw [putCells, Array.size_mapIdx]; exact hcz
        · rw [I_length] at hi
          refine ⟨by rw [hce]; rfl, fun k v hk => ?_⟩
          cases k with
          | succ k => simp at hk
          | zero =>
            simp only [List.getElem?_cons_zero, Option.some.injEq] at hk
            subst hk
            have h1 := (hH2 i (by simpa using hi)).1
            rw [hce, k2, cell?_grow _ _ _ (by rw [size_putRow]; exact hbs), show i * 1 + 0 = 0 + i by omega, h1]
            refine congrArg (fun z => some (Value.int .i64 z)) ?_
            exact toArr hi
        · rw [I, List.getElem?_map] at hx
          cases hyi : ys[i]? with
          | none => rw [hyi] at hx; cases hx
          | some z =>
            rw [hyi] at hx
            simp only [Option.map_some, Option.some.injEq] at hx
            subst hx
            rw [List.getD_eq_getElem?_getD, hyi]
            exact .int _ _ _
      · refine ⟨by rw [k2, size_grow, size_putRow]; exact Nat.le_add_right _ _, by rw [k2]; rfl, by rw [k2]; rfl, by rw [k2]; exact ⟨rfl, Nat.le_add_right _ _⟩, fun k hk hx => ?_, fun b hb => hb.elim False.elim False.elim, fun x hx => .inl (by rw [hx]; exact hOb), fun b hb => hb.elim, fun b hb => ⟨fun h => h, fun h => h⟩, fun k off u hx hu hcu => ?_⟩
        · rw [k2, heap_grow_old _ _ (by rw [size_putRow]; exact hk), heap_putRow_ne (fun h => hx (by rw [h]; exact hOb))]
          rfl
        · have hks := hO k hx
          rw [k2, cell?_grow _ _ _ (by rw [size_putRow]; exact hks.1), cell?_putRow_other]
          · exact hcu
          · by_cases hkb : k = b
            · by_cases hof : off < xs.length
              · exfalso
                have h1 := (hH off (by simpa using hof)).1
                rw [hkb] at hcu
                rw [show (0 : Nat) + off = off by omega] at h1
                rw [h1] at hcu
                simp only [Option.some.injEq] at hcu
                rw [← hcu] at hu
                simp [isHdr] at hu
              · refine .inr (.inr ?_)
                simp only [List.size_toArray]
                omega
            · exact .inl hkb
  · cases h
end Go.Ax
