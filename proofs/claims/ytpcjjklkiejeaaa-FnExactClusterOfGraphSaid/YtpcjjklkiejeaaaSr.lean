/-
  slices.Delete at lists of numbers, out of the shelf's contract. No conditions but those of the contract.
-/
import Derived.Test.YtpcjjklkiejeaaaSq
import Derived.Test.YtpcjjklkiejeaaaSo
import Derived.Shelf.SlicesG.Delete
set_option linter.all false
namespace Go.Ax
open Go.Proofs Go.Sort Go.RowKit

def delL (xs : List Int) (i j : Nat) : List Int := xs.take i ++ xs.drop j
def f_del (a : List V) (i j : Int) : List V := I (delL (unI a) i.toNat j.toNat)
def q_del (a : List V) (i j : Int) : Prop := ∃ xs, a = I xs ∧ 0 ≤ i ∧ i ≤ j ∧ j ≤ xs.length ∧ 1 ≤ xs.length ∧ xs.length ≤ 1000000
def ic_del (f : List V → Int → Int → List V) (q : List V → Int → Int → Prop) : IContract := fun
  | [.slc true 2 (.int .i64 0) a0, .int .i64 i, .int .i64 j] => some ([q a0 i j], .slc true 2 (.int .i64 0) (f a0 i j), .hole 0)
  | _ => none
theorem delL_len {xs : List Int} {i j : Nat} (h : i ≤ j) (h2 : j ≤ xs.length) : (delL xs i j).length = xs.length - (j - i) := by
  rw [delL, List.length_append, List.length_take, List.length_drop]; omega
theorem s_delete : SatM Try.prog 54 0 (ic_del f_del q_del) := by
  intro args ps r y h hp
  unfold ic_del at h
  split at h
  · rename_i a0 i j
    simp only [Option.some.injEq, Prod.mk.injEq] at h
    obtain ⟨rfl, rfl, rfl⟩ := h
    obtain ⟨xs, hxs, hi, hij, hj, hx1, hx2⟩ : q_del a0 i j := (alls_cons.1 hp).1
    have hxl : a0.length = xs.length := by rw [hxs, I_length]
    refine ⟨⟨_, Try.func54, by kernel_rfl, rfl⟩, by simp, fun vals w F Oj hsz hv hF hO => ?_⟩
    obtain ⟨cs0, hreg, hrep⟩ := hv 0 _ rfl
    obtain ⟨cs1, hreg1, hrep1⟩ := hv 1 _ rfl
    obtain ⟨cs2, hreg2, hrep2⟩ := hv 2 _ rfl
    rw [if_pos rfl] at hrep
    have e1 := rep_int hrep1
    have e2 := rep_int hrep2
    subst e1 e2
    have hv1 : vals.getD 1 undef = .int .i64 i := hreg1
    have hv2 : vals.getD 2 undef = .int .i64 j := hreg2
    have hvs : vals = #[vals.getD 0 undef, vals.getD 1 undef, vals.getD 2 undef] := by
      have hsz' : vals.size = 3 := by simpa using hsz
      apply Array.ext
      · simpa using hsz
      · intro k h1 h2
        rw [hsz'] at h1
        match k, h1 with
        | 0, _ => simp [Array.getD, hsz']
        | 1, _ => simp [Array.getD, hsz']
        | 2, _ => simp [Array.getD, hsz']
    have hreg' : vals.getD 0 undef = cs0.headD undef := hreg
    rw [hv1, hv2] at hvs
    generalize vals.getD 0 undef = v0 at *
    obtain ⟨it, hit⟩ : ∃ it : Nat, (it : Int) = i := ⟨i.toNat, Int.toNat_of_nonneg hi⟩
    obtain ⟨jt, hjt⟩ : ∃ jt : Nat, (jt : Int) = j := ⟨j.toNat, Int.toNat_of_nonneg (by omega)⟩
    cases hrep with
    | own0 =>
      have h9 := congrArg List.length hxs
      rw [I_length] at h9
      simp at h9
      omega
    | own e d es b len cap cur cs Os O hb hcz hln hc hm hOb hOs hdis hcs hr =>
      have hv0 : v0 = .slice (some ⟨b, 0, none⟩) len cap := hreg'
      have hbs : b < w.heap.size := (hO b hOb).1
      have hce : Try.prog.cellsOf 2 = 1 := cz1
      have hcell : ∀ k, k < xs.length → cs k = [.int .i64 (xs.getD k 0)] := fun k hk => by
        refine rep_int (hr k _ ?_)
        rw [hxs, I, List.getElem?_map, List.getElem?_eq_getElem hk, List.getD_eq_getElem?_getD, List.getElem?_eq_getElem hk]
        rfl
      have hH : Go.Sort.Holds (Value.int .i64) w b 0 xs.toArray := fun k hk => by
        have hk' : k < xs.length := by simpa using hk
        refine ⟨?_, ?_⟩
        · have h1 := (hcs k (by omega)).2 0 (.int .i64 (xs.getD k 0)) (by rw [hcell k hk']; rfl)
          rw [hce] at h1
          rw [show (0 : Nat) + k = k * 1 + 0 by omega, h1]
          refine congrArg (fun z => some (Value.int .i64 z)) ?_
          exact (toArr hk').symm
        · simp [World.frozen?, hb]
      have hlx : len = xs.length := by rw [hln, hxl]
      have hmx : cap ≤ 9223372036854775807 := by simpa [maxLen] using hm
      have hcall := AnyG.slices_Delete_int lsdel b 0 cap it jt xs w hH (by omega) hmx (by omega) (by omega)
      rw [hit, hjt] at hcall
      change Calls Try.prog 54 _ _ _ at hcall
      rw [hvs, hv0, hlx]
      refine hcall.mono ?_
      rintro e1 w' ⟨rfl, q, hw'⟩
      obtain ⟨ys, hys⟩ : ∃ ys, ys = delL xs it jt := ⟨_, rfl⟩
      have hyl : ys.length = xs.length - (jt - it) := by rw [hys, delL_len (by omega) (by omega)]
      obtain ⟨zs, hzs⟩ : ∃ zs, zs = xs.take it ++ xs.drop jt ++ List.replicate (jt - it) (0 : Int) := ⟨_, rfl⟩
      have hzy : zs = ys ++ List.replicate (jt - it) 0 := by rw [hzs, hys, delL]
      have hzl : zs.length = xs.length := by rw [hzy, List.length_append, List.length_replicate, hyl]; omega
      rw [← hzs] at hw'
      have hH1 : Go.Sort.Holds (Value.int .i64) (Sort.ahead w q) b 0 xs.toArray := hH
      have hH2 := holds_putRow (Value.int .i64) (Sort.ahead w q) b 0 xs.toArray zs.toArray hH1 (by simp [hzl])
      have hb2 : w'.heap[b]? = some (.cells (putCells (Value.int .i64) 0 zs.toArray cur) 2 (0, 0)) := by
        rw [hw']
        exact heap_putRow (w := Sort.ahead w q) hb _
      have hfr : f_del a0 i j = I ys := by rw [f_del, hxs, unI_I, ← hit, ← hjt, Int.toNat_natCast, Int.toNat_natCast, hys]
      refine ⟨_, [.slice (some ⟨b, 0, none⟩) (xs.length - (jt - it)) cap], Oj, fun _ => False, rfl, rfl, ?_, fun b hb => hb.elim .inl (fun h => h.elim), fun _ _ h => h, by rw [hw', Go.Sort.size_putRow]; exact Nat.le_refl _, by rw [hw']; rfl, by rw [hw']; rfl, by rw [hw']; exact ⟨rfl, Nat.le_add_right _ _⟩, fun k hk hx => ?_⟩
      · rw [hfr]
        refine .own _ _ _ b _ cap (putCells (Value.int .i64) 0 zs.toArray cur) (fun i => [.int .i64 (ys.getD i 0)]) (fun _ _ => False) _ hb2 ?_ (by rw [I_length, hyl]) (by rw [I_length, hyl]; omega) hm hOb (fun _ _ h => h.elim) (fun _ _ _ _ h => h.elim) (fun k hk => ?_) (fun k x hx => ?_)
        · rw [putCells, Array.size_mapIdx]; exact hcz
        · rw [I_length] at hk
          refine ⟨by rw [hce]; rfl, fun t v ht => ?_⟩
          cases t with
          | succ t => simp at ht
          | zero =>
            simp only [List.getElem?_cons_zero, Option.some.injEq] at ht
            subst ht
            have hkz : k < zs.length := by omega
            have h1 := (hH2 k (by simpa using hkz)).1
            rw [hce, hw', show k * 1 + 0 = 0 + k by omega, h1]
            refine congrArg (fun z => some (Value.int .i64 z)) ?_
            rw [toArr hkz, hzy, List.getD_eq_getElem?_getD, List.getElem?_append_left hk, ← List.getD_eq_getElem?_getD]
        · rw [I, List.getElem?_map] at hx
          cases hyi : ys[k]? with
          | none => rw [hyi] at hx; cases hx
          | some z =>
            rw [hyi] at hx
            simp only [Option.map_some, Option.some.injEq] at hx
            subst hx
            rw [List.getD_eq_getElem?_getD, hyi]
            exact .int _ _ _
      · rw [hw', heap_putRow_ne (fun h => hx (by rw [h]; exact hOb))]
        rfl
  · cases h
end Go.Ax
