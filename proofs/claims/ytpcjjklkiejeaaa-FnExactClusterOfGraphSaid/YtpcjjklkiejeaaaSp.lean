/-
  slices.SortFunc at edges: sortedEdges. No conditions but those of the contract.
-/
import Derived.Test.YtpcjjklkiejeaaaSm
import Derived.Test.YtpcjjklkiejeaaaFm
import Derived.Test.YtpcjjklkiejeaaaSo
import Derived.Test.YtpcjjklkiejeaaaHm
import Derived.Shelf.SlSortCmp.NoneTotal
set_option linter.all false
namespace Go.Ax
open Go.Proofs Go.Sort Go.RowKit

/-! the closure -/
set_option maxRecDepth 100000 in
theorem s_cmpE : Sat Try.prog 68 (c_ll_i f_cmpL q_II) := by
  intro args ps r h hp
  unfold c_ll_i at h
  split at h
  · rename_i a0 a1
    simp only [Option.some.injEq, Prod.mk.injEq] at h
    obtain ⟨rfl, rfl⟩ := h
    have hq : q_II a0 a1 := (alls_cons.1 hp).1
    have g0 : V.frzs a0 = a0 := by obtain ⟨⟨l, hl⟩, _⟩ := hq; rw [hl, I_frzs]
    have g1 : V.frzs a1 = a1 := by obtain ⟨_, ⟨l, hl⟩⟩ := hq; rw [hl, I_frzs]
    generalize H_f_cmpL : f_cmpL = F_f_cmpL
    generalize H_q_II : q_II = F_q_II
    refine fnOk_ofI (T := tab) (B := [(46, c_ll_i F_f_cmpL F_q_II)]) (Bi := []) [0, 1, 4] Try.func68 rfl rfl (by kernel_rfl) (Nat.le_of_ble_eq_true rfl) mixed tabOk (by subst H_f_cmpL H_q_II; exact (bookCons s_slicesCompare bookNil)) (by subst H_f_cmpL H_q_II; exact bookINil) (by kernel_rfl) ?_
    intro L lp rr hL hr hf hlp
    conv => cbv
    simp only [stdEqs hL, g0, g1]
    subst H_f_cmpL H_q_II
    rw [hr]
    exact ⟨hq, rfl⟩
  · cases h
/-! the row of headers -/
theorem czE : Try.prog.cellsOf 22 = 1 := by kernel_rfl
theorem world_grown {W w' : World} (h : BelowD W.heap.size W w') : w' = grow (W.drewN (w'.drawn - W.drawn)) (w'.heap.extract W.heap.size w'.heap.size) := by
  obtain ⟨h1, h2, ⟨h3, h4⟩, h5, h6⟩ := h
  have hd : (grow (W.drewN (w'.drawn - W.drawn)) (w'.heap.extract W.heap.size w'.heap.size)).drawn = w'.drawn := by
    show W.drawn + (w'.drawn - W.drawn) = w'.drawn
    omega
  have hh : (grow (W.drewN (w'.drawn - W.drawn)) (w'.heap.extract W.heap.size w'.heap.size)).heap = w'.heap := by
    show W.heap ++ w'.heap.extract W.heap.size w'.heap.size = w'.heap
    apply Array.ext_getElem?
    intro i
    by_cases hi : i < W.heap.size
    · rw [Array.getElem?_append_left hi, h6 i hi]
    · rw [Array.getElem?_append_right (by omega), Array.getElem?_extract]
      by_cases h7 : i < w'.heap.size
      · rw [if_pos (by omega), show W.heap.size + (i - W.heap.size) = i by omega]
      · rw [if_neg (by omega), Array.getElem?_eq_none (by omega)]
  cases w'
  simp only [grow, World.drewN] at hd hh ⊢
  simp only at h1 h2 h3
  simp only [World.mk.injEq]
  exact ⟨hh.symm, h2, hd.symm, h1, h3⟩
theorem heap_putRowE {α : Type} [Inhabited α] (enc : α → Value) {w : World} {blk : Nat} {cur : Array Value} {t : TypeId} {fz : Nat × Nat} (hb : w.heap[blk]? = some (.cells cur t fz)) (d : Array α) :
    (putRow enc w blk 0 d).heap[blk]? = some (.cells (putCells enc 0 d cur) t fz) := by
  simp [putRow, mapBlock, Array.getElem?_modify, hb, onCells]
theorem heap_putRowE_ne {α : Type} [Inhabited α] (enc : α → Value) {w : World} {blk k : Nat} (hk : k ≠ blk) (d : Array α) : (putRow enc w blk 0 d).heap[k]? = w.heap[k]? := by
  simp [putRow, mapBlock, Array.getElem?_modify, Ne.symm hk]
theorem sortE_walk {p : Option Addr} {n cap : Nat} {w : World} {R : Ending → World → Prop} (hcon : Calls Try.prog 67 #[.slice p n cap, .func (.func 68) #[] #[]] w fun e w' => e = .returned (.tuple #[]) ∧ R e w') :
    Calls Try.prog 64 #[.slice p n cap] w fun e w' => e = .returned (.slice p n cap) ∧ R (.returned (.tuple #[])) w' := by
  go_enter Try.func64, Try.ntmps64
  go_wp2_with (go_at_call 67; refine hcon.mono ?_; rintro e w' ⟨rfl, hR⟩)
  go_ret
  exact ⟨rfl, hR⟩
theorem fin_get {n : Nat} [Inhabited (Fin n)] {j : Nat} (h : j < n) : (Array.ofFn (fun i : Fin n => i))[j]! = ⟨j, h⟩ := by
  rw [getElem!_pos _ j (by simpa using h)]
  simp
theorem sort_lays {n : Nat} [Inhabited (Fin n)] {es : List (List Int)} (hn : es.length = n) {w : World} {F Oj : Nat → Prop} {b : Nat} {cs : Nat → List Value} {Os : Nat → Nat → Prop}
    (hF : ∀ k, F k → k < w.heap.size) (hO : ∀ k, Oj k → k < w.heap.size ∧ ¬ F k) (hOb : Oj b) (hOs : ∀ i x, Os i x → Oj x ∧ x ≠ b)
    (hr : ∀ i x, (II true es)[i]? = some x → Rep Try.prog.cellsOf w F x (cs i) (Os i)) :
    CmpLays1 Try.prog 68 #[] (fun i : Fin n => (cs i).headD undef) (fun i j : Fin n => cmpL (es.getD i []) (es.getD j [])) b 0 n w := by
  intro m os dk hdk x y
  rw [Array.append_empty]
  generalize hW : sortWorld (fun i : Fin n => (cs i).headD undef) w b 0 m dk os = W
  have hbs := (hO b hOb).1
  have hWs : w.heap.size ≤ W.heap.size := by rw [← hW, sortWorld, size_grow, Go.Sort.size_putRow]; exact Nat.le_add_right _ _
  have hWo : ∀ k, k < w.heap.size → k ≠ b → W.heap[k]? = w.heap[k]? := fun k hk hkb => by
    rw [← hW, sortWorld, heap_grow_old _ _ (by rw [Go.Sort.size_putRow]; exact hk), heap_putRowE_ne _ hkb]
    rfl
  have hrow : ∀ i : Fin n, (V.slc false 2 (.int .i64 0) (I (es.getD i []))).reg (cs i) ((cs i).headD undef) ∧ Rep Try.prog.cellsOf W (fun k => F k ∨ ∃ i : Nat, i < n ∧ Os i k) (.slc false 2 (.int .i64 0) (I (es.getD i []))) (cs i) (fun _ => False) := fun i => by
    refine ⟨rfl, ?_⟩
    have h1 := hr i (.slc true 2 (.int .i64 0) (I (es.getD i []))) (by
      rw [II, List.getElem?_map, List.getElem?_eq_getElem (by rw [hn]; exact i.2), List.getD_eq_getElem?_getD, List.getElem?_eq_getElem (by rw [hn]; exact i.2)]
      rfl)
    have h2 := (h1.world (w' := W) (fun k hk => by
      rcases hk with hk | hk
      · exact hWo k (hF k hk) (fun e => (hO b hOb).2 (by rw [← e]; exact hk))
      · exact hWo k (hO k (hOs _ _ hk).1).1 (hOs _ _ hk).2)).frz
    have h3 : (V.slc true 2 (.int .i64 0) (I (es.getD i []))).frz = .slc false 2 (.int .i64 0) (I (es.getD i [])) := by
      simp [V.frz, I_frzs]
    rw [h3] at h2
    exact h2.mono (fun k hk => hk.imp id (fun h => ⟨i, i.2, h⟩)) (fun _ h => h)
  obtain ⟨_, hok⟩ := s_cmpE [.slc false 2 (.int .i64 0) (I (es.getD x [])), .slc false 2 (.int .i64 0) (I (es.getD y []))] _ _ rfl (alls_cons.2 ⟨⟨⟨_, rfl⟩, ⟨_, rfl⟩⟩, fun q hq => by cases hq⟩)
  refine (hok #[(cs x).headD undef, (cs y).headD undef] W (fun k => F k ∨ ∃ i : Nat, i < n ∧ Os i k) rfl (fun i v hv => ?_) (fun k hk => ?_)).mono ?_
  · match i, hv with
    | 0, hv => cases hv; exact ⟨_, hrow x⟩
    | 1, hv => cases hv; exact ⟨_, hrow y⟩
  · rcases hk with hk | ⟨i, _, hk⟩
    · exact Nat.lt_of_lt_of_le (hF k hk) hWs
    · exact Nat.lt_of_lt_of_le (hO k (hOs i k hk).1).1 hWs
  · rintro e w' ⟨v, cs', On, Fr, rfl, hreg, hrep, _, _, hbel⟩
    have hv : v = .int .i64 (cmpL (es.getD x []) (es.getD y [])) := by
      have e1 : f_cmpL (I (es.getD x [])) (I (es.getD y [])) = cmpL (es.getD x []) (es.getD y []) := by rw [f_cmpL, unI_I, unI_I]
      rw [← e1]
      have h1 := rep_int hrep
      rw [h1] at hreg
      exact hreg
    exact ⟨by rw [hv], _, _, world_grown hbel⟩
def ic_srtE (f : List V → List V) (q : List V → Prop) : IContract := fun
  | [.slc true 22 (.slc true 2 (.int .i64 0) []) a0] => some ([q a0], .slc true 22 (.slc true 2 (.int .i64 0) []) (f a0), .hole 0)
  | _ => none
def f_srtE (a : List V) : List V := II true (srtE (unII a))
theorem cmpL_neg (a b : List Int) : decide (cmpL a b < 0) = lexLt a b := by
  have h := cmpL_lt a b
  by_cases h1 : 0 ≤ cmpL a b
  · rw [decide_eq_true h1] at h
    rw [decide_eq_false (by omega)]
    cases h2 : lexLt a b with
    | false => rfl
    | true => rw [h2] at h; cases h
  · rw [decide_eq_false h1] at h
    rw [decide_eq_true (by omega)]
    cases h2 : lexLt a b with
    | true => rfl
    | false => rw [h2] at h; cases h
theorem s_impl_sortedEdges : SatM Try.prog 64 0 (ic_srtE f_srtE q_srtE) := by
  intro args ps r y h hp
  unfold ic_srtE at h
  split at h
  · rename_i a0
    simp only [Option.some.injEq, Prod.mk.injEq] at h
    obtain ⟨rfl, rfl, rfl⟩ := h
    obtain ⟨es, hes, hn2⟩ : q_srtE a0 := (alls_cons.1 hp).1
    have hel : a0.length = es.length := by rw [hes, II_length]
    refine ⟨⟨_, Try.func64, by kernel_rfl, rfl⟩, by simp, fun vals w F Oj hsz hv hF hO => ?_⟩
    obtain ⟨cs0, hreg, hrep⟩ := hv 0 _ rfl
    rw [if_pos rfl] at hrep
    have hvs : vals = #[vals.getD 0 undef] := by
      apply Array.ext
      · simpa using hsz
      · intro i h1 h2
        have : i = 0 := by simp at h2; omega
        subst this
        simp [Array.getD, show 0 < vals.size by omega]
    have hreg' : vals.getD 0 undef = cs0.headD undef := hreg
    generalize vals.getD 0 undef = v0 at *
    by_cases hn0 : es.length = 0
    · have hes0 : es = [] := List.eq_nil_of_length_eq_zero hn0
      have ha0 : a0 = [] := by rw [hes, hes0]; rfl
      obtain ⟨p, cap, hv0⟩ : ∃ p cap, v0 = .slice p 0 cap := by
        cases hrep with
        | own0 => exact ⟨none, 0, hreg'⟩
        | own e d es' b len cap cur cs Os O hb hcz hln hc hm hOb hOs hdis hcs hr =>
          refine ⟨some ⟨b, 0, none⟩, cap, ?_⟩
          rw [hreg', show len = 0 by omega]
          rfl
      have hcon := AnyF.slices_SortFunc_none (P := Try.prog) (ρ := lsortE_ren) { lsortE with } p cap (.func (.func 68) #[] #[]) w
      change Calls Try.prog 67 _ _ _ at hcon
      rw [hvs, hv0]
      refine (sortE_walk (R := fun _ w' => w' = w) hcon).mono ?_
      rintro e w' ⟨rfl, rfl⟩
      have hfr : f_srtE a0 = a0 := by rw [f_srtE, ha0]; simp [srtE, unII, II]
      rw [hfr]
      exact ⟨_, cs0, Oj, fun _ => False, rfl, by rw [← hv0]; exact hreg, hrep.mono (fun _ h => .inl h) (fun _ h => h), fun b hb => hb.elim .inl (fun h => h.elim), fun _ _ h => h, Nat.le_refl _, rfl, rfl, OutK.refl _, fun _ _ _ => rfl⟩
    have hn1 : 1 ≤ es.length := by omega
    cases hrep with
    | own0 =>
      have h9 := congrArg List.length hes
      rw [II_length] at h9
      simp at h9
      omega
    | own e d es' b len cap cur cs Os O hb hcz hln hc hm hOb hOs hdis hcs hr =>
      have hv0 : v0 = .slice (some ⟨b, 0, none⟩) len cap := hreg'
      obtain ⟨n, hn⟩ : ∃ n, n = es.length := ⟨_, rfl⟩
      have hnp : 0 < n := by omega
      letI : Inhabited (Fin n) := ⟨⟨0, hnp⟩⟩
      have hlen : len = n := by omega
      have hbs : b < w.heap.size := (hO b hOb).1
      rw [hes] at hr hcs
      have hcell : ∀ i : Nat, i < n → cs i = [(cs i).headD undef] ∧ ((cs i).headD undef).oneCell' = true := fun i hi => by
        have h1 := hr i (.slc true 2 (.int .i64 0) (I (es.getD i []))) (by
          rw [II, List.getElem?_map, List.getElem?_eq_getElem (by omega), List.getD_eq_getElem?_getD, List.getElem?_eq_getElem (by omega)]
          rfl)
        have h2 : (cs i).length = 1 := h1.length
        obtain ⟨v, hv1⟩ := List.length_eq_one_iff.1 h2
        refine ⟨by rw [hv1]; rfl, ?_⟩
        have h3 := h1.oneCell (by simp [V.solid])
        rw [hv1]
        exact h3 v (by rw [hv1]; simp)
      have hH : Go.Sort.Holds (fun i : Fin n => (cs i).headD undef) w b 0 (Array.ofFn (fun i : Fin n => i)) := fun j hj => by
        have hj' : j < n := by simpa using hj
        rw [fin_get hj']
        refine ⟨?_, ?_⟩
        · have h1 := (hcs j (by rw [II_length]; omega)).2 0 ((cs j).headD undef) (by rw [(hcell j hj').1]; rfl)
          rw [czE] at h1
          rw [show (0 : Nat) + j = j * 1 + 0 by omega]
          exact h1
        · simp [World.frozen?, hb]
      have hlays := sort_lays (n := n) (es := es) hn.symm (w := w) (F := F) (Oj := Oj) (b := b) (cs := cs) (Os := Os) hF hO hOb hOs hr
      have hcf : ∀ i j : Fin n, ltOf (fun i j : Fin n => cmpL (es.getD i []) (es.getD j [])) i j = lexLt (es.getD i []) (es.getD j []) := fun i j => cmpL_neg _ _
      have hSWO : SWO (ltOf (fun i j : Fin n => cmpL (es.getD i []) (es.getD j []))) := {
        irrefl := fun x => by rw [hcf]; exact lexLt_irrefl _
        trans := fun x y z h1 h2 => by rw [hcf] at *; exact lexLt_trans _ _ _ h1 h2
        ntrans := fun x y z h1 h2 => by rw [hcf] at *; exact lexLt_ntrans _ _ _ h1 h2 }
      have eg : ∀ args w, (callFunc 68 args).run Try.prog w = .ok (.enter 68 args) w := enters_of Try.func68 (by kernel_rfl) rfl
      have hds : (Array.ofFn (fun i : Fin n => i)).size = n := by simp
      have hcon := Any.slices_SortFunc lsortE (fun i : Fin n => (cs i).headD undef) (fun x => (hcell x x.2).2) (fun i j : Fin n => cmpL (es.getD i []) (es.getD j [])) hSWO 68 #[] b 0 cap (Array.ofFn (fun i : Fin n => i)) w eg (by rw [hds]; exact hlays) hH hbs (by rw [hds]; omega)
      rw [hds] at hcon
      change Calls Try.prog 67 _ _ _ at hcon
      rw [hvs, hv0, hlen]
      refine (sortE_walk hcon).mono ?_
      rintro e1 w' ⟨rfl, d', m, os, hperm, hsort, hw'⟩
      have hb0 : (Sort.ahead w m).heap[b]? = some (.cells cur 22 (0, 0)) := hb
      have hw2 : ∀ k, k < w.heap.size → k ≠ b → w'.heap[k]? = w.heap[k]? := fun k hk hkb => by
        rw [hw', sortWorld, heap_grow_old _ _ (by rw [Go.Sort.size_putRow]; exact hk), heap_putRowE_ne _ hkb]
        rfl
      have hb2 : w'.heap[b]? = some (.cells (putCells (fun i : Fin n => (cs i).headD undef) 0 d' cur) 22 (0, 0)) := by
        rw [hw', sortWorld, heap_grow_old _ _ (by rw [Go.Sort.size_putRow]; exact hbs)]
        exact heap_putRowE _ hb0 _
      have hws : w.heap.size ≤ w'.heap.size := by rw [hw', sortWorld, size_grow, Go.Sort.size_putRow]; exact Nat.le_add_right _ _
      have hd's : d'.size = n := by rw [hperm.1, hds]
      have hpl : d'.toList.Perm (List.finRange n) := by
        have h1 := hperm.2.2
        have e1 : d'.extract 0 n = d' := by
          have := Array.extract_size (xs := d')
          rwa [hd's] at this
        have e2 : (Array.ofFn (fun i : Fin n => i)).extract 0 n = Array.ofFn (fun i : Fin n => i) := by
          have := Array.extract_size (xs := Array.ofFn (fun i : Fin n => i))
          rwa [hds] at this
        rw [e1, e2, Array.toList_ofFn] at h1
        exact h1
      have hdl : d'.toList.length = n := by rw [Array.length_toList, hd's]
      have hg : ∀ i, (h : i < n) → d'[i]! = d'.toList[i]'(by rw [hdl]; exact h) := fun i h => by
        rw [getElem!_pos d' i (by rw [hd's]; exact h)]
        simp
      have hnd : d'.toList.Nodup := hpl.nodup_iff.2 (List.nodup_finRange n)
      have hinj : ∀ i j, i < n → j < n → d'[i]! = d'[j]! → i = j := fun i j hi hj he => by
        rw [hg i hi, hg j hj] at he
        have hpw := List.pairwise_iff_getElem.1 hnd
        rcases Nat.lt_trichotomy i j with h1 | h1 | h1
        · exact absurd he (hpw i j (by rw [hdl]; exact hi) (by rw [hdl]; exact hj) h1)
        · exact h1
        · exact absurd he.symm (hpw j i (by rw [hdl]; exact hj) (by rw [hdl]; exact hi) h1)
      have hes0 : (List.finRange n).map (fun i : Fin n => es.getD i []) = es := by
        apply List.ext_getElem
        · simp [hn]
        · intro i h1 h2
          simp [List.getD_eq_getElem?_getD, List.getElem?_eq_getElem h2]
      obtain ⟨es', hes'⟩ : ∃ es' : List (List Int), es' = d'.toList.map (fun i : Fin n => es.getD i []) := ⟨_, rfl⟩
      have hes'l : es'.length = n := by rw [hes', List.length_map, hdl]
      have hsrt : srtE es = es' := by
        refine srtE_eq ?_ ?_
        · rw [hes']
          have := hpl.symm.map (fun i : Fin n => es.getD i [])
          rwa [hes0] at this
        · rw [hes', List.pairwise_map, List.pairwise_iff_getElem]
          intro i j hi hj hij
          have h1 := hsort i j (Nat.zero_le _) hij (by rw [hdl] at hj; exact hj)
          rw [hcf, hg i (by rw [hdl] at hi; exact hi), hg j (by rw [hdl] at hj; exact hj)] at h1
          exact h1
      have hge : ∀ i, i < n → es'.getD i [] = es.getD (d'[i]! : Fin n) [] := fun i hi => by
        rw [hes', List.getD_eq_getElem?_getD, List.getElem?_map, List.getElem?_eq_getElem (by rw [hdl]; exact hi), hg i hi]
        rfl
      have hH2 := holds_putRow (fun i : Fin n => (cs i).headD undef) (Sort.ahead w m) b 0 (Array.ofFn (fun i : Fin n => i)) d' hH (by rw [hd's, hds])
      have hfr : f_srtE a0 = II true es' := by rw [f_srtE, hes, unII_II, hsrt]
      refine ⟨_, [.slice (some ⟨b, 0, none⟩) n cap], Oj, fun _ => False, rfl, rfl, ?_, fun b hb => hb.elim .inl (fun h => h.elim), fun _ _ h => h, hws, by rw [hw']; rfl, by rw [hw']; rfl, by rw [hw']; exact ⟨rfl, Nat.le_add_right _ _⟩, fun k hk hx => hw2 k hk (fun e => hx (by rw [e]; exact hOb))⟩
      rw [hfr]
      refine .own _ _ _ b n cap (putCells (fun i : Fin n => (cs i).headD undef) 0 d' cur) (fun i => cs (d'[i]! : Fin n)) (fun i k => i < n ∧ Os (d'[i]! : Fin n) k) _ hb2 ?_ (by rw [II_length]; exact hes'l.symm) (by rw [II_length, hes'l]; omega) hm hOb (fun i x hx => hOs _ _ hx.2) (fun i j x hij hx hy => ?_) (fun i hi => ?_) (fun i x hx => ?_)
      · rw [putCells, Array.size_mapIdx]; exact hcz
      · refine hdis _ _ x (fun e => hij (hinj i j hx.1 hy.1 (Fin.ext e))) hx.2 hy.2
      · rw [II_length, hes'l] at hi
        refine ⟨by rw [czE, (hcell _ (d'[i]! : Fin n).2).1]; rfl, fun k v hk => ?_⟩
        rw [(hcell _ (d'[i]! : Fin n).2).1] at hk
        cases k with
        | succ k => simp at hk
        | zero =>
          simp only [List.getElem?_cons_zero, Option.some.injEq] at hk
          subst hk
          have h1 := (hH2 i (by rw [hd's]; exact hi)).1
          rw [czE, hw', sortWorld, cell?_grow _ _ _ (by rw [Go.Sort.size_putRow]; exact hbs), show i * 1 + 0 = 0 + i by omega, h1]
      · have hi : i < n := by
          have := (List.getElem?_eq_some_iff.1 hx).1
          rwa [II_length, hes'l] at this
        have hx2 : (II true es)[((d'[i]! : Fin n) : Nat)]? = some x := by
          rw [← hx, II, II, List.getElem?_map, List.getElem?_map, List.getElem?_eq_getElem (by rw [← hn]; exact (d'[i]! : Fin n).2), List.getElem?_eq_getElem (by rw [hes'l]; exact hi)]
          have h1 := hge i hi
          rw [List.getD_eq_getElem?_getD, List.getD_eq_getElem?_getD, List.getElem?_eq_getElem (by rw [hes'l]; exact hi), List.getElem?_eq_getElem (by rw [← hn]; exact (d'[i]! : Fin n).2)] at h1
          simp only [Option.getD_some] at h1
          rw [h1]
        exact ((hr _ _ hx2).world (w' := w') (fun k hk => by
          rcases hk with hk | hk
          · exact hw2 k (hF k hk) (fun e => (hO b hOb).2 (by rw [← e]; exact hk))
          · exact hw2 k (hO k (hOs _ _ hk).1).1 (hOs _ _ hk).2)).mono (fun k hk => .inl hk) (fun k hk => ⟨hi, hk⟩)
  · cases h
end Go.Ax
