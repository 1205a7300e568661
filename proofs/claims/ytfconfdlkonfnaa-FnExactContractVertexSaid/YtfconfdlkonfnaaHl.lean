/-
  Vertices blown up: impl. No conditions but those of the contracts.
-/
import Derived.Test.YtfconfdlkonfnaaHk
import Derived.Test.YtfconfdlkonfnaaSp
import Derived.Test.YtfconfdlkonfnaaHm
import Derived.Test.YtfconfdlkonfnaaFp
set_option linter.all false
namespace Go.Ax
open Go.Proofs

def c_Gi_Gi (f : List V → List V → Int → List V × List V × Int) (q : List V → List V → Int → Prop) : Contract := fun
  | [.agg [.slc false 2 (.int .i64 0) a0, .slc false 22 (.slc false 2 (.int .i64 0) []) a1], .int .i64 a2] => some ([q a0 a1 a2], .tup [.agg [.slc true 2 (.int .i64 0) ((f a0 a1 a2).1), .slc true 22 (.slc true 2 (.int .i64 0) []) ((f a0 a1 a2).2.1)], .int .i64 ((f a0 a1 a2).2.2)])
  | _ => none
def buW (ws : List Int) (v : Nat) : List Int := ws.set v (W (ws.getD v 0 - 1)) ++ [-1]
def buE (n : Nat) (es : List (List Int)) (v : Nat) : List (List Int) := srtE (es ++ [[(v : Int), (n : Int)]])
def f_buv (a b : List V) (v : Int) : List V × List V × Int := bif decide (a.length = 40) || decide ((unI a).getD v.toNat 0 = -1000) then ([], [], 3) else (I (buW (unI a) v.toNat), II true (buE a.length (unII b) v.toNat), 0)
def q_buv (a b : List V) (v : Int) : Prop := IsI a ∧ IsIIs b ∧ a.length ≤ 1000 ∧ b.length ≤ 1000 ∧ 0 ≤ v ∧ v < a.length
def f_isV (a _ : List V) (v : Int) : Bool := decide (0 ≤ v) && decide (v ≤ (a.length : Int) - 1)
def q_isV (a b : List V) (_ : Int) : Prop := IsI a ∧ IsII false b ∧ a.length ≤ 1000
set_option maxRecDepth 100000 in
theorem s_impl_isVertex : Sat Try.prog 29 (c_Gi_b f_isV q_isV) := by
  intro args ps r h hp
  unfold c_Gi_b at h
  split at h
  · rename_i a0 a1 v
    simp only [Option.some.injEq, Prod.mk.injEq] at h
    obtain ⟨rfl, rfl⟩ := h
    obtain ⟨h0, h1, h2⟩ : q_isV a0 a1 v := (alls_cons.1 hp).1
    have g0 := h0.frz
    have g1 := frzs_II h1
    generalize H_inRange : inRange = F_inRange
    refine fnOk_ofI (T := tab) (B := [(50, c_impl_inRange F_inRange)]) (Bi := []) [0, 1, 2, 4] Try.func29 rfl rfl (by kernel_rfl) (Nat.le_of_ble_eq_true rfl) mixed tabOk (by subst H_inRange; exact (bookCons s_impl_inRange bookNil)) (by subst H_inRange; exact bookINil) (by kernel_rfl) ?_
    intro L lp rr hL hr hf hlp
    have Er : ∀ x y z, F_inRange x y z = inRange x y z := fun x y z => by rw [← H_inRange]
    conv => cbv
    simp only [stdEqs hL, g0, g1, Er]
    rw [wrap_id (by omega) (by omega), hr]
    rfl
  · cases h
set_option maxRecDepth 100000 in
theorem s_spec_l11Vertex : Sat Try.prog 23 (c_Gi_b f_isV q_isV) := by
  intro args ps r h hp
  unfold c_Gi_b at h
  split at h
  · rename_i a0 a1 v
    simp only [Option.some.injEq, Prod.mk.injEq] at h
    obtain ⟨rfl, rfl⟩ := h
    obtain ⟨h0, h1, h2⟩ : q_isV a0 a1 v := (alls_cons.1 hp).1
    have g0 := h0.frz
    have g1 := frzs_II h1
    generalize H_inRange : inRange = F_inRange
    refine fnOk_ofI (T := tab) (B := [(40, c_impl_inRange F_inRange)]) (Bi := []) [0, 1, 2, 4] Try.func23 rfl rfl (by kernel_rfl) (Nat.le_of_ble_eq_true rfl) mixed tabOk (by subst H_inRange; exact (bookCons s_spec_l01In bookNil)) (by subst H_inRange; exact bookINil) (by kernel_rfl) ?_
    intro L lp rr hL hr hf hlp
    have Er : ∀ x y z, F_inRange x y z = inRange x y z := fun x y z => by rw [← H_inRange]
    conv => cbv
    simp only [stdEqs hL, g0, g1, Er]
    rw [wrap_id (by omega) (by omega), hr]
    rfl
  · cases h
def f_BU (a b : List V) (v : Int) : List V × List V × Int := bif isGr (unI a) (unII b) then (bif f_isV a b v then f_buv a b v else ([], [], 2)) else ([], [], 1)
def q_Gi9 (a b : List V) (_ : Int) : Prop := q_G a b
theorem q_buv_of {a b : List V} {v : Int} (hq : q_G a b) (h : f_isGr a b = true) (h2 : f_isV a b v = true) : q_buv a b v := by
  obtain ⟨⟨ws, hws⟩, es, hes⟩ := hq
  rw [f_isGr, hws, hes, unI_I, unII_II] at h
  have g := gr_of h
  have hwl : a.length = ws.length := by rw [hws, I_length]
  have hel : b.length = es.length := by rw [hes, II_length]
  have n2 := g.n2
  have n3 := g.el
  simp only [f_isV, Bool.and_eq_true, decide_eq_true_eq] at h2
  exact ⟨⟨ws, hws⟩, ⟨es, hes, by omega, fun e he => by rw [(g.ed e he).1]; decide⟩, by omega, by omega, h2.1, by omega⟩
theorem q_isV_of {a b : List V} (hq : q_G a b) (h : f_isGr a b = true) (v : Int) : q_isV a b v := by
  obtain ⟨⟨ws, hws⟩, es, hes⟩ := hq
  rw [f_isGr, hws, hes, unI_I, unII_II] at h
  exact ⟨⟨ws, hws⟩, ⟨es, hes⟩, by rw [hws, I_length]; have := (gr_of h).n2; omega⟩
end Go.Ax
