/-
  What all rows take: facts of the program, and what arguments of the types in use are. No conditions.
-/
import Derived.Test.YtlbmgfiepmhjhaaRows
import Derived.Test.YtlbmgfiepmhjhaaFgp
import Derived.Test.YtlbmgfiepmhjhaaAxP4p
set_option linter.all false
namespace Go.Proofs.Ytlbmgfiepmhjhaa
open Go.ChangeShapes Go.WideShapes Go.ChangeAt Go.RowKit Go.Ax

theorem ownK : ownKnob Try.prog.godebug = none := by kernel_rfl
theorem laidOut : laidOutB Try.prog = true := by kernel_rfl
def okK : TK → Bool
  | .oth => false
  | _ => true
theorem noOth : ∀ t ti, tget tab t = some ti → ti.k ≠ .oth := by
  have h : (tab.all fun x => okK x.2.k) = true := by kernel_rfl
  intro t ti ht hk
  have := List.all_eq_true.1 h _ (tget_mem ht)
  rw [hk] at this
  cases this

theorem wt_int {x : V} (h : Wt tab 2 x) : ∃ n, x = .int .i64 n := by
  cases h with
  | int _ ti k n h hk hn => cases h; cases hk; exact ⟨n, rfl⟩
  | bool _ ti b h hk => cases h; cases hk
  | str _ ti b h hk => cases h; cases hk
  | slc _ ti e es h hk => cases h; cases hk
  | agg _ ti e es h hk => cases h; cases hk
theorem wt_ints {x : V} (h : Wt tab 22 x) : ∃ es, x = .slc false 2 (.int .i64 0) es ∧ IsI es := by
  cases h with
  | int _ ti k n h hk hn => cases h; cases hk
  | bool _ ti b h hk => cases h; cases hk
  | str _ ti b h hk => cases h; cases hk
  | slc _ ti e es h hk hl he =>
    cases h; cases hk
    refine ⟨es, rfl, ?_⟩
    clear hl
    induction es with
    | nil => exact ⟨[], rfl⟩
    | cons y es ih =>
      obtain ⟨l, hl⟩ := ih (fun i y hy => he (i + 1) y (by simpa using hy))
      obtain ⟨n, hn⟩ := wt_int (he 0 y rfl)
      exact ⟨n :: l, by rw [hl, hn]; rfl⟩
  | agg _ ti e es h hk => cases h; cases hk

theorem wt_intss {x : V} (h : Wt tab 23 x) : ∃ es, x = .slc false 22 (.slc false 2 (.int .i64 0) []) es ∧ IsII false es := by
  cases h with
  | int _ ti k n h hk hn => cases h; cases hk
  | bool _ ti b h hk => cases h; cases hk
  | str _ ti b h hk => cases h; cases hk
  | slc _ ti e es h hk hl he =>
    cases h; cases hk
    refine ⟨es, rfl, ?_⟩
    clear hl
    induction es with
    | nil => exact ⟨[], rfl⟩
    | cons y es ih =>
      obtain ⟨l, hl⟩ := ih (fun i y hy => he (i + 1) y (by simpa using hy))
      obtain ⟨n, hn, m, rfl⟩ := wt_ints (he 0 y rfl)
      exact ⟨m :: l, by rw [hl, hn]; rfl⟩
  | agg _ ti e es h hk => cases h; cases hk

theorem wt_graph {x : V} (h : Wt tab 25 x) : ∃ es fs, x = .agg [.slc false 2 (.int .i64 0) es, .slc false 22 (.slc false 2 (.int .i64 0) []) fs] ∧ IsI es ∧ IsII false fs := by
  cases h with
  | int _ ti k n h hk hn => cases h; cases hk
  | bool _ ti b h hk => cases h; cases hk
  | str _ ti b h hk => cases h; cases hk
  | slc _ ti e es h hk => cases h; cases hk
  | agg _ ti fts fs h hk hl he =>
    cases h; cases hk
    match fs, hl with
    | [y, z], _ =>
      obtain ⟨es, rfl, hes⟩ := wt_ints (he 0 0 22 y rfl rfl)
      obtain ⟨fs, rfl, hfs⟩ := wt_intss (he 1 1 23 z rfl rfl)
      exact ⟨es, fs, rfl, hes, hfs⟩

end Go.Proofs.Ytlbmgfiepmhjhaa
