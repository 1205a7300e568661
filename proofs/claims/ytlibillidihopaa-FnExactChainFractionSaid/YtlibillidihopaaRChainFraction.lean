/-
  The law function of ChainFraction answers true at every argument, and the argument reads as before.
-/
import Derived.Test.YtlibillidihopaaRows
import Derived.Test.YtlibillidihopaaFa
import Derived.Test.YtlibillidihopaaAxZF
namespace Go.Proofs.Ytlibillidihopaa
open Go.ChangeShapes Go.WideShapes Go.ChangeAt Go.RowKit Go.Ax

theorem ownK : ownKnob Try.prog.godebug = none := by kernel_rfl
theorem laidOut : laidOutB Try.prog = true := by kernel_rfl
theorem noOth : ∀ t ti, tget tab t = some ti → ti.k ≠ .oth := by
  intro t ti h
  have := tget_mem h
  simp only [tab, List.mem_cons, Prod.mk.injEq, List.not_mem_nil, or_false] at this
  rcases this with ⟨_, rfl⟩ | ⟨_, rfl⟩ | ⟨_, rfl⟩ | ⟨_, rfl⟩ <;> simp

/-- what an argument of numbers is -/
theorem wt_int {x : V} (h : Wt tab 2 x) : ∃ n, x = .int .i64 n := by
  cases h with
  | int _ ti k n h hk hn => cases h; cases hk; exact ⟨n, rfl⟩
  | bool _ ti b h hk => cases h; cases hk
  | str _ ti b h hk => cases h; cases hk
  | slc _ ti e es h hk => cases h; cases hk
  | agg _ ti e es h hk => cases h; cases hk
theorem wt_ints {x : V} (h : Wt tab 22 x) : ∃ es, x = .slc false 2 (.int .i64 0) es ∧ IsI es := by
  cases h with
  | int _ ti k n h hk hn => cases h; cases hk
  | bool _ ti b h hk => cases h; cases hk
  | str _ ti b h hk => cases h; cases hk
  | slc _ ti e es h hk hl he =>
    cases h; cases hk
    refine ⟨es, rfl, ?_⟩
    clear hl
    induction es with
    | nil => exact ⟨[], rfl⟩
    | cons y es ih =>
      obtain ⟨l, hl⟩ := ih (fun i y hy => he (i + 1) y (by simpa using hy))
      obtain ⟨n, hn⟩ := wt_int (he 0 y rfl)
      exact ⟨n :: l, by rw [hl, hn]; rfl⟩
  | agg _ ti e es h hk => cases h; cases hk

set_option maxRecDepth 100000 in
theorem fn_lifted (os : Os) (started : os.Started) (H : Type) (enc : TypeId × Value → H) :
    ReturnsInHanded {} Try.checked os 3 .any (Rows.fnExactChainFractionSpec.pre6 enc Try.prog Try.f3 Rows.fnExactChainFractionRow.domain false) (Rows.fnExactChainFractionSpec.post enc Try.prog Try.f3 false true false false) := by
  refine returnsInHanded_of_change (C := Try.checked) ownK started (by kernel_rfl) Try.func3
    (ChangeSpec.witness6 (enc := enc) (C := Try.checked) false ⟨#[], #[.slice none 0 0], []⟩ 8 (by kernel_rfl) (by kernel_rfl) (by kernel_rfl) (by kernel_rfl)) ?_
  intro W base args ds gs before hval0 hW hcnd _
  refine law_calls (T := tab) laidOut tabOk noOth (by
      intro t ht
      have : t = 22 := by simpa [Try.params3] using ht
      subst this
      exact ⟨rfl, by kernel_rfl, of_decide_eq_true (by kernel_rfl)⟩) 4 (by kernel_rfl) Try.underlying4 rfl (by
      intro ds hd
      match ds, hd with
      | [d], _ => rfl) (fun xs hx hw => ?_) hval0 hW
  match xs, hx with
  | [x], _ =>
    obtain ⟨es, rfl, hes⟩ := wt_ints (hw 0 22 x rfl rfl)
    exact s_laws_FnExactChainFraction _ _ _ rfl (alls_cons.2 ⟨hes, fun q hq => by cases hq⟩)

theorem row_holds : Rows.FnExactChainFractionSaid :=
  OpenClaim.holds_of_wide 3 Try.f3 rfl rfl rfl rfl rfl rfl rfl ⟨rfl, rfl, rfl, rfl, rfl⟩ rfl rfl rfl rfl rfl (by kernel_rfl) Try.func3 (by kernel_rfl)
    (of_decide_eq_true (by kernel_rfl)) (by unfold Func.isWrapper; first | (rw [if_pos (by decide +kernel)]; kernel_rfl) | (rw [if_neg (by decide +kernel)]; exact ⟨rfl, rfl⟩))
    (fun os started H enc _ => fn_lifted os started H enc)
#print axioms row_holds
end Go.Proofs.Ytlibillidihopaa
