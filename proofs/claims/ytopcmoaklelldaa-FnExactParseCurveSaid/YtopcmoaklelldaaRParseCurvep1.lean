import Derived.Test.YtopcmoaklelldaaB06p1
import Derived.Test.YtopcmoaklelldaaB22p1
/-
 The law function of ExactParseCurve answers true at every argument,and the arguments read as before.
-/
set_option linter.all false
namespace Go.Proofs.Ytopcmoaklelldaa
open Go.ChangeShapes Go.WideShapes Go.ChangeAt Go.RowKit Go.Ax
set_option maxRecDepth 100000 in
theorem fn_lifted (os:Os) (started:os.Started) (H:Type) (enc:TypeId×Value→H):
 ReturnsInHanded {} Try.checked os 3 .any (Rows.fnExactParseCurveSpec.pre6 enc Try.prog Try.f3 Rows.fnExactParseCurveRow.domain false) (Rows.fnExactParseCurveSpec.post enc Try.prog Try.f3 false true false false):=by
 refine returnsInHanded_of_change (C:= Try.checked) ownK started (by kernel_rfl) Try.func3
  (ChangeSpec.witness6 (enc:=enc) (C:= Try.checked) false ⟨#[],#[.string ⟨#[]⟩],[]⟩ 8 (by kernel_rfl) (by kernel_rfl) (by kernel_rfl) (by kernel_rfl)) ?_
 intro W base args ds gs before hval0 hW hcnd _
 refine law_calls (T:=tab) laidOut tabOk noOth (by
  intro t ht
  have:t= 9 :=by simpa [Try.params3] using ht
  subst this
  exact ⟨rfl,by kernel_rfl,of_decide_eq_true (by kernel_rfl)⟩) 4 (by kernel_rfl) Try.underlying4 rfl (by
  intro ds hd
  match ds,hd with
  |[d0],_=>rfl) (fun xs hx hw=> ?_) hval0 hW
 match xs,hx with
 |[x0],_=>
  obtain ⟨e0,rfl⟩:=wt_str (hw 0 9 x0 rfl rfl)
  exact s_laws_FnExactParseCurve _ _ _ rfl (alls_cons.2 ⟨trivial,fun q hq=>by cases hq⟩)
set_option maxRecDepth 100000 in
theorem jf:joinedFacts Try.pinned.checked.prog 3 Try.f3 Rows.fnExactParseCurveSpec Rows.fnExactParseCurveRow=true:=by
 unfold joinedFacts
 exact and2 (and2 (and2 (and2 (and2 (and2 (and2 (by kernel_rfl) pfEnter) pfLift) pfMake) (by kernel_rfl)) (by kernel_rfl)) (by kernel_rfl)) (by kernel_rfl)
theorem row_holds:Rows.FnExactParseCurveSaid:=
 OpenClaim.holds_of_wide 3 Try.f3 rfl rfl rfl rfl rfl rfl rfl ⟨rfl,rfl,rfl,rfl,rfl⟩ rfl rfl rfl rfl rfl (by kernel_rfl) Try.func3 jf
  (of_decide_eq_true (by kernel_rfl)) (by unfold Func.isWrapper;first|(rw [if_pos (by decide+kernel)];kernel_rfl)|(rw [if_neg (by decide+kernel)];exact ⟨rfl,rfl⟩))
  (fun os started H enc _=>fn_lifted os started H enc)
end Go.Proofs.Ytopcmoaklelldaa
