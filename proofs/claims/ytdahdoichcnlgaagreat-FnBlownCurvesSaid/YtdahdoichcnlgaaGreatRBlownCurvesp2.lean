import Derived.Test.YtdahdoichcnlgaaGreatB01p2
import Derived.Test.YtdahdoichcnlgaaGreatB03p2
import Derived.Test.YtdahdoichcnlgaaGreatB10p2
set_option linter.all false
set_option maxRecDepth 100000
/-
 The law function of BlownCurves answers true at every argument,and the arguments read as before.
-/
namespace Go.Proofs.YtdahdoichcnlgaaGreat
open Go.ChangeShapes Go.WideShapes Go.ChangeAt Go.RowKit Go.Ax
theorem fn_lifted(os:Os)(started:os.Started)(H:Type)(enc:TypeId×Value->H):
 ReturnsInHanded {} Tryz.checked os 4 .any (Rows.fnBlownCurvesSpec.pre6 enc Tryz.prog Tryz.f4 Rows.fnBlownCurvesRow.domain false) (Rows.fnBlownCurvesSpec.post enc Tryz.prog Tryz.f4 false true false false):=by
 refine returnsInHanded_of_change (C:= Tryz.checked) zEn started (by kernel_rfl) Tryz.func4
  (ChangeSpec.witness6 (enc:=enc) (C:= Tryz.checked) false ⟨#[],#[.slice none 0 0],[]⟩ 8 (by kernel_rfl) (by kernel_rfl) (by kernel_rfl) (by kernel_rfl)) ?_
 intro W base args ds gs before hval0 hW hcnd _
 refine zyS (T:=tab) zB6 zP zDY (by
  intro t ht;have:t= 22 :=by simpa [Tryz.params4]using ht
  subst this
  exact⟨rfl,by kernel_rfl,of_decide_eq_true (by kernel_rfl)⟩) 4 (by kernel_rfl) Tryz.underlying4 rfl (by
  intro ds hd
  match ds,hd with
  |[d0],_=>rfl) (fun xs hx hw=>?_) hval0 hW
 match xs,hx with
 |[x0],_=>
  obtain⟨e0,rfl,h0⟩:=zzE (hw 0 22 x0 rfl rfl);exact ziG _ _ _ rfl (zm.2 ⟨h0,fun q hq=>by cases hq⟩)
theorem jf:joinedFacts Tryz.pinned.checked.prog 4 Tryz.f4 Rows.fnBlownCurvesSpec Rows.fnBlownCurvesRow=true:=by
 unfold joinedFacts;exact znf (znf (znf (znf (znf (znf (znf (by kernel_rfl) zBV) zC9) zC8) (by kernel_rfl)) (by kernel_rfl)) (by kernel_rfl)) (by kernel_rfl)
theorem row_holds:Rows.FnBlownCurvesSaid:=
 OpenClaim.holds_of_wide 4 Tryz.f4 rfl rfl rfl rfl rfl rfl rfl ⟨rfl,rfl,rfl,rfl,rfl⟩ rfl rfl rfl rfl rfl (by kernel_rfl) Tryz.func4 jf
  (of_decide_eq_true (by kernel_rfl)) (by unfold Func.isWrapper;first|(rw[if_pos (by decide+kernel)];kernel_rfl)|(rw[if_neg (by decide+kernel)];exact⟨rfl,rfl⟩))
  (fun os started H enc _=>fn_lifted os started H enc)
end Go.Proofs.YtdahdoichcnlgaaGreat
