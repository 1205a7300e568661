import Derived.Test.YtiepfglppnhpgaaGreatB01p3
import Derived.Test.YtiepfglppnhpgaaGreatB03p3
import Derived.Test.YtiepfglppnhpgaaGreatB10p3
set_option linter.all false
set_option maxRecDepth 100000
/-
 The law function of CurvesOfClusters answers true at every argument,and the arguments read as before.
-/
namespace Go.Proofs.YtiepfglppnhpgaaGreat
open Go.ChangeShapes Go.WideShapes Go.ChangeAt Go.RowKit Go.Ax
theorem fn_lifted(os:Os)(started:os.Started)(H:Type)(enc:TypeId×Value->H):
 ReturnsInHanded {} Tryz.checked os 3 .any (Rows.fnCurvesOfClustersSpec.pre6 enc Tryz.prog Tryz.f3 Rows.fnCurvesOfClustersRow.domain false) (Rows.fnCurvesOfClustersSpec.post enc Tryz.prog Tryz.f3 false true false false):=by
 refine returnsInHanded_of_change (C:= Tryz.checked) zGt started (by kernel_rfl) Tryz.func3
  (ChangeSpec.witness6 (enc:=enc) (C:= Tryz.checked) false ⟨#[],#[.slice none 0 0],[]⟩ 8 (by kernel_rfl) (by kernel_rfl) (by kernel_rfl) (by kernel_rfl)) ?_
 intro W base args ds gs before hval0 hW hcnd _
 refine zzK (T:=tab) zD1 Zy zF0 (by
  intro t ht;have:t= 22 :=by simpa [Tryz.params3]using ht
  subst this
  exact⟨rfl,by kernel_rfl,of_decide_eq_true (by kernel_rfl)⟩) 4 (by kernel_rfl) Tryz.underlying4 rfl (by
  intro ds hd
  match ds,hd with
  |[d0],_=>rfl) (fun xs hx hw=>?_) hval0 hW
 match xs,hx with
 |[x0],_=>
  obtain⟨e0,rfl,h0⟩:=zBc (hw 0 22 x0 rfl rfl);exact zfD _ _ _ rfl (zp.2 ⟨h0,fun q hq=>by cases hq⟩)
theorem jf:joinedFacts Tryz.pinned.checked.prog 3 Tryz.f3 Rows.fnCurvesOfClustersSpec Rows.fnCurvesOfClustersRow=true:=by
 unfold joinedFacts;exact znU (znU (znU (znU (znU (znU (znU (by kernel_rfl) zDN) zE5) zE4) (by kernel_rfl)) (by kernel_rfl)) (by kernel_rfl)) (by kernel_rfl)
theorem row_holds:Rows.FnCurvesOfClustersSaid:=
 OpenClaim.holds_of_wide 3 Tryz.f3 rfl rfl rfl rfl rfl rfl rfl ⟨rfl,rfl,rfl,rfl,rfl⟩ rfl rfl rfl rfl rfl (by kernel_rfl) Tryz.func3 jf
  (of_decide_eq_true (by kernel_rfl)) (by unfold Func.isWrapper;first|(rw[if_pos (by decide+kernel)];kernel_rfl)|(rw[if_neg (by decide+kernel)];exact⟨rfl,rfl⟩))
  (fun os started H enc _=>fn_lifted os started H enc)
end Go.Proofs.YtiepfglppnhpgaaGreat
