import Derived.Test.YtpmjogeikkojoaaB01b1
import Derived.Test.YtpmjogeikkojoaaB03b1
/-
 The law function of ExactBlowUpEdge answers true at every argument,and the arguments read as before.
-/
set_option linter.all false
namespace Go.Proofs.Ytpmjogeikkojoaa
open Go.ChangeShapes Go.WideShapes Go.ChangeAt Go.RowKit Go.Ax
set_option maxRecDepth 100000 in
theorem fn_lifted (os:Os) (started:os.Started) (H:Type) (enc:TypeId×Value→H):
 ReturnsInHanded {} Try.checked os 3 .any (Rows.fnExactBlowUpEdgeSpec.pre6 enc Try.prog Try.f3 Rows.fnExactBlowUpEdgeRow.domain false) (Rows.fnExactBlowUpEdgeSpec.post enc Try.prog Try.f3 false true false false):=by
 refine returnsInHanded_of_change (C:= Try.checked) ownK started (by kernel_rfl) Try.func3
  (ChangeSpec.witness6 (enc:=enc) (C:= Try.checked) false ⟨#[],#[.agg #[.slice none 0 0,.slice none 0 0],.int .i64 0,.int .i64 0],[]⟩ 8 (by kernel_rfl) (by kernel_rfl) (by kernel_rfl) (by kernel_rfl)) ?_
 intro W base args ds gs before hval0 hW hcnd _
 refine law_calls (T:=tab) laidOut tabOk noOth (by
  intro t ht
  have:t= 25 ∨t= 2 ∨t= 2 :=by simpa [Try.params3] using ht
  rcases this with rfl|rfl|rfl
  all_goals exact ⟨rfl,by kernel_rfl,of_decide_eq_true (by kernel_rfl)⟩) 4 (by kernel_rfl) Try.underlying4 rfl (by
  intro ds hd
  match ds,hd with
  |[d0,d1,d2],_=>rfl) (fun xs hx hw=> ?_) hval0 hW
 match xs,hx with
 |[x0,x1,x2],_=>
  obtain ⟨e0,f0,rfl,h0⟩:=wt_graph (hw 0 25 x0 rfl rfl)
  obtain ⟨e1,rfl⟩:=wt_int (hw 1 2 x1 rfl rfl)
  obtain ⟨e2,rfl⟩:=wt_int (hw 2 2 x2 rfl rfl)
  exact s_laws_FnExactBlowUpEdge _ _ _ rfl (alls_cons.2 ⟨h0,fun q hq=>by cases hq⟩)
set_option maxRecDepth 100000 in
theorem jf:joinedFacts Try.pinned.checked.prog 3 Try.f3 Rows.fnExactBlowUpEdgeSpec Rows.fnExactBlowUpEdgeRow=true:=by
 unfold joinedFacts
 exact and2 (and2 (and2 (and2 (and2 (and2 (and2 (by kernel_rfl) pfEnter) pfLift) pfMake) (by kernel_rfl)) (by kernel_rfl)) (by kernel_rfl)) (by kernel_rfl)
theorem row_holds:Rows.FnExactBlowUpEdgeSaid:=
 OpenClaim.holds_of_wide 3 Try.f3 rfl rfl rfl rfl rfl rfl rfl ⟨rfl,rfl,rfl,rfl,rfl⟩ rfl rfl rfl rfl rfl (by kernel_rfl) Try.func3 jf
  (of_decide_eq_true (by kernel_rfl)) (by unfold Func.isWrapper;first|(rw [if_pos (by decide+kernel)];kernel_rfl)|(rw [if_neg (by decide+kernel)];exact ⟨rfl,rfl⟩))
  (fun os started H enc _=>fn_lifted os started H enc)
end Go.Proofs.Ytpmjogeikkojoaa
