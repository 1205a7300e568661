import Derived.Test.YtnhfpgcicpfohaaGreatDoorB01p1
import Derived.Test.YtnhfpgcicpfohaaGreatDoorB11p1
import Derived.Test.YtnhfpgcicpfohaaGreatDoorCards
import Derived.Test.YtnhfpgcicpfohaaGreatDoorTie
import Derived.ProofKit
import Derived.LaidMore
import Derived.OpenShut
import Derived.Stop.Joined
import Derived.SevenTiedAt
import Derived.Lib.LaidTab
set_option linter.all false
set_option maxRecDepth 100000
open Option.some renaming inj→zcB
/-
 The law function of CurveTexts answers true at every argument,and the arguments read as before,where the library's tables read as the program's text lays them;and the card that ties this to the text.
-/
namespace Go.Proofs.YtnhfpgcicpfohaaGreatDoor
open Go.ChangeShapes Go.WideShapes Go.ChangeAt Go.RowKit Go.Ax
theorem gPow: Tryz.prog.globalNamed zcQ=some 1 :=by kernel_rfl
theorem tPow:(Tryz.prog.globals[1]?).map (·.type)=some 142 :=by kernel_rfl
theorem door_met(os:Os)(args:Array Value):laidMetH Tryz.prog Rows.fnCurveTextsRow.laid ((World.doorLaid Tryz.prog 24 os).forCall (fun _ _=>0) ⟨#[],args,[]⟩).memory:=
 laidMetH_of_parts3 (fuel:=8) (laidMet_of_run' 8 (by kernel_rfl) (by kernel_rfl)) (by kernel_rfl) (by kernel_rfl)
theorem gl_of_laid{W:World}(h:laidMetH Tryz.prog Rows.fnCurveTextsRow.laid W):Gl Tryz.prog W (fun b=>b<W.heap.size):=by
 have hv:W.var? Tryz.prog zcQ=some (zxI.map fun z=>Value.int .u64 z).toArray:=by
  rw[MakeChecks.laidMetH_plain _ _ _ (by kernel_rfl)]at h
  obtain⟨ps,⟨g0,t0,cs0,f0,p0,q0,hg0,ht0,hv0,hd0,⟨g1,t1,cs1,f1,p1,q1,hg1,ht1,hv1,hd1,⟨g2,t2,cs2,f2,p2,q2,hg2,ht2,hv2,hd2,_,_⟩,_⟩,_⟩,_,_⟩:=h
  obtain rfl:=zcB (gPow.symm.trans hg2)
  obtain rfl:=zcB (tPow.symm.trans ht2)
  have hd:DataW.trod (fun _=>()) Tryz.prog W 0 (fun _=>true) false f2 142 cs2.toList=some (Lib.tabData .u64 Lib.pow10Tab,p2):=hd2
  have hc:=Lib.cells_of_tab (n:=20) Tryz.underlying142 Tryz.underlying59 (by kernel_rfl) (by kernel_rfl) hd
  refine hv2.trans (congrArg some ?_)
  have:cs2=cs2.toList.toArray:=by simp
  rw[this,hc]
  rfl
 intro w' hw'
 refine .inr (Eq.trans ?_ hv)
 have hg: 1 <W.heap.size:=by
  simp only[World.var?,gPow,Option.bind_some]at hv
  refine Classical.byContradiction fun hc=>?_
  rw[Array.getElem?_eq_none (by omega)]at hv
  cases hv
 simp only[World.var?,gPow,Option.bind_some]
 rw[hw' _ hg]
theorem fn_lifted(os:Os)(started:os.Started)(H:Type)(enc:TypeId×Value→H):
 ReturnsInHanded {} Tryz.checked os 3 .any (fun w args=>(Rows.fnCurveTextsSpec.pre enc Tryz.prog Tryz.f3 [] false w args∧laidMetH Tryz.prog Rows.fnCurveTextsRow.laid w)∧sizedMet enc Tryz.prog Tryz.f3 (OpenSpec.ofChange Rows.fnCurveTextsSpec) false w args)
  (Rows.fnCurveTextsSpec.post enc Tryz.prog Tryz.f3 false true false false):=by
 refine returnsInHanded_of_change_and (C:= Tryz.checked) (X:=fun w _=>laidMetH Tryz.prog Rows.fnCurveTextsRow.laid w) (fun _ _ _ hh h=>h.of_heap hh) zDZ started (by kernel_rfl) Tryz.func3
  (ChangeSpec.witness_shaped (enc:=enc) (C:= Tryz.checked) (os:=os) (X:=fun w _=>laidMetH Tryz.prog Rows.fnCurveTextsRow.laid w) false (World.doorLaid Tryz.prog 24 os) #[.slice none 0 0] 8 rfl (World.shaped_of_RefB (by kernel_rfl) (by kernel_rfl)) (by kernel_rfl) (by kernel_rfl) (by kernel_rfl) (door_met os _)) ?_
 intro W base args ds gs before hval0 hW _ _ hL _
 refine zyf (T:=tab) zBt yd zDv (by
  intro t ht
  have:t= 22 :=by simpa [Tryz.params3]using ht
  subst this
  exact⟨rfl,by kernel_rfl,of_decide_eq_true (by kernel_rfl)⟩) 4 (by kernel_rfl) Tryz.underlying4 rfl (by
  intro ds hd
  match ds,hd with
  |[d0],_=>rfl) (fun xs hx hw=>?_) hval0 hW (gl_of_laid hL)
 match xs,hx with
 |[x0],_=>
  obtain⟨e0,rfl,h0⟩:=zy7 (hw 0 22 x0 rfl rfl)
  exact zjk _ _ _ rfl (zo.2 ⟨h0,fun q hq=>by cases hq⟩)
theorem row_holds:Rows.FnCurveTextsSaid:=
 OpenClaim.holds_of_wide 3 Tryz.f3 rfl rfl rfl rfl rfl rfl rfl ⟨rfl,rfl,rfl,rfl,rfl⟩ rfl rfl rfl rfl rfl (by kernel_rfl) Tryz.func3 (by kernel_rfl)
  (of_decide_eq_true (by kernel_rfl)) (by unfold Func.isWrapper;first|(rw[if_pos (by decide+kernel)];kernel_rfl)|(rw[if_neg (by decide+kernel)];exact⟨rfl,rfl⟩))
  (fun os started H enc _=>fn_lifted os started H enc)
theorem card_holds:Rows.FnCurveTextsCardSaid:=
 Claim7.holds_tied_plain_at .later [] [.data,.data,.data] true Rows.fnCurveTextsCard.stood.harness false
  row_holds (fun _ h=>by cases h) (by kernel_rfl) (fun _ h=>by cases h) fnCurveTexts_row_tie rfl ⟨rfl,rfl⟩ (by kernel_rfl) rfl
  (fun f fn hf hfn=>by
   obtain rfl:f= 3 :=zcB ((show Tryz.prog.funcNamed Rows.fnCurveTextsRow.func=some 3 by kernel_rfl).symm.trans hf)|>.symm
   obtain rfl:fn= Tryz.f3 :=(zcB (Tryz.func3.symm.trans hfn)).symm
   exact⟨by kernel_rfl,fun j t ht=>by
    rw[Tryz.params3]at ht
    have hm:t∈[22]:=by simpa using Array.mem_of_getElem? ht
    have hall:([22].all fun u=> !Tryz.prog.wantsStandIn u)=true:=by kernel_rfl
    exact(show Tryz.prog.wantsStandIn t=false by simpa using List.all_eq_true.1 hall t hm)⟩)
  (by kernel_rfl)
end Go.Proofs.YtnhfpgcicpfohaaGreatDoor
