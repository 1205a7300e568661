import Derived.Test.YtnhfpgcicpfohaaDoorB03p1
import Derived.Test.YtnhfpgcicpfohaaDoorRows
import Derived.Test.YtnhfpgcicpfohaaDoorAxP4p1
import Derived.Shelf.Strconv.Itoa4
import Derived.Shelf.Strings.OnBuilder
import Derived.Test.YtnhfpgcicpfohaaDoorProg
import Derived.Test.YtnhfpgcicpfohaaDoorB01p1
/-
 Lists of branches;curves. No conditions but those of the contracts.
-/
set_option linter.all false
namespace Go.Ax
open Go.Proofs
def bL:V→List V
 | .agg [.slc _ _ _ es]=>es
 |_=>[]
def BB (o:Bool) (xss:List (List Int)):List V:=xss.map fun xs=> .agg [.slc o 2 (.int .i64 0) (I xs)]
def unBB (es:List V):List (List Int):=es.map fun v=>unI (bL v)
theorem unBB_BB (o:Bool) (xss:List (List Int)):unBB (BB o xss)=xss:=by
 simp only [unBB,BB,List.map_map]
 conv=>rhs;rw [←List.map_id xss]
 apply List.map_congr_left
 intro xs _
 simp [bL]
theorem BB_length (o:Bool) (xss:List (List Int)):(BB o xss).length=xss.length:=by simp [BB]
theorem BB_getD (o:Bool) (xss:List (List Int)) (i:Nat):(BB o xss).getD i (.agg [.slc o 2 (.int .i64 0) []])= .agg [.slc o 2 (.int .i64 0) (I (xss.getD i []))]:=by
 simp only [BB,List.getD_eq_getElem?_getD,List.getElem?_map]
 cases xss[i]? <;>rfl
theorem BB_set (o:Bool) (xss:List (List Int)) (i:Nat) (xs:List Int):(BB o xss).set i (.agg [.slc o 2 (.int .i64 0) (I xs)])=BB o (xss.set i xs):=by simp [BB,List.map_set]
theorem BB_frzs (o:Bool) (xss:List (List Int)):V.frzs (BB o xss)=BB false xss:=by
 rw [V.frzs_eq]
 simp only [BB,List.map_map]
 apply List.map_congr_left
 intro xs _
 simp [V.frz,V.frzs,I_frzs]
theorem BB_noFzs (xss:List (List Int)):V.noFzs (BB true xss)=true:=by
 rw [V.noFzs_eq]
 simp only [BB,List.all_map,List.all_eq_true]
 intro xs _
 simp [V.noFz,V.noFzs]
theorem fld_bran (o:Bool) (e:TypeId) (d:V) (es:List V):stdV.fld (.agg [.slc o e d es]) 0= .slc o e d es:=rfl
theorem toL_bran (o:Bool) (e:TypeId) (d:V) (es:List V):stdV.toL (stdV.fld (.agg [.slc o e d es]) 0)=es:=rfl
def IsBB (o:Bool) (es:List V):Prop:=∃xss,es=BB o xss
theorem ok_bran (o o':Bool) (xs:List Int):vw stdV tab o 20 49 (.agg [.slc o' 2 (.int .i64 0) (I xs)])=some (.agg [.slc o 2 (.int .i64 0) (I xs)]):=by cases o<;>rfl
def f0_markBS (es:List V) (k:Int):Int:=k+tot (unBB es)
def f1_markBS (es:List V) (k:Int):List V:=BB true (marksGo k (unBB es))
def q_markBS (o:Bool) (es:List V) (k:Int):Prop:=IsBB o es∧0≤k∧k+tot (unBB es)≤9223372036854775807
def q_markBO (es:List V) (k:Int):Prop:=q_markBS true es k
def f0_heldBS (es:List V) (k:Int):Int:=if unBB es=marksGo k (unBB es) then k+tot (unBB es) else-1
def q_markBF (es:List V) (k:Int):Prop:=q_markBS false es k
def c_eqBS (f0:List V→List V→Bool) (q:List V→List V→Prop):Contract:=fun
 |[.slc false 49 (.agg [.slc false 2 (.int .i64 0) []]) a0,.slc false 49 (.agg [.slc false 2 (.int .i64 0) []]) a1]=>some ([q a0 a1],.bool (f0 a0 a1))
 |_=>none
def f0_eqBS (a b:List V):Bool:=decide (unBB a=unBB b)
def q_eqBS (a b:List V):Prop:=IsBB false a∧IsBB false b
set_option maxHeartbeats 1000000 in
set_option maxRecDepth 100000 in
theorem s_laws_eqBranchS:Sat Tryd.prog 17 (c_eqBS f0_eqBS q_eqBS):=by
 intro args ps r h hp
 unfold c_eqBS at h
 split at h
 ·rename_i a0 a1
  simp only [Option.some.injEq,Prod.mk.injEq] at h
  obtain ⟨rfl,rfl⟩:=h
  obtain ⟨⟨xs,hxs⟩,ys,hys⟩:q_eqBS a0 a1:=(alls_cons.1 hp).1
  have hxl:a0.length=xs.length:=by rw [hxs,BB_length]
  have hyl:a1.length=ys.length:=by rw [hys,BB_length]
  have hf0:f0_eqBS a0 a1=decide (xs=ys):=by rw [f0_eqBS,hxs,hys,unBB_BB,unBB_BB]
  generalize H_f0_eqI:f0_eqI=F_f0_eqI
  generalize H_q_eqI:q_eqI=F_q_eqI
  refine fnOk_ofI (T:=tab) (B:=[(37,c_bb_bool F_f0_eqI F_q_eqI)]) (Bi:=[]) [0,1,4,5] Tryd.func17 rfl rfl (by kernel_rfl) (Nat.le_of_ble_eq_true rfl) mixed tabOk (by subst H_f0_eqI H_q_eqI;exact (bookCons s_laws_eqBranch bookNil)) (by subst H_f0_eqI H_q_eqI;exact bookINil) (by kernel_rfl) ?_
  intro L lp rr hL hr hf hlp
  have hlen:=hf.1.1
  have hrr:rr= .bool (decide (xs=ys)):=by rw [hr,hf0]
  conv=>cbv
  simp only [stdEqs hL,hxl,hyl]
  refine ⟨fun h=> ?_,fun h=> ?_⟩
  ·have:xs≠ys:=by
    rintro rfl
    simp at h
   rw [hrr,decide_eq_false this]
  have hll:xs.length=ys.length:=by
   simp only [Bool.not_eq_false',beq_iff_eq] at h
   omega
  refine hlp (Int) _ _ _ [0,1,5] (fun i=>[(0,none,.val (.slc false 49 (.agg [.slc false 2 (.int .i64 0) []]) a0)),(1,none,.val (.slc false 49 (.agg [.slc false 2 (.int .i64 0) []]) a1)),(5,none,.val (.int .i64 i))])
   (fun i=>0≤i∧i≤xs.length∧xs.take i.toNat=ys.take i.toNat) (fun i=>(xs.length-i).toNat) 0 (by subst hL;rfl) (by simp) ?_
  rintro i ⟨i0,i1,i2⟩ hfx ag hag
  conv=>cbv
  by_cases hb:i<xs.length
  ·have hg:a0.getD i.toNat (.agg [.slc false 2 (.int .i64 0) []])= .agg [.slc false 2 (.int .i64 0) (I (xs.getD i.toNat []))]:=by rw [hxs,BB_getD]
   have hg':a1.getD i.toNat (.agg [.slc false 2 (.int .i64 0) []])= .agg [.slc false 2 (.int .i64 0) (I (ys.getD i.toNat []))]:=by rw [hys,BB_getD]
   simp only [stdEqs hL,hxl,hyl,hg,hg',ok_bran,ok_ints,toL_bran,toL_slc,fld_bran,I_frzs,imp_self,true_and,decide_eq_true_eq,decide_eq_false_iff_not]
   subst H_f0_eqI H_q_eqI
   have e1:i.toNat<xs.length:=by omega
   have e2:i.toNat<ys.length:=by omega
   refine ⟨fun h=>⟨i0,by omega,i0,by omega,⟨⟨_,rfl⟩,⟨_,rfl⟩⟩,fun h4=> ?_,fun h4=> ?_⟩,fun h=>absurd hb h⟩
   ·simp only [f0_eqI,unI_I,Bool.not_eq_true',decide_eq_false_iff_not] at h4
    rw [hrr,decide_eq_false]
    rintro rfl
    exact h4 rfl
   ·simp only [f0_eqI,unI_I,Bool.not_eq_false',decide_eq_true_eq] at h4
    rw [wrap_id (by omega) (by omega)]
    refine hag _ ⟨by omega,by omega,?_⟩ (by omega)
    rw [toNat_succ i0,take_succ_tot xs _ e1,take_succ_tot ys _ e2,i2,h4]
  ·simp only [stdEqs hL,hxl,hyl,decide_eq_true_eq,decide_eq_false_iff_not]
   refine ⟨fun h=>absurd h hb,fun _=> ?_⟩
   rw [List.take_of_length_le (by omega),List.take_of_length_le (by omega)] at i2
   rw [hrr,decide_eq_true i2]
 ·cases h
end Go.Ax
set_option linter.all false
namespace Go.Proofs.YtnhfpgcicpfohaaDoor
open Go.ChangeShapes Go.WideShapes Go.ChangeAt Go.RowKit Go.Ax
theorem ownK:ownKnob Tryd.prog.godebug=none:=by kernel_rfl
theorem laidOut:laidOutB Tryd.prog=true:=by kernel_rfl
def okK:TK→Bool
 | .oth=>false
 |_=>true
theorem noOth:∀t ti,tget tab t=some ti→ti.k≠.oth:=by
 have h:(tab.all fun x=>okK x.2.k)=true:=by kernel_rfl
 intro t ti ht hk
 have:=List.all_eq_true.1 h _ (tget_mem ht)
 rw [hk] at this
 cases this
theorem wt_int {x:V} (h:Wt tab 2 x):∃n,x= .int .i64 n:=by
 cases h with
 |int _ ti k n h hk hn=>cases h;cases hk;exact ⟨n,rfl⟩
 |bool _ ti b h hk=>cases h;cases hk
 |str _ ti b h hk=>cases h;cases hk
 |slc _ ti e es h hk=>cases h;cases hk
 |agg _ ti e es h hk=>cases h;cases hk
theorem wt_ints {x:V} (h:Wt tab 44 x):∃es,x= .slc false 2 (.int .i64 0) es∧IsI es:=by
 cases h with
 |int _ ti k n h hk hn=>cases h;cases hk
 |bool _ ti b h hk=>cases h;cases hk
 |str _ ti b h hk=>cases h;cases hk
 |slc _ ti e es h hk hl he=>
  cases h;cases hk
  refine ⟨es,rfl,?_⟩
  clear hl
  induction es with
  |nil=>exact ⟨[],rfl⟩
  |cons y es ih=>
   obtain ⟨l,hl⟩:=ih (fun i y hy=>he (i+1) y (by simpa using hy))
   obtain ⟨n,hn⟩:=wt_int (he 0 y rfl)
   exact ⟨n::l,by rw [hl,hn];rfl⟩
 |agg _ ti e es h hk=>cases h;cases hk
theorem wt_branch {x:V} (h:Wt tab 46 x):∃es,x= .agg [.slc false 2 (.int .i64 0) es]∧IsI es:=by
 cases h with
 |int _ ti k n h hk hn=>cases h;cases hk
 |bool _ ti b h hk=>cases h;cases hk
 |str _ ti b h hk=>cases h;cases hk
 |slc _ ti e es h hk=>cases h;cases hk
 |agg _ ti fts fs h hk hl he=>
  cases h;cases hk
  match fs,hl with
  |[y],_=>
   obtain ⟨es,rfl,hes⟩:=wt_ints (he 0 0 44 y rfl rfl)
   exact ⟨es,rfl,hes⟩
theorem wt_intss {x:V} (h:Wt tab 23 x):∃es,x= .slc false 44 (.slc false 2 (.int .i64 0) []) es∧IsII false es:=by
 cases h with
 |int _ ti k n h hk hn=>cases h;cases hk
 |bool _ ti b h hk=>cases h;cases hk
 |str _ ti b h hk=>cases h;cases hk
 |slc _ ti e es h hk hl he=>
  cases h;cases hk
  refine ⟨es,rfl,?_⟩
  clear hl
  induction es with
  |nil=>exact ⟨[],rfl⟩
  |cons y es ih=>
   obtain ⟨l,hl⟩:=ih (fun i y hy=>he (i+1) y (by simpa using hy))
   obtain ⟨n,hn,m,rfl⟩:=wt_ints (he 0 y rfl)
   exact ⟨m::l,by rw [hl,hn];rfl⟩
 |agg _ ti e es h hk=>cases h;cases hk
theorem wt_branches {x:V} (h:Wt tab 22 x):∃es,x= .slc false 46 (.agg [.slc false 2 (.int .i64 0) []]) es∧IsBB false es:=by
 cases h with
 |int _ ti k n h hk hn=>cases h;cases hk
 |bool _ ti b h hk=>cases h;cases hk
 |str _ ti b h hk=>cases h;cases hk
 |slc _ ti e es h hk hl he=>
  cases h;cases hk
  refine ⟨es,rfl,?_⟩
  clear hl
  induction es with
  |nil=>exact ⟨[],rfl⟩
  |cons y es ih=>
   obtain ⟨l,hl⟩:=ih (fun i y hy=>he (i+1) y (by simpa using hy))
   obtain ⟨n,hn,m,rfl⟩:=wt_branch (he 0 y rfl)
   exact ⟨m::l,by rw [hl,hn];rfl⟩
 |agg _ ti e es h hk=>cases h;cases hk
theorem wt_curve {x:V} (h:Wt tab 25 x):∃es fs,x= .agg [.slc false 46 (.agg [.slc false 2 (.int .i64 0) []]) es,.slc false 44 (.slc false 2 (.int .i64 0) []) fs]∧IsBB false es∧IsII false fs:=by
 cases h with
 |int _ ti k n h hk hn=>cases h;cases hk
 |bool _ ti b h hk=>cases h;cases hk
 |str _ ti b h hk=>cases h;cases hk
 |slc _ ti e es h hk=>cases h;cases hk
 |agg _ ti fts fs h hk hl he=>
  cases h;cases hk
  match fs,hl with
  |[y,z],_=>
   obtain ⟨es,rfl,hes⟩:=wt_branches (he 0 0 22 y rfl rfl)
   obtain ⟨fs,rfl,hfs⟩:=wt_intss (he 1 1 23 z rfl rfl)
   exact ⟨es,fs,rfl,hes,hfs⟩
end Go.Proofs.YtnhfpgcicpfohaaDoor
set_option linter.all false
namespace Go.Ax
open Go.Proofs Go.Proofs.YtnhfpgcicpfohaaDoor
end Go.Ax
set_option linter.all false
set_option linter.all false
namespace Go.Proofs
open Go.Shelf
def lfmt_ren:Go.Shelf.Ren:=⟨fun|173=>56|246=>63|283=>70|284=>71|285=>72|286=>73|129=>75|317=>74|318=>76|319=>77|320=>78|337=>79|338=>80|n=>n,fun|2=>2|3=>3|9=>9|4=>4|171=>93|0=>0|53=>94|37=>67|5=>5|173=>97|212=>101|51=>102|20=>20|213=>103|46=>105|232=>108|233=>109|n=>n,fun|17=>1|18=>2|19=>3|n=>n⟩
theorem lfmt:Go.Proofs.LaysM.n173 Tryd.prog lfmt_ren:={
 mixed:=by kernel_rfl
 f129:=Tryd.func75.trans (congrArg some (by kernel_rfl))
 f173:=Tryd.func56.trans (congrArg some (by kernel_rfl))
 f246:=Tryd.func63.trans (congrArg some (by kernel_rfl))
 f283:=Tryd.func70.trans (congrArg some (by kernel_rfl))
 f284:=Tryd.func71.trans (congrArg some (by kernel_rfl))
 f285:=Tryd.func72.trans (congrArg some (by kernel_rfl))
 f286:=Tryd.func73.trans (congrArg some (by kernel_rfl))
 f317:=Tryd.func74.trans (congrArg some (by kernel_rfl))
 f318:=Tryd.func76.trans (congrArg some (by kernel_rfl))
 f319:=Tryd.func77.trans (congrArg some (by kernel_rfl))
 f320:=Tryd.func78.trans (congrArg some (by kernel_rfl))
 f337:=Tryd.func79.trans (congrArg some (by kernel_rfl))
 f338:=Tryd.func80.trans (congrArg some (by kernel_rfl))
 t0:=Tryd.underlying0
 a0:=Tryd.isAgg0
 z0:=Tryd.sizeOf0
 v0:=Tryd.zeroValue0
 t2:=Tryd.underlying2
 a2:=Tryd.isAgg2
 z2:=Tryd.sizeOf2
 v2:=Tryd.zeroValue2
 t3:=Tryd.underlying3
 a3:=Tryd.isAgg3
 z3:=Tryd.sizeOf3
 v3:=Tryd.zeroValue3
 t4:=Tryd.underlying4
 a4:=Tryd.isAgg4
 z4:=Tryd.sizeOf4
 v4:=Tryd.zeroValue4
 t5:=Tryd.underlying5
 a5:=Tryd.isAgg5
 z5:=Tryd.sizeOf5
 v5:=Tryd.zeroValue5
 t9:=Tryd.underlying9
 a9:=Tryd.isAgg9
 z9:=Tryd.sizeOf9
 v9:=Tryd.zeroValue9
 t20:=Tryd.underlying20
 a20:=Tryd.isAgg20
 z20:=Tryd.sizeOf20
 v20:=Tryd.zeroValue20
 t37:=Tryd.underlying67
 a37:=Tryd.isAgg67
 z37:=Tryd.sizeOf67
 v37:=Tryd.zeroValue67
 t46:=Tryd.underlying105
 a46:=Tryd.isAgg105
 z46:=Tryd.sizeOf105
 v46:=Tryd.zeroValue105
 t51:=Tryd.underlying102
 a51:=Tryd.isAgg102
 z51:=Tryd.sizeOf102
 v51:=Tryd.zeroValue102
 t53:=Tryd.underlying94
 a53:=Tryd.isAgg94
 z53:=Tryd.sizeOf94
 v53:=Tryd.zeroValue94
 t171:=Tryd.underlying93
 a171:=Tryd.isAgg93
 z171:=Tryd.sizeOf93
 v171:=Tryd.zeroValue93
 t173:=Tryd.underlying97
 a173:=Tryd.isAgg97
 z173:=Tryd.sizeOf97
 v173:=Tryd.zeroValue97
 t212:=Tryd.underlying101
 a212:=Tryd.isAgg101
 z212:=Tryd.sizeOf101
 v212:=Tryd.zeroValue101
 t213:=Tryd.underlying103
 a213:=Tryd.isAgg103
 z213:=Tryd.sizeOf103
 t232:=Tryd.underlying108
 a232:=Tryd.isAgg108
 z232:=Tryd.sizeOf108
 v232:=Tryd.zeroValue108
 t233:=Tryd.underlying109
 a233:=Tryd.isAgg109
 z233:=Tryd.sizeOf109
 v233:=Tryd.zeroValue109
 g17:=by kernel_rfl
 g18:=by kernel_rfl
 g19:=by kernel_rfl
 i0:=by kernel_rfl
 i2:=by kernel_rfl
 i3:=by kernel_rfl
 i4:=by kernel_rfl
 i5:=by kernel_rfl
 i9:=by kernel_rfl
 i20:=by kernel_rfl
 i37:=by kernel_rfl
 i46:=by kernel_rfl
 i51:=by kernel_rfl
 i53:=by kernel_rfl
 i171:=by kernel_rfl
 i173:=by kernel_rfl
 i212:=by kernel_rfl
 i232:=by kernel_rfl
 i233:=by kernel_rfl
 m17:=by kernel_rfl
 m18:=by kernel_rfl
 m19:=by kernel_rfl}
def ljoin_ren:Go.Shelf.Ren:=⟨fun|156=>34|165=>50|166=>51|169=>52|240=>57|241=>58|276=>64|277=>65|n=>n,fun|31=>60|9=>9|3=>3|4=>4|0=>0|20=>20|72=>74|76=>78|70=>72|37=>67|75=>77|127=>83|164=>87|5=>5|80=>80|n=>n,fun|n=>n⟩
theorem ljoin:Go.Proofs.Lays.n156 Tryd.prog ljoin_ren:={
 mixed:=by kernel_rfl
 f156:=Tryd.func34.trans (congrArg some (by kernel_rfl))
 f165:=Tryd.func50.trans (congrArg some (by kernel_rfl))
 f166:=Tryd.func51.trans (congrArg some (by kernel_rfl))
 f169:=Tryd.func52.trans (congrArg some (by kernel_rfl))
 f240:=Tryd.func57.trans (congrArg some (by kernel_rfl))
 f241:=Tryd.func58.trans (congrArg some (by kernel_rfl))
 f276:=Tryd.func64.trans (congrArg some (by kernel_rfl))
 f277:=Tryd.func65.trans (congrArg some (by kernel_rfl))
 t0:=Tryd.underlying0
 a0:=Tryd.isAgg0
 z0:=Tryd.sizeOf0
 v0:=Tryd.zeroValue0
 t3:=Tryd.underlying3
 a3:=Tryd.isAgg3
 z3:=Tryd.sizeOf3
 v3:=Tryd.zeroValue3
 t4:=Tryd.underlying4
 a4:=Tryd.isAgg4
 z4:=Tryd.sizeOf4
 v4:=Tryd.zeroValue4
 t9:=Tryd.underlying9
 a9:=Tryd.isAgg9
 z9:=Tryd.sizeOf9
 v9:=Tryd.zeroValue9
 t20:=Tryd.underlying20
 a20:=Tryd.isAgg20
 z20:=Tryd.sizeOf20
 v20:=Tryd.zeroValue20
 t31:=Tryd.underlying60
 a31:=Tryd.isAgg60
 z31:=Tryd.sizeOf60
 v31:=Tryd.zeroValue60
 t37:=Tryd.underlying67
 a37:=Tryd.isAgg67
 z37:=Tryd.sizeOf67
 v37:=Tryd.zeroValue67
 t70:=Tryd.underlying72
 a70:=Tryd.isAgg72
 z70:=Tryd.sizeOf72
 v70:=Tryd.zeroValue72
 t72:=Tryd.underlying74
 a72:=Tryd.isAgg74
 z72:=Tryd.sizeOf74
 v72:=Tryd.zeroValue74
 t75:=Tryd.underlying77
 a75:=Tryd.isAgg77
 z75:=Tryd.sizeOf77
 v75:=Tryd.zeroValue77
 t76:=Tryd.underlying78
 a76:=Tryd.isAgg78
 z76:=Tryd.sizeOf78
 v76:=Tryd.zeroValue78
 t127:=Tryd.underlying83
 a127:=Tryd.isAgg83
 z127:=Tryd.sizeOf83
 v127:=Tryd.zeroValue83
 t164:=Tryd.underlying87
 a164:=Tryd.isAgg87
 z164:=Tryd.sizeOf87
 v164:=Tryd.zeroValue87}
theorem ljoinX:Builder.Extra Tryd.prog ljoin_ren:={
 sizeBuilder:=by kernel_rfl
 liesBuilder:=by kernel_rfl
 t5:=Tryd.underlying5
 a5:=Tryd.isAgg5
 z5:=Tryd.sizeOf5
 v5:=Tryd.zeroValue5
 infoByte:=by kernel_rfl
 cellsByte:=by kernel_rfl
 sizeByte:=by kernel_rfl
 neB5:=by decide}
end Go.Proofs
set_option linter.all false
namespace Go.Ax
open Go.Proofs
abbrev By:=List UInt8
def T (l:By):ByteArray:=⟨l.toArray⟩
theorem T_size (l:By):(T l).size=l.length:=by simp [T,ByteArray.size]
theorem T_app (a b:By):T a++T b=T (a++b):=by
 apply ByteArray.ext
 simp [T]
theorem T_list (l:By):(T l).toList=l:=by
 rw [ByteArray.toList_eq]
 simp [T]
def dcmF:Nat→Int→By
 |0,_=>[]
 |f+1,n=>if n<10 then [UInt8.ofNat (48+n).toNat] else dcmF f (n.tdiv 10)++[UInt8.ofNat (48+n.tmod 10).toNat]
def dcm (n:Int):By:=dcmF 20 n
def joinL (c:UInt8):List By→By
 |[]=>[]
 |[w]=>w
 |w::v::r=>w++c::joinL c (v::r)
end Go.Ax
set_option linter.all false
namespace Go.Ax
open Go.Proofs
theorem II_replicate (o:Bool) (n:Nat) (xs:List Int):II o (List.replicate n xs)=List.replicate n (.slc o 2 (.int .i64 0) (I xs)):=by simp [II,List.map_replicate]
theorem II_append (o:Bool) (a b:List (List Int)):II o (a++b)=II o a++II o b:=by simp [II]
def c_cc_bool (f0:List V→List V→List V→List V→Bool) (q:List V→List V→List V→List V→Prop):Contract:=fun
 |[.agg [.slc false 49 (.agg [.slc false 2 (.int .i64 0) []]) a0,.slc false 44 (.slc false 2 (.int .i64 0) []) a1],.agg [.slc false 49 (.agg [.slc false 2 (.int .i64 0) []]) b0,.slc false 44 (.slc false 2 (.int .i64 0) []) b1]]=>some ([q a0 a1 b0 b1],.bool (f0 a0 a1 b0 b1))
 |_=>none
def f0_eqC (a0 a1 b0 b1:List V):Bool:=f0_eqBS a0 b0&&f0_eqSS a1 b1
def q_eqC (a0 a1 b0 b1:List V):Prop:=q_eqBS a0 b0∧q_eqSS a1 b1
theorem frzs_BB {a:List V} (h:IsBB false a):V.frzs a=a:=by
 obtain ⟨l,rfl⟩:=h
 rw [BB_frzs]
theorem frzs_II {a:List V} (h:IsII false a):V.frzs a=a:=by
 obtain ⟨l,rfl⟩:=h
 rw [II_frzs]
set_option maxHeartbeats 1000000 in
set_option maxRecDepth 100000 in
theorem s_laws_eqCurve:Sat Tryd.prog 8 (c_cc_bool f0_eqC q_eqC):=by
 intro args ps r h hp
 unfold c_cc_bool at h
 split at h
 ·rename_i a0 a1 b0 b1
  simp only [Option.some.injEq,Prod.mk.injEq] at h
  obtain ⟨rfl,rfl⟩:=h
  obtain ⟨h0,h1⟩:q_eqC a0 a1 b0 b1:=(alls_cons.1 hp).1
  have g:=frzs_BB h0.1
  have g':=frzs_BB h0.2
  have g2:=frzs_II h1.1
  have g2':=frzs_II h1.2
  have hf0:f0_eqC a0 a1 b0 b1=(f0_eqBS a0 b0&&f0_eqSS a1 b1):=rfl
  generalize H_f0_eqBS:f0_eqBS=F_f0_eqBS
  generalize H_q_eqBS:q_eqBS=F_q_eqBS
  generalize H_f0_eqSS:f0_eqSS=F_f0_eqSS
  generalize H_q_eqSS:q_eqSS=F_q_eqSS
  refine fnOk_ofI (T:=tab) (B:=[(17,c_eqBS F_f0_eqBS F_q_eqBS),(18,c_eqSS F_f0_eqSS F_q_eqSS)]) (Bi:=[]) [0,1,2,3,4] Tryd.func8 rfl rfl (by kernel_rfl) (Nat.le_of_ble_eq_true rfl) mixed tabOk (by subst H_f0_eqBS H_q_eqBS H_f0_eqSS H_q_eqSS;exact (bookCons s_laws_eqBranchS (bookCons s_laws_eqInt64SS bookNil))) (by subst H_f0_eqBS H_q_eqBS H_f0_eqSS H_q_eqSS;exact bookINil) (by kernel_rfl) ?_
  intro L lp rr hL hr hf hlp
  conv=>cbv
  simp only [stdEqs hL,g,g',g2,g2']
  subst H_f0_eqBS H_q_eqBS H_f0_eqSS H_q_eqSS
  rw [hr,hf0]
  refine ⟨h0,fun h=> ?_,fun h=>⟨h1,fun h'=> ?_,fun h'=> ?_⟩⟩
  ·simp only [Bool.not_eq_true'] at h;rw [h];rfl
  ·simp only [Bool.not_eq_true',Bool.not_eq_false'] at h h';rw [h,h'];rfl
  ·simp only [Bool.not_eq_false'] at h h';rw [h,h'];rfl
 ·cases h
def f0_markC (a0 a1:List V) (k:Int):Int:=f0_markSS a1 (f0_markBS a0 k)
def f1_markC (a0 _:List V) (k:Int):List V:=f1_markBS a0 k
def f2_markC (a0 a1:List V) (k:Int):List V:=f1_markSS a1 (f0_markBS a0 k)
def q_markC (a0 a1:List V) (k:Int):Prop:=q_markBO a0 k∧q_markO a1 (f0_markBS a0 k)
def f0_heldC (a0 a1:List V) (k:Int):Int:=bif decide (f0_heldBS a0 k<0) then-1 else f0_heldSS a1 (f0_heldBS a0 k)
def q_heldC (a0 a1:List V) (k:Int):Prop:=q_markBF a0 k∧IsII false a1∧k+tot (unBB a0)+tot (unII a1)≤9223372036854775807
theorem tot_marksGo:∀(l:List (List Int)) (k:Int),tot (marksGo k l)=tot l
 |[],_=>rfl
 |x::l,k=>by simp only [marksGo,tot,marks_len,tot_marksGo l]
theorem marksGo_idem:∀(l:List (List Int)) (k:Int),marksGo k (marksGo k l)=marksGo k l
 |[],_=>rfl
 |x::l,k=>by simp only [marksGo,marks_len,marksGo_idem l]
theorem curve_keys (bs ms:List (List Int)) (h:tot bs+tot ms≤4611686018427387904):
 V.noFzs (BB true bs)=true∧V.noFzs (II true ms)=true∧q_eqC (BB false bs) (II false ms) (BB false bs) (II false ms)∧f0_eqC (BB false bs) (II false ms) (BB false bs) (II false ms)=true∧
 q_markC (BB true bs) (II true ms) 1∧f0_markC (BB true bs) (II true ms) 1=1+tot bs+tot ms∧f1_markC (BB true bs) (II true ms) 1=BB true (marksGo 1 bs)∧f2_markC (BB true bs) (II true ms) 1=II true (marksGo (1+tot bs) ms)∧
 V.frzs (BB true bs)=BB false bs∧V.frzs (II true ms)=II false ms∧V.frzs (BB true (marksGo 1 bs))=BB false (marksGo 1 bs)∧V.frzs (II true (marksGo (1+tot bs) ms))=II false (marksGo (1+tot bs) ms)∧
 q_heldC (BB false (marksGo 1 bs)) (II false (marksGo (1+tot bs) ms)) 1∧f0_heldC (BB false (marksGo 1 bs)) (II false (marksGo (1+tot bs) ms)) 1=1+tot bs+tot ms:=by
 have e:f0_markBS (BB true bs) 1=1+tot bs:=by rw [f0_markBS,unBB_BB]
 have e':f0_heldBS (BB false (marksGo 1 bs)) 1=1+tot bs:=by rw [f0_heldBS,unBB_BB,marksGo_idem,if_pos rfl,tot_marksGo]
 refine ⟨BB_noFzs _,II_noFzs _,⟨⟨⟨_,rfl⟩,⟨_,rfl⟩⟩,⟨_,rfl⟩,⟨_,rfl⟩⟩,by simp [f0_eqC,f0_eqBS,f0_eqSS],⟨⟨⟨_,rfl⟩,by omega,by rw [unBB_BB];omega⟩,?_⟩,by rw [f0_markC,e,f0_markSS,unII_II],by rw [f1_markC,f1_markBS,unBB_BB],
  by rw [f2_markC,e,f1_markSS,unII_II],BB_frzs _ _,II_frzs _ _,BB_frzs _ _,II_frzs _ _,⟨⟨⟨_,rfl⟩,by omega,by rw [unBB_BB,tot_marksGo];omega⟩,⟨_,rfl⟩,by rw [unBB_BB,unII_II,tot_marksGo,tot_marksGo];omega⟩,?_⟩
 ·rw [e]
  exact ⟨⟨_,rfl⟩,by omega,by rw [unII_II];omega⟩
 ·have hn:decide ((1:Int)+tot bs<0)=false:=by simp;omega
  rw [f0_heldC,e',hn,cond_false,f0_heldSS,unII_II,marksGo_idem,if_pos rfl,tot_marksGo]
end Go.Ax
