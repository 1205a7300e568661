import Derived.Test.YtopcmoaklelldaaB05p1
import Derived.Test.YtopcmoaklelldaaRows
import Derived.Test.YtopcmoaklelldaaAxP4p1
/-
 Lists of branches;curves. No conditions but those of the contracts.
-/
set_option linter.all false
namespace Go.Ax
open Go.Proofs
def bL:V→List V
 | .agg [.slc _ _ _ es]=>es
 |_=>[]
def BB (o:Bool) (xss:List (List Int)):List V:=xss.map fun xs=> .agg [.slc o 2 (.int .i64 0) (I xs)]
def unBB (es:List V):List (List Int):=es.map fun v=>unI (bL v)
theorem unBB_BB (o:Bool) (xss:List (List Int)):unBB (BB o xss)=xss:=by
 simp only [unBB,BB,List.map_map]
 conv=>rhs;rw [←List.map_id xss]
 apply List.map_congr_left
 intro xs _
 simp [bL]
theorem BB_length (o:Bool) (xss:List (List Int)):(BB o xss).length=xss.length:=by simp [BB]
theorem BB_getD (o:Bool) (xss:List (List Int)) (i:Nat):(BB o xss).getD i (.agg [.slc o 2 (.int .i64 0) []])= .agg [.slc o 2 (.int .i64 0) (I (xss.getD i []))]:=by
 simp only [BB,List.getD_eq_getElem?_getD,List.getElem?_map]
 cases xss[i]? <;>rfl
theorem BB_set (o:Bool) (xss:List (List Int)) (i:Nat) (xs:List Int):(BB o xss).set i (.agg [.slc o 2 (.int .i64 0) (I xs)])=BB o (xss.set i xs):=by simp [BB,List.map_set]
theorem BB_frzs (o:Bool) (xss:List (List Int)):V.frzs (BB o xss)=BB false xss:=by
 rw [V.frzs_eq]
 simp only [BB,List.map_map]
 apply List.map_congr_left
 intro xs _
 simp [V.frz,V.frzs,I_frzs]
theorem BB_noFzs (xss:List (List Int)):V.noFzs (BB true xss)=true:=by
 rw [V.noFzs_eq]
 simp only [BB,List.all_map,List.all_eq_true]
 intro xs _
 simp [V.noFz,V.noFzs]
theorem fld_bran (o:Bool) (e:TypeId) (d:V) (es:List V):stdV.fld (.agg [.slc o e d es]) 0= .slc o e d es:=rfl
theorem toL_bran (o:Bool) (e:TypeId) (d:V) (es:List V):stdV.toL (stdV.fld (.agg [.slc o e d es]) 0)=es:=rfl
def IsBB (o:Bool) (es:List V):Prop:=∃xss,es=BB o xss
theorem ok_bran (o o':Bool) (xs:List Int):vw stdV tab o 20 35 (.agg [.slc o' 2 (.int .i64 0) (I xs)])=some (.agg [.slc o 2 (.int .i64 0) (I xs)]):=by cases o<;>rfl
def ic_markBS (f0:List V→Int→Int) (f1:List V→Int→List V) (q:List V→Int→Prop):IContract:=fun
 |[.slc true 35 (.agg [.slc true 2 (.int .i64 0) []]) a0,.int .i64 a1]=>some ([q a0 a1],.int .i64 (f0 a0 a1),.slc true 35 (.agg [.slc true 2 (.int .i64 0) []]) (f1 a0 a1))
 |_=>none
def f0_markBS (es:List V) (k:Int):Int:=k+tot (unBB es)
def f1_markBS (es:List V) (k:Int):List V:=BB true (marksGo k (unBB es))
def q_markBS (o:Bool) (es:List V) (k:Int):Prop:=IsBB o es∧0≤k∧k+tot (unBB es)≤9223372036854775807
def q_markBO (es:List V) (k:Int):Prop:=q_markBS true es k
theorem Sh.brans {d:V}:∀(xss:List (List Int)) (k:Int),Sh (.slc true 35 d (BB true xss)) (.slc true 35 d (BB true (marksGo k xss))):=by
 intro xss k
 refine .slc _ _ _ _ _ (by rw [BB_length,BB_length,marksGo_len]) (fun i x y hx hy=> ?_)
 simp only [BB,List.getElem?_map,Option.map_eq_some_iff] at hx hy
 obtain ⟨a,ha,rfl⟩:=hx
 obtain ⟨b,hb,rfl⟩:=hy
 refine Sh.agg1 (Sh.ints ?_)
 have key:∀(l:List (List Int)) (k:Int) (i:Nat) (a b:List Int),l[i]? =some a→(marksGo k l)[i]? =some b→a.length=b.length:=by
  intro l
  induction l with
  |nil=>intro k i a b h;simp at h
  |cons x l ih=>
   intro k i a b h1 h2
   cases i with
   |zero=>simp [marksGo] at h1 h2;subst h1;subst h2;rw [marks_len]
   |succ i=>exact ih _ i a b (by simpa using h1) (by simpa [marksGo] using h2)
 exact key _ _ _ _ _ ha hb
set_option maxHeartbeats 1000000 in
set_option maxRecDepth 100000 in
theorem s_laws_markBranchS:SatI Try.prog 22 0 (ic_markBS f0_markBS f1_markBS q_markBO):=by
 intro args ps r y h hp
 unfold ic_markBS at h
 split at h
 ·rename_i a0 a1
  simp only [Option.some.injEq,Prod.mk.injEq] at h
  obtain ⟨rfl,rfl,rfl⟩:=h
  obtain ⟨⟨xss,hes⟩,hk0,hk1⟩:q_markBO a0 a1:=(alls_cons.1 hp).1
  rw [hes,unBB_BB] at hk1
  have hel:a0.length=xss.length:=by rw [hes,BB_length]
  generalize H_f0_mark:f0_mark=F_f0_mark
  generalize H_f1_mark:f1_mark=F_f1_mark
  generalize H_q_mark:q_mark=F_q_mark
  refine fnIO_of (T:=tab) (B:=[]) (Bi:=[(39,0,false,ic_markInt64S F_f0_mark F_f1_mark F_q_mark)]) 0 [0,1,4,5] Try.func22 rfl rfl (by kernel_rfl) (Nat.le_of_ble_eq_true rfl) mixed tabOk (by subst H_f0_mark H_f1_mark H_q_mark;exact bookNil) (by subst H_f0_mark H_f1_mark H_q_mark;exact (bookICons s_laws_markInt64S bookINil)) (by kernel_rfl) rfl rfl rfl (by rw [f1_markBS,hes,unBB_BB];exact Sh.brans xss a1) rfl rfl ?_
  intro L lp rr yy hL hr hy hf hlp
  have hlen:=hf.1.1
  conv=>cbv
  refine hlp (Int×Int×List V) _ _ _ [0,1,5] (fun x=>[(0,none,.val (.slc true 35 (.agg [.slc true 2 (.int .i64 0) []]) x.2.2)),(1,none,.val (.int .i64 x.1)),(5,none,.val (.int .i64 x.2.1))])
   (fun x=>0≤x.2.1∧x.2.1≤xss.length∧x.1=a1+tot (xss.take x.2.1.toNat)∧x.2.2=BB true (marksGo a1 (xss.take x.2.1.toNat)++xss.drop x.2.1.toNat)) (fun x=>(xss.length-x.2.1).toNat) (a1,0,a0) (by subst hL;rfl) ⟨by simp,by simp,by simp [tot],by simp [marksGo,hes]⟩ ?_
  rintro ⟨k,i,es⟩ ⟨i0,i1,hk,hys⟩ hfx ag hag
  conv=>cbv
  simp only at i0 i1 hk hys
  have hyl:es.length=xss.length:=by rw [hys,BB_length,List.length_append,marksGo_len,List.length_take,List.length_drop];omega
  by_cases hb:i<xss.length
  ·have hg:es.getD i.toNat (.agg [.slc true 2 (.int .i64 0) []])= .agg [.slc true 2 (.int .i64 0) (I (xss.getD i.toNat []))]:=by
    rw [hys,BB_getD,marks_at _ _ _ (by omega)]
   simp only [stdEqs hL,hyl,hg,ok_bran,ok_ints,toL_bran,toL_slc,fld_bran,imp_self,true_and,decide_eq_true_eq,decide_eq_false_iff_not]
   subst H_f0_mark H_f1_mark H_q_mark
   have ht1:=tot_take_le xss (i.toNat+1)
   rw [take_succ_tot xss i.toNat (by omega),tot_append] at ht1
   simp only [tot] at ht1
   have e0:f0_mark (I (xss.getD i.toNat [])) k=a1+tot (xss.take (i.toNat+1)):=by
    rw [f0_mark,I_length,hk,take_succ_tot xss i.toNat (by omega),tot_append]
    simp only [tot]
    omega
   have e1:f1_mark (I (xss.getD i.toNat [])) k=I (marks (xss.getD i.toNat []).length (a1+tot (xss.take i.toNat))):=by rw [f1_mark,I_length,hk]
   refine ⟨fun h=>⟨i0,by omega,by omega,by omega,by omega,⟨⟨_,rfl⟩,by omega,by rw [I_length];omega⟩,?_⟩,fun h=>absurd hb h⟩
   rw [wrap_id (n:=i+1) (by omega) (by omega),e0,e1]
   refine hag (_,i+1,_) ⟨by simp only;omega,by simp only;omega,by simp only [toNat_succ i0],?_⟩ (by simp only;omega)
   simp only [toNat_succ i0]
   rw [hys,BB_set,marks_step xss a1 i.toNat (by omega)]
  ·simp only [stdEqs hL,hyl,decide_eq_true_eq,decide_eq_false_iff_not]
   refine ⟨fun h=>absurd h hb,fun _=> ?_⟩
   rw [hr,hy,hk,hys,f0_markBS,f1_markBS,hes,unBB_BB,List.take_of_length_le (by omega),List.drop_eq_nil_of_le (by omega),List.append_nil]
   exact ⟨rfl,rfl⟩
 ·cases h
def c_heldBS (f0:List V→Int→Int) (q:List V→Int→Prop):Contract:=fun
 |[.slc false 35 (.agg [.slc false 2 (.int .i64 0) []]) a0,.int .i64 a1]=>some ([q a0 a1],.int .i64 (f0 a0 a1))
 |_=>none
def f0_heldBS (es:List V) (k:Int):Int:=if unBB es=marksGo k (unBB es) then k+tot (unBB es) else-1
def q_markBF (es:List V) (k:Int):Prop:=q_markBS false es k
set_option maxHeartbeats 1000000 in
set_option maxRecDepth 100000 in
theorem s_laws_heldBranchS:Sat Try.prog 24 (c_heldBS f0_heldBS q_markBF):=by
 intro args ps r h hp
 unfold c_heldBS at h
 split at h
 ·rename_i a0 a1
  simp only [Option.some.injEq,Prod.mk.injEq] at h
  obtain ⟨rfl,rfl⟩:=h
  obtain ⟨⟨xss,hes⟩,hk0,hk1⟩:q_markBF a0 a1:=(alls_cons.1 hp).1
  rw [hes,unBB_BB] at hk1
  have hel:a0.length=xss.length:=by rw [hes,BB_length]
  have hf0:f0_heldBS a0 a1=if xss=marksGo a1 xss then a1+tot xss else-1:=by rw [f0_heldBS,hes,unBB_BB]
  generalize H_f0_held:f0_held=F_f0_held
  generalize H_q_mark:q_mark=F_q_mark
  refine fnOk_ofI (T:=tab) (B:=[(40,c_heldInt64S F_f0_held F_q_mark)]) (Bi:=[]) [0,1,4,5] Try.func24 rfl rfl (by kernel_rfl) (Nat.le_of_ble_eq_true rfl) mixed tabOk (by subst H_f0_held H_q_mark;exact (bookCons s_laws_heldInt64S bookNil)) (by subst H_f0_held H_q_mark;exact bookINil) (by kernel_rfl) ?_
  intro L lp rr hL hr hf hlp
  have hlen:=hf.1.1
  conv=>cbv
  refine hlp (Int×Int) _ _ _ [0,1,5] (fun x=>[(0,none,.val (.slc false 35 (.agg [.slc false 2 (.int .i64 0) []]) a0)),(1,none,.val (.int .i64 x.1)),(5,none,.val (.int .i64 x.2))])
   (fun x=>0≤x.2∧x.2≤xss.length∧x.1=a1+tot (xss.take x.2.toNat)∧xss.take x.2.toNat=marksGo a1 (xss.take x.2.toNat)) (fun x=>(xss.length-x.2).toNat) (a1,0) (by subst hL;rfl) ⟨by simp,by simp,by simp [tot],by simp [marksGo]⟩ ?_
  rintro ⟨k,i⟩ ⟨i0,i1,hk,hyt⟩ hfx ag hag
  conv=>cbv
  simp only at i0 i1 hk hyt
  by_cases hb:i<xss.length
  ·have hg:a0.getD i.toNat (.agg [.slc false 2 (.int .i64 0) []])= .agg [.slc false 2 (.int .i64 0) (I (xss.getD i.toNat []))]:=by
    rw [hes,BB_getD]
   simp only [stdEqs hL,hel,hg,ok_bran,ok_ints,toL_bran,toL_slc,fld_bran,I_frzs,imp_self,true_and,decide_eq_true_eq,decide_eq_false_iff_not]
   subst H_f0_held H_q_mark
   have ht1:=tot_take_le xss (i.toNat+1)
   rw [take_succ_tot xss i.toNat (by omega),tot_append] at ht1
   simp only [tot] at ht1
   have hsp:=marksGo_split (k:=a1) (show i.toNat<xss.length by omega) hyt
   have e0:f0_held (I (xss.getD i.toNat [])) k=if xss.getD i.toNat []=marks (xss.getD i.toNat []).length (a1+tot (xss.take i.toNat)) then a1+tot (xss.take (i.toNat+1)) else-1:=by
    rw [f0_held,unI_I,I_length,hk,take_succ_tot xss i.toNat (by omega),tot_append]
    simp only [tot]
    congr 1
    omega
   refine ⟨fun h=>⟨i0,by omega,⟨⟨_,rfl⟩,by omega,by rw [I_length];omega⟩,fun h4=> ?_,fun h4=> ?_⟩,fun h=>absurd hb h⟩
   ·rw [e0] at h4
    split at h4
    ·omega
    ·rename_i hne
     rw [hr,hf0,if_neg (fun hx=>hne (hsp.1 hx).1)]
   ·rw [e0] at h4
    split at h4
    ·rename_i heq
     rw [wrap_id (n:=i+1) (by omega) (by omega),e0,if_pos heq]
     refine hag (_,i+1) ⟨by simp only;omega,by simp only;omega,by simp only [toNat_succ i0],?_⟩ (by simp only;omega)
     simp only [toNat_succ i0]
     rw [take_succ_tot xss i.toNat (by omega),marksGo_append,←hyt,marksGo,marksGo,←heq]
    ·omega
  ·simp only [stdEqs hL,hel,decide_eq_true_eq,decide_eq_false_iff_not]
   refine ⟨fun h=>absurd h hb,fun _=> ?_⟩
   rw [List.take_of_length_le (by omega)] at hyt hk
   rw [hr,hf0,if_pos hyt,hk]
 ·cases h
def c_eqBS (f0:List V→List V→Bool) (q:List V→List V→Prop):Contract:=fun
 |[.slc false 35 (.agg [.slc false 2 (.int .i64 0) []]) a0,.slc false 35 (.agg [.slc false 2 (.int .i64 0) []]) a1]=>some ([q a0 a1],.bool (f0 a0 a1))
 |_=>none
def f0_eqBS (a b:List V):Bool:=decide (unBB a=unBB b)
def q_eqBS (a b:List V):Prop:=IsBB false a∧IsBB false b
set_option maxHeartbeats 1000000 in
set_option maxRecDepth 100000 in
theorem s_laws_eqBranchS:Sat Try.prog 20 (c_eqBS f0_eqBS q_eqBS):=by
 intro args ps r h hp
 unfold c_eqBS at h
 split at h
 ·rename_i a0 a1
  simp only [Option.some.injEq,Prod.mk.injEq] at h
  obtain ⟨rfl,rfl⟩:=h
  obtain ⟨⟨xs,hxs⟩,ys,hys⟩:q_eqBS a0 a1:=(alls_cons.1 hp).1
  have hxl:a0.length=xs.length:=by rw [hxs,BB_length]
  have hyl:a1.length=ys.length:=by rw [hys,BB_length]
  have hf0:f0_eqBS a0 a1=decide (xs=ys):=by rw [f0_eqBS,hxs,hys,unBB_BB,unBB_BB]
  generalize H_f0_eqI:f0_eqI=F_f0_eqI
  generalize H_q_eqI:q_eqI=F_q_eqI
  refine fnOk_ofI (T:=tab) (B:=[(37,c_bb_bool F_f0_eqI F_q_eqI)]) (Bi:=[]) [0,1,4,5] Try.func20 rfl rfl (by kernel_rfl) (Nat.le_of_ble_eq_true rfl) mixed tabOk (by subst H_f0_eqI H_q_eqI;exact (bookCons s_laws_eqBranch bookNil)) (by subst H_f0_eqI H_q_eqI;exact bookINil) (by kernel_rfl) ?_
  intro L lp rr hL hr hf hlp
  have hlen:=hf.1.1
  have hrr:rr= .bool (decide (xs=ys)):=by rw [hr,hf0]
  conv=>cbv
  simp only [stdEqs hL,hxl,hyl]
  refine ⟨fun h=> ?_,fun h=> ?_⟩
  ·have:xs≠ys:=by
    rintro rfl
    simp at h
   rw [hrr,decide_eq_false this]
  have hll:xs.length=ys.length:=by
   simp only [Bool.not_eq_false',beq_iff_eq] at h
   omega
  refine hlp (Int) _ _ _ [0,1,5] (fun i=>[(0,none,.val (.slc false 35 (.agg [.slc false 2 (.int .i64 0) []]) a0)),(1,none,.val (.slc false 35 (.agg [.slc false 2 (.int .i64 0) []]) a1)),(5,none,.val (.int .i64 i))])
   (fun i=>0≤i∧i≤xs.length∧xs.take i.toNat=ys.take i.toNat) (fun i=>(xs.length-i).toNat) 0 (by subst hL;rfl) (by simp) ?_
  rintro i ⟨i0,i1,i2⟩ hfx ag hag
  conv=>cbv
  by_cases hb:i<xs.length
  ·have hg:a0.getD i.toNat (.agg [.slc false 2 (.int .i64 0) []])= .agg [.slc false 2 (.int .i64 0) (I (xs.getD i.toNat []))]:=by rw [hxs,BB_getD]
   have hg':a1.getD i.toNat (.agg [.slc false 2 (.int .i64 0) []])= .agg [.slc false 2 (.int .i64 0) (I (ys.getD i.toNat []))]:=by rw [hys,BB_getD]
   simp only [stdEqs hL,hxl,hyl,hg,hg',ok_bran,ok_ints,toL_bran,toL_slc,fld_bran,I_frzs,imp_self,true_and,decide_eq_true_eq,decide_eq_false_iff_not]
   subst H_f0_eqI H_q_eqI
   have e1:i.toNat<xs.length:=by omega
   have e2:i.toNat<ys.length:=by omega
   refine ⟨fun h=>⟨i0,by omega,i0,by omega,⟨⟨_,rfl⟩,⟨_,rfl⟩⟩,fun h4=> ?_,fun h4=> ?_⟩,fun h=>absurd hb h⟩
   ·simp only [f0_eqI,unI_I,Bool.not_eq_true',decide_eq_false_iff_not] at h4
    rw [hrr,decide_eq_false]
    rintro rfl
    exact h4 rfl
   ·simp only [f0_eqI,unI_I,Bool.not_eq_false',decide_eq_true_eq] at h4
    rw [wrap_id (by omega) (by omega)]
    refine hag _ ⟨by omega,by omega,?_⟩ (by omega)
    rw [toNat_succ i0,take_succ_tot xs _ e1,take_succ_tot ys _ e2,i2,h4]
  ·simp only [stdEqs hL,hxl,hyl,decide_eq_true_eq,decide_eq_false_iff_not]
   refine ⟨fun h=>absurd h hb,fun _=> ?_⟩
   rw [List.take_of_length_le (by omega),List.take_of_length_le (by omega)] at i2
   rw [hrr,decide_eq_true i2]
 ·cases h
end Go.Ax
set_option linter.all false
namespace Go.Proofs.Ytopcmoaklelldaa
open Go.ChangeShapes Go.WideShapes Go.ChangeAt Go.RowKit Go.Ax
theorem ownK:ownKnob Try.prog.godebug=none:=by kernel_rfl
theorem laidOut:laidOutB Try.prog=true:=by kernel_rfl
def okK:TK→Bool
 | .oth=>false
 |_=>true
theorem noOth:∀t ti,tget tab t=some ti→ti.k≠.oth:=by
 have h:(tab.all fun x=>okK x.2.k)=true:=by kernel_rfl
 intro t ti ht hk
 have:=List.all_eq_true.1 h _ (tget_mem ht)
 rw [hk] at this
 cases this
end Go.Proofs.Ytopcmoaklelldaa
set_option linter.all false
namespace Go.Ax
open Go.Proofs Go.Proofs.Ytopcmoaklelldaa
theorem and2 {a b:Bool} (ha:a=true) (hb:b=true):(a&&b)=true:=by rw [ha,hb];rfl
set_option maxRecDepth 100000 in
theorem pfEnter: Try.prog.mayEnter=true:=by kernel_rfl
set_option maxRecDepth 100000 in
theorem pfLift:(({program:= "",sum:= "",func:= "",spec:= "" }:OpenClaim).lifted== Try.prog.liftsFinal)=true:=by kernel_rfl
set_option maxRecDepth 100000 in
theorem pfMake:(Try.prog.make==some ({program:= "",sum:= "",func:= "",spec:= "" }:OpenClaim).make)=true:=by kernel_rfl
end Go.Ax
set_option linter.all false
namespace Go.Proofs.Ytopcmoaklelldaa
open Go.ChangeShapes Go.WideShapes Go.ChangeAt Go.RowKit Go.Ax
theorem wt_str {x:V} (h:Wt tab 9 x):∃s,x= .str s:=by
 cases h with
 |int _ ti k n h hk hn=>cases h;cases hk
 |bool _ ti b h hk=>cases h;cases hk
 |str _ ti b h hk=>exact ⟨b,rfl⟩
 |slc _ ti e es h hk=>cases h;cases hk
 |agg _ ti e es h hk=>cases h;cases hk
end Go.Proofs.Ytopcmoaklelldaa
