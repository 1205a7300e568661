import Derived.Test.YtopcmoaklelldaaB20p1
import Derived.Test.YtopcmoaklelldaaB21p1
import Derived.Test.YtopcmoaklelldaaB07p1
/-
 The law function of ParseCurve. No conditions but those of the contracts.
-/
set_option linter.all false
namespace Go.Ax
open Go.Proofs
theorem tot_le (m:Nat):∀l:List (List Int),(∀x∈l,x.length≤m)→tot l≤l.length*m
 |[],_=>by simp [tot]
 |x::l,h=>by
  have h1:=tot_le m l (fun y hy=>h y (by simp [hy]))
  have h2:=h x (by simp)
  rw [tot,List.length_cons,Nat.add_mul,Nat.one_mul]
  omega
theorem pc_val (s:ByteArray):∃(cs ns:List (List Int)) (code:Int),f_pco s=(BB true cs,II true ns,code)∧f_pcv s=(BB false cs,II false ns,code)∧tot cs+tot ns≤4611686018427387904:=by
 by_cases h:goodC s.data.toList
 ·refine ⟨_,_,0,f_pco_yes h,f_pcv_yes h,?_⟩
  have h6:=h.1
  have h1:=tot_le 64 (bsC (wsC s.data.toList)) fun xs hx=>(br_of (bsC_br h.2.1 xs hx)).len
  have h2:=tot_le 6 (tabC (wsC s.data.toList).length (nsC s.data.toList)) fun xs hx=>by rw [tabC] at hx;rw [T2_rows _ xs hx];exact h6
  rw [bsC_len] at h1
  rw [tabC,T2_len,←tabC] at h2
  omega
 ·exact ⟨[],[],6,f_pco_no h,f_pcv_no h,by simp [tot]⟩
def yesS (_:ByteArray):Bool:=true
def q_anyS (_:ByteArray):Prop:=True
def c_s_b (f:ByteArray→Bool) (q:ByteArray→Prop):Contract:=fun
 |[.str a0]=>some ([q a0],.bool (f a0))
 |_=>none
set_option maxHeartbeats 1000000 in
set_option maxRecDepth 100000 in
theorem s_laws_FnExactParseCurve:Sat Try.prog 3 (c_s_b yesS q_anyS):=by
 intro args ps r h hp
 unfold c_s_b at h
 split at h
 ·rename_i s
  simp only [Option.some.injEq,Prod.mk.injEq] at h
  obtain ⟨rfl,rfl⟩:=h
  obtain ⟨cs,ns,code,ez,ez2,hz1⟩:=pc_val s
  have ck:=curve_keys cs ns hz1
  have hn1:∀n:Nat,decide ((1:Int)+n<0)=false:=fun n=>by simp;omega
  have hn2:∀n m:Nat,decide ((1:Int)+n+m<0)=false:=fun n m=>by simp;omega
  generalize H_f_pcv:f_pcv=F_f_pcv
  generalize H_q_dig:q_dig=F_q_dig
  generalize H_f_pco:f_pco=F_f_pco
  generalize H_f0_eqC:f0_eqC=F_f0_eqC
  generalize H_q_eqC:q_eqC=F_q_eqC
  generalize H_f0_heldC:f0_heldC=F_f0_heldC
  generalize H_q_heldC:q_heldC=F_q_heldC
  generalize H_f0_markC:f0_markC=F_f0_markC
  generalize H_f1_markC:f1_markC=F_f1_markC
  generalize H_f2_markC:f2_markC=F_f2_markC
  generalize H_q_markC:q_markC=F_q_markC
  refine fnOk_ofI (T:=tab) (B:=[(4,c_s_Qi F_f_pcv F_q_dig),(5,c_s_Ci F_f_pco F_q_dig),(6,c_cc_bool F_f0_eqC F_q_eqC),(8,c_heldC F_f0_heldC F_q_heldC)]) (Bi:=[(7,0,false,ic_markC F_f0_markC F_f1_markC F_f2_markC F_q_markC)]) [0,2,3,4,5,6,7,8,9,10] Try.func3 rfl rfl (by kernel_rfl) (Nat.le_of_ble_eq_true rfl) mixed tabOk (by subst H_f_pcv H_q_dig H_f_pco H_f0_eqC H_q_eqC H_f0_heldC H_q_heldC H_f0_markC H_f1_markC H_f2_markC H_q_markC;exact (bookCons s_spec_ParseCurve (bookCons s_impl_ParseCurve (bookCons s_laws_eqCurve (bookCons s_laws_heldCurve bookNil))))) (by subst H_f_pcv H_q_dig H_f_pco H_f0_eqC H_q_eqC H_f0_heldC H_q_heldC H_f0_markC H_f1_markC H_f2_markC H_q_markC;exact (bookICons s_laws_markCurve bookINil)) (by kernel_rfl) ?_
  intro L lp rr hL hr hf hlp
  conv=>cbv
  simp only [stdEqs hL]
  subst H_f_pcv H_f_pco H_q_dig H_f0_eqC H_q_eqC H_f0_heldC H_q_heldC H_f0_markC H_f1_markC H_f2_markC H_q_markC
  simp only [ez,ez2,ck,BB_frzs,II_frzs,hn1,hn2,hr,yesS]
  refine ⟨fun _=>trivial,fun h=> ?_⟩
  have hq:q_dig s:=by
   have h1:=of_decide_eq_false h
   show s.size≤2000000
   omega
  simp [hq]
 ·cases h
end Go.Ax
