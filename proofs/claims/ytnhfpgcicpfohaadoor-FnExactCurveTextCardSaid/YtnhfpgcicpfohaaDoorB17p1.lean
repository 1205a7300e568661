import Derived.Test.YtnhfpgcicpfohaaDoorB10p1
import Derived.Test.YtnhfpgcicpfohaaDoorB16p1
import Derived.Test.YtnhfpgcicpfohaaDoorB04p1
/-
 CanShare,IntersectionWith,PossibleIntersections:both sides,the laws. No conditions but those of the contracts.
-/
set_option linter.all false
namespace Go.Ax
open Go.Proofs
end Go.Ax
set_option linter.all false
namespace Go.Ax
open Go.Proofs
set_option maxHeartbeats 1000000 in
set_option maxRecDepth 100000 in
theorem s_laws_FnExactCurveText:Sat Tryd.prog 3 (c_law_D yesC q_law_D):=by
 intro args ps r h hp
 unfold c_law_D at h
 split at h
 ·rename_i a0 a1
  simp only [Option.some.injEq,Prod.mk.injEq] at h
  obtain ⟨rfl,rfl⟩:=h
  have hq:q_C' a0 a1:=(alls_cons.1 hp).1
  have g0:=frzs_BB hq.1
  have g1:=frzs_II hq.2
  generalize H_f_szC:f_szC=F_f_szC
  generalize H_q_szC:q_szC=F_q_szC
  generalize H_f_cpC:f_cpC=F_f_cpC
  generalize H_q_cpC:q_cpC=F_q_cpC
  generalize H_f_ct:f_ct=F_f_ct
  generalize H_q_C:q_C=F_q_C
  generalize H_f0_eqC:f0_eqC=F_f0_eqC
  generalize H_q_eqC:q_eqC=F_q_eqC
  refine fnOk_ofI (T:=tab) (B:=[(4,c_Di_i F_f_szC F_q_szC),(6,c_D_C F_f_cpC F_q_cpC),(5,c_C_si F_f_ct F_q_C),(7,c_C_si F_f_ct F_q_C),(8,c_cc_bool F_f0_eqC F_q_eqC)]) (Bi:=[]) [0,1,2,3,4,5,6,7,8] Tryd.func3 rfl rfl (by kernel_rfl) (Nat.le_of_ble_eq_true rfl) mixed tabOk (by subst H_f_szC H_q_szC H_f_cpC H_q_cpC H_f_ct H_q_C H_f0_eqC H_q_eqC;exact (bookCons s_laws_szCurve (bookCons s_laws_toCurve (bookCons s_spec_CurveText (bookCons s_impl_CurveText (bookCons s_laws_eqCurve bookNil)))))) (by subst H_f_szC H_q_szC H_f_cpC H_q_cpC H_f_ct H_q_C H_f0_eqC H_q_eqC;exact bookINil) (by kernel_rfl) ?_
  intro L lp rr hL hr hf hlp
  have hlen:=hf.1
  conv=>cbv
  simp only [stdEqs hL,g0,g1]
  subst H_f_szC H_q_szC H_f_cpC H_q_cpC H_f_ct H_q_C H_f0_eqC H_q_eqC
  refine ⟨hq,fun h=>by rw [hr];rfl,fun h=> ?_⟩
  obtain ⟨hc,ht1,ht2,_,_⟩:=szC_ok (by omega) (by omega) hq hlen.1.1 hlen.1.2 hlen.2.1.1 hlen.2.1.2 h
  obtain ⟨⟨bs,hbs⟩,⟨ms,hms⟩⟩:=hq
  have e0:f_cpC a0 a1=(BB true bs,II true ms):=by rw [f_cpC,hbs,hms,unBB_BB,unII_II]
  rw [hbs,unBB_BB] at ht1
  rw [hms,unII_II] at ht2
  have kg:=curve_keys bs ms (by omega)
  have hqc:q_C (BB false bs) (II false ms):=by have:=q_C_of hc;rwa [hbs,hms] at this
  have hqx:=hqc
  simp only [e0,hc,kg,hqc,hqx,hr,yesC,beq_self_eq_true]
  simp
 ·cases h
end Go.Ax
