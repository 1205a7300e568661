import Derived.Test.YtnhfpgcicpfohaaGreatDoorB03p1
import Derived.Test.YtnhfpgcicpfohaaGreatDoorB05p1
import Derived.Test.YtnhfpgcicpfohaaGreatDoorB04p1
import Derived.Test.YtnhfpgcicpfohaaGreatDoorB01p1
set_option linter.all false
set_option maxRecDepth 100000
set_option maxHeartbeats 4000000
open Array renaming length_toList→qa
open Bool renaming and_eq_true→zg
open Int renaming le_refl→yN,mul_le_mul_of_nonneg_right→QR,pow_succ→zcF,tdiv_eq_ediv_of_nonneg→jV,tmod_eq_emod_of_nonneg→kL,toNat_natCast→zV
open List renaming all_cons→jU,all_eq_true→zZ,append_assoc→zS,cons_append→zL,dropLast_concat_getLast→ZO,drop_eq_getElem_cons→Zg,drop_eq_nil_of_le→jF,drop_succ_cons→uC,drop_zero→qY,eq_nil_of_length_eq_zero→yJ,getD_cons_zero→yL,getD_eq_getElem?_getD→zd,getElem?_eq_getElem→ze,getElem?_map→zJ,getElem_mem→ye,getElem_take→YC,length_append→zk,length_cons→zi,length_drop→zP,length_map→zy,length_nil→zq,length_pos_iff→qk,length_singleton→yr,length_take→zD,map_cons→yC,mem_cons→zA,mem_cons_of_mem→zp,mem_cons_self→yi,mem_iff_getElem→ym,mem_map_of_mem→ZL,mem_singleton→zX,nil_append→qf,takeWhile_cons→zcM,take_append_drop→jq,take_of_length_le→zu,take_succ_cons→jO,take_succ_eq_append_getElem→zC
open Nat renaming add_sub_cancel→yQ,le_of_ble_eq_true→zh,le_refl→zn,pow_le_pow_right→Zv,zero_le→kQ
open Option.some renaming injEq→za
open Prod.mk renaming injEq→zb
/-
 Draws:curves. No conditions but those of the contracts.
-/
namespace Go.Ax
open Go.Proofs
def zub(A B:List V):Prop:=∃bs ms:List (List Int),A=BB false bs∧B=II true ms∧1≤bs.length∧bs.length≤6∧ms.length=bs.length∧(∀i,i<bs.length→(bs.getD i []).length≤3000)∧∀i,i<bs.length→(ms.getD i []).length=bs.length
theorem zs4{a b c:List V}(h:(ZJ a b c).2.2=0):zub (ZJ a b c).1 (ZJ a b c).2.1:=by
 simp only[ZJ,zbl]at h ⊢
 cases hh:ku a b c with
 |false=>rw[hh]at h;cases h
 |true=>
  rw[hh]at h
  cases h2:za6 a b c with
  |false=>rw[h2]at h;cases h
  |true=>
   rw[h2]at h
   have hc:ClP (yV a) (yV b) (yV c):=zc6.1 hh
   have hal:a.length=(yV a).length:=by rw[yV,zy]
   have hfo:=zo5 hc
   rw[hal]at h ⊢
   obtain⟨ps,hps⟩:∃ps,ps=zbv (KB (YO (yV a) (yV b) (yV c)) (yV a).length):=⟨_,rfl⟩
   simp only[cond_true,←hps,zmJ]at h ⊢
   by_cases hn:ps.length=0∨6<ps.length
   ·rw[if_pos hn]at h;cases h
   ·rw[if_neg hn]at h
    rw[if_neg hn]
    cases ha:ps.all (okX (yV a) (yV b))with
    |false=>rw[ha]at h;cases h
    |true=>
     rw[zZ]at ha
     refine⟨ps.map (zfv (yV a) (yV b)),T2 ps.length (com (yV a) ps),by simp only[cond_true];rw[jh],rfl,by rw[zy];omega,by rw[zy];omega,by rw[zy,T2,yA],fun i hi=>?_,fun i hi=>?_⟩
     ·rw[zy]at hi
      rw[zd,zJ,ze hi]
      have hm:=ye hi
      have:=zkN hfo _ (by rw[←hps];exact hm)
      exact zAc hc this.1 this.2 (ha _ hm)
     ·rw[zy]at hi ⊢
      rw[T2,uA _ _ _ _ hi,yA]
def dwL(es:List V)(n:Int):Nat→List Int×Int×Int→List Int×Int×Int
 |0,x=>x
 |k+1,x=>dwL es n k (x.1.set (jl es x.2 n).toNat (W (x.1.getD (jl es x.2 n).toNat 0+1)),yB es x.2 n)
abbrev CvR:Type:=List V×List V×Int×Int
noncomputable def dwU(es:List V)(P S:List Int)(σ:Int×Int):Option (List V×List V)×Int×Int:=
 let l:=dwL es P.length (1+jl es σ 4).toNat (List.replicate P.length 0,yB es σ 4)
 let d:=Ze (I P) (I S) (I (List.replicate P.length 0)) (I l.1)
 if d.2.2.2=0 then
  if 0<jl es l.2 5∧(ZJ d.1 d.2.1 d.2.2.1).2.2=0 then(some ((ZJ d.1 d.2.1 d.2.2.1).1,(ZJ d.1 d.2.1 d.2.2.1).2.1),yB es l.2 5)else(none,yB es l.2 5)
 else(none,l.2)
noncomputable def dwT(es:List V)(σ:Int×Int):Option (List V×List V)×Int×Int:=
 let p:=ptF es (KO es σ [3,5,8]) (YB es σ [3,5,8])
 dwU es p.1 p.2.1 p.2.2
theorem zBE{a b c:List V}(h:q_K a b c):q_K (KJ a b c).1 (KJ a b c).2.1 (KJ a b c).2.2.1:=by
 rw[KJ]
 cases ku a b c with
 |false=>exact⟨⟨[],rfl⟩,⟨[],rfl⟩,⟨[],rfl⟩⟩
 |true=>exact h
theorem zBF{a b c d:List V}(h:q_K a b c):q_K (Ze a b c d).1 (Ze a b c d).2.1 (Ze a b c d).2.2.1:=by
 rw[Ze]
 cases ku a b c with
 |false=>exact⟨⟨[],rfl⟩,⟨[],rfl⟩,⟨[],rfl⟩⟩
 |true=>
  cases decide (d.length=a.length)&&ziN (yV d)with
  |false=>exact⟨⟨[],rfl⟩,⟨[],rfl⟩,⟨[],rfl⟩⟩
  |true=>exact zBE ⟨h.1,h.2.1,⟨_,rfl⟩⟩
def dwB(l:List Int):List Int:=if qK l=true then l else[2,3]
def dwE(es:List V)(σ:Int×Int):CvR:=
 let s:=smF es σ.1 σ.2 8 40
 let b:=dwB s.1
 let τ:=yB es s.2 2
 if jl es s.2 2=0 then(BB false [b],II true [[0]],τ)
 else(BB false [b,b],II true [[0,W ((sq1 b).length+jl es τ 3)],[W ((sq1 b).length+jl es τ 3),0]],yB es τ 3)
noncomputable def dwN(es:List V):Nat→Int×Int→CvR
 |0,σ=>dwE es σ
 |k+1,σ=>match (dwT es σ).1 with
  |some r=>(r.1,r.2,(dwT es σ).2)
  |none=>dwN es k (dwT es σ).2
noncomputable def Yl(es:List V)(a h:Int):CvR:=dwN es 4 (a,h)
theorem zyz{es:List V}{n:Int}(h1:1≤n):∀(k:Nat) {x:List Int×Int×Int},yg es x.2.1 x.2.2→yg es (dwL es n k x).2.1 (dwL es n k x).2.2∧(dwL es n k x).1.length=x.1.length
 |0,_,h=>⟨h,rfl⟩
 |k+1,x,h=>by
  have:=zyz h1 k (x:=(x.1.set (jl es x.2 n).toNat (W (x.1.getD (jl es x.2 n).toNat 0+1)),yB es x.2 n)) (jd (σ:=x.2) h)
  simpa [dwL]using this
theorem zBK{es:List V}{P S:List Int}{σ:Int×Int}(h:yg es σ.1 σ.2)(hn:1≤P.length):yg es (dwU es P S σ).2.1 (dwU es P S σ).2.2:=by
 have h1:=jd (σ:=σ) (n:=4) h
 have h2:=(zyz (n:=P.length) (by omega) (1+jl es σ 4).toNat (x:=(List.replicate P.length 0,yB es σ 4)) h1).1
 have h3:=jd (n:=5) h2
 unfold dwU
 simp only
 split
 ·split<;>exact h3
 ·exact h2
theorem zCT{es:List V}{P S:List Int}{σ:Int×Int}{r:List V×List V}(h:(dwU es P S σ).1=some r):zub r.1 r.2:=by
 unfold dwU at h
 simp only at h
 split at h
 ·split at h
  ·rename_i h2
   simp only[za]at h
   subst h
   exact zs4 h2.2
  ·cases h
 ·cases h
theorem zwM{es:List V}{σ:Int×Int}(h:yg es σ.1 σ.2):1≤YB es σ [3,5,8]∧YB es σ [3,5,8]≤24:=by
 have:=zfb (σ:=σ) (l:=[3,5,8]) h (by simp)
 simp at this
 omega
theorem zvv{es:List V}{σ:Int×Int}(h:yg es σ.1 σ.2):yg es (dwT es σ).2.1 (dwT es σ).2.2:=by
 have h1:=zxW (zbN (σ:=σ) (l:=[3,5,8]) h) (zwM h).1 (zwM h).2
 exact zBK h1.src h1.n1
theorem zn5(l:List Int):Br (dwB l):=by
 unfold dwB
 split
 ·rename_i h;exact Kl h
 ·exact Kl (by decide+kernel)
theorem zCU{es:List V}{σ:Int×Int}(h:yg es σ.1 σ.2):zub (dwE es σ).1 (dwE es σ).2.1∧yg es (dwE es σ).2.2.1 (dwE es σ).2.2.2:=by
 have h1:=(zhe (most:=8) (term:=40) ⟨h,by omega,by omega⟩).1
 have h2:=jd (n:=2) h1
 have h3:=jd (n:=3) h2
 have hb:=(zn5 (smF es σ.1 σ.2 8 40).1).len
 unfold dwE
 simp only
 split
 ·refine⟨⟨_,_,rfl,rfl,by simp,by simp,rfl,fun i hi=>?_,fun i hi=>?_⟩,h2⟩
  ·simp only[zi,zq]at hi
   obtain rfl:i=0:=by omega
   show(dwB _).length≤3000
   omega
  ·simp only[zi,zq]at hi
   obtain rfl:i=0:=by omega
   rfl
 ·refine⟨⟨_,_,rfl,rfl,by simp,by simp,rfl,fun i hi=>?_,fun i hi=>?_⟩,h3⟩
  ·simp only[zi,zq]at hi
   rcases (show i=0∨i=1 by omega)with rfl|rfl
   ·show(dwB _).length≤3000
    omega
   ·show(dwB _).length≤3000
    omega
  ·simp only[zi,zq]at hi
   rcases (show i=0∨i=1 by omega)with rfl|rfl<;>rfl
theorem zyy{es:List V}:∀(k:Nat) {σ:Int×Int},yg es σ.1 σ.2→zub (dwN es k σ).1 (dwN es k σ).2.1∧yg es (dwN es k σ).2.2.1 (dwN es k σ).2.2.2
 |0,σ,h=>zCU h
 |k+1,σ,h=>by
  have h1:=zvv h
  rw[dwN]
  split
  ·rename_i r hr
   exact⟨zCT hr,h1⟩
  ·exact zyy k h1
theorem ziL{es:List V}{a h:Int}(hq:yg es a h):zub (Yl es a h).1 (Yl es a h).2.1∧yg es (Yl es a h).2.2.1 (Yl es a h).2.2.2:=zyy 4 (σ:=(a,h)) hq
def znS(f:List V→Int→Int→List V×List V×Int×Int)(q:List V→Int→Int→Prop):kF:=fun
 |[.box 61 (.agg [.slc false 5 (.int .u8 0) a0,.int .i64 a1,.int .u64 a2])]=>some ([q a0 a1 a2],.agg [.slc true 46 (.agg [.slc false 2 (.int .i64 0) []]) (f a0 a1 a2).1,.slc true 44 (.slc true 2 (.int .i64 0) []) (f a0 a1 a2).2.1],.box 61 (.agg [.slc false 5 (.int .u8 0) a0,.int .i64 (f a0 a1 a2).2.2.1,.int .u64 (f a0 a1 a2).2.2.2]))
 |_=>none
theorem zhg:zfF Tryz.prog 25 1000 (znS Yl yg):=by
 intro args ps r y h hp
 unfold znS at h
 split at h
 ·rename_i a0 a1 a2
  simp only[za,zb]at h
  obtain⟨rfl,rfl,rfl⟩:=h
  have hq:yg a0 a1 a2:=(zo.1 hp).1
  obtain⟨E,hE⟩:∃E,E=Yl a0 a1 a2:=⟨_,rfl⟩
  have hE0:dwN a0 4 (a1,a2)=E:=hE.symm
  generalize yU:jp=jL
  generalize yT:jo=jK
  generalize yS:jD=jJ
  generalize qV:zgV=Zc
  generalize ki:QL=Yt
  generalize kh:Js=Ys
  generalize kg:Jr=Yr
  generalize ub:zgU=QS
  generalize zpJ:zrn=zvX
  generalize zpu:zwz=zvR
  generalize zpX:Ze=zv5
  generalize zpA:zwI=zB8
  generalize zpZ:ZJ=zv6
  generalize Yo:q_K=zdI
  generalize zfQ:zj0=zt8
  generalize zfN:zmn=zt2
  generalize qG:kP=jv
  generalize qj:uU=km
  generalize zp0:zk5=zCj
  generalize ZA:JM=zcH
  generalize YW:same=zd3
  refine zBC (T:=tab) (B:=[(50,zpj zv5 zB8),(51,ztC zv6 zdI),(42,YP jv km),(53,zxn zCj zcH),(54,zxj zd3 km)]) (Bi:=[(26,0,false,zcp jL jK jJ Zc),(31,0,false,zgp Yt Ys Yr QS),(49,1000,false,zsK zvX zvR),(52,1000,false,zrk zt8 zt2)]) 0 [1000011004,1000011005,1000022012,2000004820,2000022089,2000022090,2000022092,2000022094,2000022095,0,2,3,4,5,6,7,8,9,10,11,12,13] Tryz.func25 rfl rfl (by kernel_rfl) (zh rfl) mixed yd (by subst yU yT yS qV ki kh kg ub zpJ zpu zpX zpA zpZ Yo zfQ zfN qG qj zp0 ZA YW;exact(zt ze4 (zt zgS (zt KM (zt znj (zt zqX zH)))))) (by subst yU yT yS qV ki kh kg ub zpJ zpu zpX zpA zpZ Yo zfQ zfN qG qj zp0 ZA YW;exact(qX uj (qX YM (qX zme (qX zf7 zE))))) (by kernel_rfl) rfl rfl zb9 rfl ?_
  intro L lp rr yy hL hr hy hf hlp
  have Qn:∀a h n,yg a0 a h→Zc a0 a h n:=fun a h n hs=>by rw[←qV];exact hs
  conv=>cbv
  refine hlp (Int×Int×Int) _ _ _ [0,2,3] (fun x=>[(0,none,.val (.box 61 (.agg [.slc false 5 (.int .u8 0) a0,.int .i64 x.1,.int .u64 x.2.1]))),(2,none,.val (.box 27 (.agg [.slc true 46 (.agg [.slc true 2 (.int .i64 0) []]) [],.slc true 44 (.slc true 2 (.int .i64 0) []) []]))),(3,none,.val (.int .i64 x.2.2))])
   (fun x=>0≤x.2.2∧x.2.2≤4∧yg a0 x.1 x.2.1∧dwN a0 (4-x.2.2).toNat (x.1,x.2.1)=E) (fun x=>(4-x.2.2).toNat) ((a1,a2,0)) (by subst hL;rfl) ?_ ?_
  ·exact⟨by simp,by simp,hq,hE0⟩
  rintro⟨a,h,k⟩ ⟨k0,k1,hs,hN⟩ hfx ag hag
  simp only at k0 k1 hs hN
  obtain⟨m,hm⟩:∃m,m=QL a0 a h (I [3,5,8]):=⟨_,rfl⟩
  obtain⟨A1,hA1⟩:∃A1,A1=Js a0 a h (I [3,5,8]):=⟨_,rfl⟩
  obtain⟨H1,hH1⟩:∃H1,H1=Jr a0 a h (I [3,5,8]):=⟨_,rfl⟩
  have hm24:1≤m∧m≤24:=by rw[hm];exact zwM (σ:=(a,h)) hs
  have s1:yg a0 A1 H1:=by rw[hA1,hH1];exact kX hs
  obtain⟨⟨P,S,A2,H2⟩,hpt⟩:∃z:PtS,z=ptF a0 (A1,H1) m:=⟨_,rfl⟩
  have hok:=zxW (σ:=(A1,H1)) s1 hm24.1 hm24.2
  rw[←hpt]at hok
  have n1:=hok.n1
  have n24:=hok.n
  have nsl:=hok.sl
  have s2:yg a0 A2 H2:=hok.src
  simp only at n1 n24 nsl
  have hT:dwT a0 (a,h)=dwU a0 P S (A2,H2):=by
   have:ptF a0 (KO a0 (a,h) [3,5,8]) (YB a0 (a,h) [3,5,8])=(P,S,A2,H2):=by rw[hpt,hA1,hH1,hm]
   rw[dwT,this]
  obtain⟨n,hn⟩:∃n:Int,n=P.length:=⟨_,rfl⟩
  obtain⟨c,hc⟩:∃c,c=1+jp a0 A2 H2 4:=⟨_,rfl⟩
  have c1:=YA (n:=4) s2 (by omega)
  obtain⟨A3,hA3⟩:∃A3,A3=jo a0 A2 H2 4:=⟨_,rfl⟩
  obtain⟨H3,hH3⟩:∃H3,H3=jD a0 A2 H2 4:=⟨_,rfl⟩
  have s3:yg a0 A3 H3:=by rw[hA3,hH3];exact kX s2
  obtain⟨EL,hEL⟩:∃EL,EL=dwL a0 n c.toNat (List.replicate P.length 0,A3,H3):=⟨_,rfl⟩
  have hU:dwU a0 P S (A2,H2)=if(Ze (I P) (I S) (I (List.replicate P.length 0)) (I EL.1)).2.2.2=0 then
   (if 0<jl a0 EL.2 5∧(ZJ (Ze (I P) (I S) (I (List.replicate P.length 0)) (I EL.1)).1 (Ze (I P) (I S) (I (List.replicate P.length 0)) (I EL.1)).2.1 (Ze (I P) (I S) (I (List.replicate P.length 0)) (I EL.1)).2.2.1).2.2=0 then
    (some ((ZJ (Ze (I P) (I S) (I (List.replicate P.length 0)) (I EL.1)).1 (Ze (I P) (I S) (I (List.replicate P.length 0)) (I EL.1)).2.1 (Ze (I P) (I S) (I (List.replicate P.length 0)) (I EL.1)).2.2.1).1,(ZJ (Ze (I P) (I S) (I (List.replicate P.length 0)) (I EL.1)).1 (Ze (I P) (I S) (I (List.replicate P.length 0)) (I EL.1)).2.1 (Ze (I P) (I S) (I (List.replicate P.length 0)) (I EL.1)).2.2.1).2.1),yB a0 EL.2 5)else(none,yB a0 EL.2 5))else(none,EL.2):=by
   rw[hEL,hA3,hH3,hc,hn];rfl
  obtain⟨vp,hvp⟩:∃vp,vp=I P:=⟨_,rfl⟩
  obtain⟨vs,hvs⟩:∃vs,vs=I S:=⟨_,rfl⟩
  obtain⟨vw,hvw⟩:∃vw,vw=I (List.replicate P.length 0):=⟨_,rfl⟩
  rw[←hvp,←hvs,←hvw]at hU
  have hvpl:vp.length=P.length:=by rw[hvp,zm]
  have fvp:V.frzs vp=vp:=by rw[hvp,zN]
  have fvs:V.frzs vs=vs:=by rw[hvs,zN]
  have fvw:V.frzs vw=vw:=by rw[hvw,zN]
  have g3:∀l,l=I [3,5,8]→Yt a0 a h l=m∧Ys a0 a h l=A1∧Yr a0 a h l=H1∧QS a0 a h l:=by
   intro l hl
   rw[hl,←ki,←kh,←kg,←ub,hm,hA1,hH1]
   exact⟨rfl,rfl,rfl,hs,⟨_,rfl⟩,by simp,by simp⟩
  obtain⟨g4,g5,g6,g7⟩:=g3 (V.frzs (V.frzs [V.int IntKind.i64 3,V.int IntKind.i64 5,V.int IntKind.i64 8])) rfl
  have g8:zvX a0 A1 H1 m=(vp,vs,vw,A2,H2):=by rw[←zpJ,zrn,←hpt,hvp,hvs,hvw]
  have g9:zvR a0 A1 H1 m:=by rw[←zpu];exact⟨s1,hm24.1,hm24.2⟩
  have g10:jL a0 A2 H2 4=c-1:=by rw[←yU];omega
  have g11:jK a0 A2 H2 4=A3:=by rw[←yT,hA3]
  have g12:jJ a0 A2 H2 4=H3:=by rw[←yS,hH3]
  conv=>cbv
  simp only[zr hL,sQ,g4,g5,g6,g7,g8,g9,g10,g11,g12,hvpl,←hn,show 1+(c-1)=c by omega,zl (n:=c) (by omega) (by omega)]
  refine⟨fun hk=>?_,fun hk=>?_⟩
  ·refine⟨by omega,yN _,by omega,Qn _ _ _ s2,?_⟩
   obtain⟨vz,hvz⟩:∃vz,vz=List.replicate n.toNat (V.int .i64 0):=⟨_,rfl⟩
   have hvz2:vz=I (List.replicate P.length 0):=by rw[hvz,zdH,hn,zV]
   rw[←hvz]
   refine hlp (List V×Int×Int×Int) _ _ _ [0,2,3,4,5,6] (fun x=>[(0,none,.val (.box 61 (.agg [.slc false 5 (.int .u8 0) a0,.int .i64 x.2.1,.int .u64 x.2.2.1]))),(2,none,.val (.box 27 (.agg [.slc true 46 (.agg [.slc true 2 (.int .i64 0) []]) [],.slc true 44 (.slc true 2 (.int .i64 0) []) []]))),(3,none,.val (.int .i64 k)),(4,none,.val (.box 77 (.agg [.slc true 2 (.int .i64 0) vp,.slc true 2 (.int .i64 0) vs,.slc true 2 (.int .i64 0) vw]))),(5,none,.val (.slc true 2 (.int .i64 0) x.1)),(6,none,.val (.int .i64 x.2.2.2))])
    (fun x=>0≤x.2.2.2∧x.2.2.2≤4∧∃l:List Int,x.1=I l∧l.length=P.length∧yg a0 x.2.1 x.2.2.1∧dwL a0 n x.2.2.2.toNat (l,x.2.1,x.2.2.1)=EL) (fun x=>x.2.2.2.toNat) ((vz,A3,H3,c)) (by subst hL;rfl) ?_ ?_
   ·exact⟨by simp only;omega,by simp only;omega,_,hvz2,List.length_replicate,s3,hEL.symm⟩
   rintro⟨vl,b,g,i⟩ ⟨i0,i4,l,hl,hll,hsl,hdl⟩ hfx2 ag2 hag2
   simp only at i0 i4 hl hll hsl hdl
   have hvll:vl.length=P.length:=by rw[hl,zm,hll]
   have fvl:V.frzs vl=vl:=by rw[hl,zN]
   obtain⟨t,ht⟩:∃t,t=jp a0 b g n:=⟨_,rfl⟩
   obtain⟨B1,hB1⟩:∃B1,B1=jo a0 b g n:=⟨_,rfl⟩
   obtain⟨G1,hG1⟩:∃G1,G1=jD a0 b g n:=⟨_,rfl⟩
   have t1:=YA (n:=n) hsl (by omega)
   have sB:yg a0 B1 G1:=by rw[hB1,hG1];exact kX hsl
   have gl:∀j,vl.getD j (.int .i64 0)=.int .i64 (l.getD j 0):=fun j=>by rw[hl,zT]
   have gset:∀j x,vl.set j (.int .i64 x)=I (l.set j x):=fun j x=>by rw[hl,Jz]
   have e0:jL a0 b g n=t:=by rw[←yU,ht]
   have e1:jK a0 b g n=B1:=by rw[←yT,hB1]
   have e2:jJ a0 b g n=G1:=by rw[←yS,hG1]
   obtain⟨⟨D1,D2,D3,code⟩,hD⟩:∃d,d=Ze vp vs vw vl:=⟨_,rfl⟩
   obtain⟨⟨cb,cm,bad⟩,hC⟩:∃d,d=ZJ D1 D2 D3:=⟨_,rfl⟩
   obtain⟨v,hv⟩:∃v,v=jp a0 b g 5:=⟨_,rfl⟩
   obtain⟨B5,hB5⟩:∃B5,B5=jo a0 b g 5:=⟨_,rfl⟩
   obtain⟨G5,hG5⟩:∃G5,G5=jD a0 b g 5:=⟨_,rfl⟩
   have e3:zv5 vp vs vw vl=(D1,D2,D3,code):=by rw[←zpX,hD]
   have e4:zv6 D1 D2 D3=(cb,cm,bad):=by rw[←zpZ,hC]
   have e5:jL a0 b g 5=v:=by rw[←yU,hv]
   have e6:jK a0 b g 5=B5:=by rw[←yT,hB5]
   have e7:jJ a0 b g 5=G5:=by rw[←yS,hG5]
   have hDK:=zBF (a:=vp) (b:=vs) (c:=vw) (d:=vl) ⟨⟨_,hvp⟩,⟨_,hvs⟩,⟨_,hvw⟩⟩
   rw[←hD]at hDK
   simp only at hDK
   obtain⟨x1,fD1⟩:∃x,D1=I x:=hDK.1
   obtain⟨x2,fD2⟩:∃x,D2=I x:=hDK.2.1
   obtain⟨x3,fD3⟩:∃x,D3=I x:=hDK.2.2
   have fD1:V.frzs D1=D1:=by rw[fD1,zN]
   have fD2:V.frzs D2=D2:=by rw[fD2,zN]
   have fD3:V.frzs D3=D3:=by rw[fD3,zN]
   clear g3 g4 g5 g6 g7 g8 g9 g10 g11 g12 hm hA1 hH1 hA3 hH3 hpt
   conv=>cbv
   simp only[zr hL,sQ,e0,e1,e2,e3,e4,e5,e6,e7,hvll,hvpl,←hn,gl,gset,fvp,fvs,fvw,fvl,fD1,fD2,fD3]
   have wk:IntKind.wrap .i64 (k+1)=k+1:=zl (by omega) (by omega)
   rw[zl (n:=i-1) (by omega) (by omega),wk]
   refine⟨fun h2=>?_,fun h2=>?_⟩
   ·refine⟨Qn _ _ _ hsl,by omega,by omega,by omega,by omega,by omega,by omega,?_⟩
    refine hag2 (_,B1,G1,i-1) ⟨by simp only;omega,by simp only;omega,_,rfl,by rw[List.length_set,hll],sB,?_⟩ (by simp only;omega)
    simp only
    rw[show i.toNat=(i-1).toNat+1 by omega,dwL]at hdl
    rw[ht,hB1,hG1]
    exact hdl
   have hEL2:EL=(l,b,g):=by rw[←hdl,show i.toNat=0 by omega];rfl
   have hU2:dwU a0 P S (A2,H2)=if code=0 then(if 0<v∧bad=0 then(some (cb,cm),B5,G5)else(none,B5,G5))else(none,b,g):=by
    subst hG5 hB5 hv
    rw[hU,hEL2]
    simp only[←hl,←hD,←hC]
   have hN2:(match (dwT a0 (a,h)).1 with
    |some r=>(r.1,r.2,(dwT a0 (a,h)).2)
    |none=>dwN a0 (4-(k+1)).toNat (dwT a0 (a,h)).2)=E:=by
    rw[show(4-k).toNat=(4-(k+1)).toNat+1 by omega]at hN
    exact hN
   rw[hT,hU2]at hN2
   have s5:yg a0 B5 G5:=by rw[hB5,hG5];exact kX hsl
   refine⟨by rw[←zpA];exact⟨⟨⟨_,hvp⟩,⟨_,hvs⟩,⟨_,hvw⟩⟩,⟨_,hl⟩⟩,fun hc0=>⟨hc0,Qn _ _ _ hsl,fun h3=>⟨by rw[←Yo];exact hDK,fun hb0=>?_,fun hb0=>?_⟩,fun h3=>?_⟩,fun hc0=>⟨fun h3=>absurd h3.1 hc0,fun _=>?_⟩⟩
   ·rw[if_pos hc0,if_pos ⟨h3.2,hb0⟩]at hN2
    obtain⟨bs',ms',q1,_⟩:=zs4 (a:=D1) (b:=D2) (c:=D3) (by rw[←hC];exact hb0)
    rw[←hC]at q1
    simp only at q1
    rw[hr,hy,←hE,←hN2,show V.frzs cb=cb by rw[q1,jh]]
    exact⟨rfl,rfl⟩
   ·rw[if_pos hc0,if_neg (fun h4=>hb0 h4.2)]at hN2
    exact hag (B5,G5,k+1) ⟨by simp only;omega,by simp only;omega,s5,hN2⟩ (by simp only;omega)
   ·rw[if_pos hc0,if_neg (fun h4=>by omega)]at hN2
    exact hag (B5,G5,k+1) ⟨by simp only;omega,by simp only;omega,s5,hN2⟩ (by simp only;omega)
   ·rw[if_neg hc0]at hN2
    exact hag (b,g,k+1) ⟨by simp only;omega,by simp only;omega,hsl,hN2⟩ (by simp only;omega)
  ·have hk4:(4-k).toNat=0:=by omega
   rw[hk4]at hN
   obtain⟨⟨sl,A6,H6⟩,hsm⟩:∃z,z=smF a0 a h 8 40:=⟨_,rfl⟩
   have hqs:zmn a0 a h 8 40:=⟨hs,by omega,by omega⟩
   have hs6:=zhe hqs
   rw[←hsm]at hs6
   obtain⟨s6,l6,l7⟩:=hs6
   simp only at s6 l6 l7
   have Esm:zj0 a0 a h 8 40=(I sl,A6,H6):=by rw[zj0,←hsm]
   have Eb:kP (I sl)=qK sl:=by rw[kP,zB]
   have hN3:(dwE a0 (a,h))=E:=hN
   rw[dwE]at hN3
   simp only[←hsm]at hN3
   subst yU yT yS qV zfQ zfN qG qj zp0 ZA YW
   have e23:V.frzs [V.int .i64 2,V.int .i64 3]=I [2,3]:=rfl
   have Ec:∀l:List Int,zk5 (I l)=((sq1 l).length:Int):=fun l=>by rw[zk5,zB]
   have fin:∀(b:List Int),dwB sl=b→(jp a0 A6 H6 2=0→(BB false [b],II true [[0]],yB a0 (A6,H6) 2)=E)∧
    (¬jp a0 A6 H6 2=0→(BB false [b,b],II true [[0,W ((sq1 b).length+jl a0 (yB a0 (A6,H6) 2) 3)],[W ((sq1 b).length+jl a0 (yB a0 (A6,H6) 2) 3),0]],yB a0 (yB a0 (A6,H6) 2) 3)=E):=by
    intro b hb
    rw[hb]at hN3
    exact⟨fun h=>by rw[←hN3];exact(if_pos h).symm,fun h=>by rw[←hN3];exact(if_neg h).symm⟩
   simp only[Esm,zN,Eb,e23,Ec,same]
   have isl:∀l:List Int,l.length≤4→uU (I l):=fun l h=>⟨⟨l,rfl⟩,by rw[zm];omega⟩
   refine⟨hqs,isl sl l7,fun hb=>?_,fun hb=>?_⟩
   ·have hd:dwB sl=[2,3]:=by rw[dwB,if_neg (by rw[hb];decide)]
    obtain⟨f1,f2⟩:=fin _ hd
    refine⟨s6,fun h5=>?_,fun h5=>⟨⟨_,rfl,by rw[←hd];exact zn5 sl⟩,kX s6,isl _ (by decide),?_⟩⟩
    ·rw[hr,hy,←hE,←f1 h5]
     exact⟨rfl,rfl⟩
    ·rw[hr,hy,←hE,←f2 h5]
     exact⟨rfl,rfl⟩
   ·have hd:dwB sl=sl:=by rw[dwB,if_pos (by simpa using hb)]
    obtain⟨f1,f2⟩:=fin _ hd
    have eb1:V.frzs [V.agg [V.slc true 2 (V.int IntKind.i64 0) (I sl)]]=BB false [sl]:=jh true [sl]
    have eb2:V.frzs [V.agg [V.slc false 2 (V.int IntKind.i64 0) (I sl)],V.agg [V.slc true 2 (V.int IntKind.i64 0) (I sl)]]=BB false [sl,sl]:=by
     simp only[V.frzs,V.frz,zN]
     rfl
    refine⟨s6,fun h5=>?_,fun h5=>⟨⟨_,rfl,by rw[←hd];exact zn5 sl⟩,kX s6,isl _ l7,?_⟩⟩
    ·rw[hr,hy,←hE,←f1 h5,eb1]
     exact⟨rfl,rfl⟩
    ·rw[hr,hy,←hE,←f2 h5,eb2]
     exact⟨rfl,rfl⟩
 ·cases h
end Go.Ax
namespace Go.Ax
open Go.Proofs
abbrev By:=List UInt8
def T(l:By):ByteArray:=⟨l.toArray⟩
theorem zg5(s:ByteArray):s=T s.data.toList:=by simp[T]
theorem qy(l:By):(T l).size=l.length:=by simp[T,ByteArray.size]
theorem zli(l:By)(i:Nat):(T l).data.getD i 0=l.getD i 0:=by simp[T,zd,Array.getD_eq_getD_getElem?]
theorem Ju(a b:By):T a++T b=T (a++b):=by
 apply ByteArray.ext
 simp[T]
theorem zgG(l:By)(a b:Nat):(T l).extract a b=T ((l.take b).drop a):=by
 apply ByteArray.ext
 simp[T,ByteArray.data_extract,List.drop_take]
theorem zkk(l:By):(T l).data.toList=l:=by simp[T]
theorem zhQ(l:By):(T l).toList=l:=by
 rw[ByteArray.toList_eq]
 simp[T]
def ZD(c:UInt8):Bool:=decide (48≤c.toNat)&&decide (c.toNat≤57)
def JB:By→Int→Int
 |[],n=>n
 |c::l,n=>JB l (n*10+((c.toNat:Int)-48))
theorem zdL(c:UInt8):∀(l:By) (n:Int),JB (l++[c]) n=JB l n*10+((c.toNat:Int)-48)
 |[],n=>rfl
 |x::l,n=>by rw[zL,JB,zdL c l];rfl
def uk(l:By):Bool:=decide (l≠[])&&decide (l.length≤9)&&(decide (l.length≤1)||decide (l.getD 0 0≠48))&&l.all ZD
def jb(l:By):Int:=if uk l=true then JB l 0 else-1
def zfs:Nat→Int→By
 |0,_=>[]
 |f+1,n=>if n<10 then[UInt8.ofNat (48+n).toNat]else zfs f (n.tdiv 10)++[UInt8.ofNat (48+n.tmod 10).toNat]
def kC(n:Int):By:=zfs 20 n
theorem zet:∀(l:By) (n:Int),l.all ZD=true→0≤n→n*10^l.length≤JB l n∧JB l n<(n+1)*10^l.length
 |[],n,_,_=>by simp[JB];omega
 |c::l,n,h,h0=>by
  simp only[jU,zg]at h
  have hc:=h.1
  rw[ZD,zg,decide_eq_true_eq,decide_eq_true_eq]at hc
  obtain⟨h1,h2⟩:=zet l (n*10+((c.toNat:Int)-48)) h.2 (by omega)
  rw[JB,zi,zcF]
  have hp:(0:Int)<10^l.length:=Int.pow_pos (by omega)
  constructor
  ·refine Int.le_trans ?_ h1
   rw[←Int.mul_assoc,Int.mul_right_comm]
   exact QR (by omega) (Int.le_of_lt hp)
  ·refine Int.lt_of_lt_of_le h2 ?_
   rw[show(n+1)*(10^l.length*10)=((n+1)*10)*10^l.length by rw[Int.mul_assoc,Int.mul_comm (10:Int)]]
   exact QR (by omega) (Int.le_of_lt hp)
theorem ztg:∀(f:Nat) (l:By),l≠[]→l.length≤f→(l.length≤1∨l.getD 0 0≠48)→l.all ZD=true→zfs f (JB l 0)=l
 |0,l,h0,h1,_,_=>absurd (yJ (by omega)) h0
 |f+1,l,h0,h1,h2,h3=>by
  obtain⟨w,c,rfl⟩:∃w c,l=w++[c]:=⟨l.dropLast,l.getLast h0,(ZO h0).symm⟩
  rw[List.all_append,zg]at h3
  have hc:ZD c=true:=by simpa using h3.2
  rw[ZD,zg,decide_eq_true_eq,decide_eq_true_eq]at hc
  rw[zdL,zfs]
  cases w with
  |nil=>
   have e:(0:Int)*10+((c.toNat:Int)-48)=(c.toNat:Int)-48:=by omega
   rw[show JB [] 0=0 from rfl,e,if_pos (by omega),show(48+((c.toNat:Int)-48)).toNat=c.toNat by omega,UInt8.ofNat_toNat]
   rfl
  |cons x w=>
   have hx:x≠48:=by
    rcases h2 with h2|h2
    ·simp at h2
    ·simpa using h2
   have hxd:ZD x=true:=by have:=h3.1;rw[jU,zg]at this;exact this.1
   rw[ZD,zg,decide_eq_true_eq,decide_eq_true_eq]at hxd
   have hx49:49≤x.toNat:=by
    have:x.toNat≠48:=fun e=>hx (by rw[←UInt8.ofNat_toNat (x:=x),e];rfl)
    omega
   have hv:1≤JB (x::w) 0:=by
    have hw:w.all ZD=true:=by have:=h3.1;rw[jU,zg]at this;exact this.2
    have hb:=(zet w ((x.toNat:Int)-48) hw (by omega)).1
    have hp:(0:Int)<10^w.length:=Int.pow_pos (by omega)
    have:(1:Int)*1≤((x.toNat:Int)-48)*10^w.length:=Int.mul_le_mul (by omega) (by omega) (by omega) (by omega)
    rw[JB,show(0:Int)*10+((x.toNat:Int)-48)=(x.toNat:Int)-48 by omega]
    omega
   rw[if_neg (by omega)]
   obtain⟨v,hvv⟩:∃v,v=JB (x::w) 0:=⟨_,rfl⟩
   rw[←hvv]at hv ⊢
   have e1:(v*10+((c.toNat:Int)-48)).tdiv 10=v:=by
    rw[jV (by omega)];omega
   have e2:(v*10+((c.toNat:Int)-48)).tmod 10=(c.toNat:Int)-48:=by
    rw[kL (by omega)];omega
   rw[e1,e2,hvv,ztg f (x::w) (by simp) (by simp at h1 ⊢;omega) (.inr (by simpa using hx)) h3.1,show(48+((c.toNat:Int)-48)).toNat=c.toNat by omega,UInt8.ofNat_toNat]
theorem JW{l:By}:uk l=true↔l≠[]∧l.length≤9∧(l.length≤1∨l.getD 0 0≠48)∧l.all ZD=true:=by
 simp only[uk,zg,Bool.or_eq_true,decide_eq_true_eq,and_assoc]
theorem zvB{l:By}(h:uk l=true):kC (jb l)=l:=by
 obtain⟨h1,h2,h3,h4⟩:=JW.1 h
 rw[jb,if_pos h,kC]
 exact ztg 20 l h1 (by omega) h3 h4
theorem zoT{l:By}(h:0≤jb l):uk l=true:=by
 rw[jb]at h
 split at h
 ·assumption
 ·omega
def yc(c:UInt8):By→List By
 |[]=>[[]]
 |x::l=>if x=c then[]::yc c l else match yc c l with
  |[]=>[[x]]
  |w::r=>(x::w)::r
theorem Yu(c:UInt8):∀l,yc c l≠[]
 |[]=>by simp[yc]
 |x::l=>by
  rw[yc]
  split
  ·simp
  ·split<;>simp
theorem Kc{c:UInt8}:∀{l:By},c∉l→yc c l=[l]
 |[],_=>rfl
 |x::l,h=>by
  simp only[zA,not_or]at h
  rw[yc,if_neg (fun e=>h.1 e.symm),Kc h.2]
theorem ze0{c:UInt8}:∀{a:By} (b:By),c∉a→yc c (a++c::b)=a::yc c b
 |[],b,_=>by rw[qf,yc,if_pos rfl]
 |x::a,b,h=>by
  simp only[zA,not_or]at h
  rw[zL,yc,if_neg (fun e=>h.1 e.symm),ze0 b h.2]
def jC(c:UInt8):List By→By
 |[]=>[]
 |[w]=>w
 |w::v::r=>w++c::jC c (v::r)
theorem zcn(c:UInt8):∀l,jC c (yc c l)=l
 |[]=>rfl
 |x::l=>by
  have ih:=zcn c l
  rw[yc]
  split
  ·rename_i e
   cases hs:yc c l with
   |nil=>exact absurd hs (Yu c l)
   |cons w r=>rw[hs]at ih;rw[jC,qf,ih,e]
  ·cases hs:yc c l with
   |nil=>exact absurd hs (Yu c l)
   |cons w r=>
    rw[hs]at ih
    cases r with
    |nil=>rw[jC]at ih ⊢;rw[ih]
    |cons v r=>rw[jC]at ih ⊢;rw[zL,ih]
theorem zju{c d:UInt8}(hcd:d≠c):∀{l:By},d∈l→∃w∈yc c l,d∈w
 |x::l,h=>by
  rw[yc]
  have hne:=Yu c l
  cases hs:yc c l with
  |nil=>exact absurd hs hne
  |cons w r=>
   rcases zA.1 h with h|h
   ·rw[if_neg (fun e=>hcd (h.trans e))]
    exact⟨_,yi,by rw[h];exact yi⟩
   ·obtain⟨w',hw',hd⟩:=zju hcd h
    rw[hs]at hw'
    split
    ·exact⟨w',zp _ hw',hd⟩
    ·rcases zA.1 hw' with e|e
     ·exact⟨_,yi,zp _ (by rw[←e];exact hd)⟩
     ·exact⟨w',zp _ e,hd⟩
theorem ztl{l:By}{d:UInt8}(h:d∈l)(hd:ZD d=false):uk l=false:=by
 cases hc:uk l with
 |false=>rfl
 |true=>
  have:=(JW.1 hc).2.2.2
  rw[zZ]at this
  rw[this d h]at hd
  cases hd
def qE(c:UInt8):By→By×By×Bool
 |[]=>([],[],false)
 |x::l=>if x=c then([],l,true)else(x::(qE c l).1,(qE c l).2.1,(qE c l).2.2)
theorem zft{c:UInt8}:∀{l:By},c∉l→qE c l=(l,[],false)
 |[],_=>rfl
 |x::l,h=>by
  simp only[zA,not_or]at h
  rw[qE,if_neg (fun e=>h.1 e.symm),zft h.2]
theorem zkb{c:UInt8}:∀{a:By} (b:By),c∉a→qE c (a++c::b)=(a,b,true)
 |[],b,_=>by rw[qf,qE,if_pos rfl]
 |x::a,b,h=>by
  simp only[zA,not_or]at h
  rw[zL,qE,if_neg (fun e=>h.1 e.symm),zkb b h.2]
theorem zva{c:UInt8}:∀{l:By},c∈l→∃a b,l=a++c::b∧c∉a
 |x::l,h=>by
  by_cases hx:x=c
  ·exact⟨[],l,by rw[hx];rfl,by simp⟩
  ·obtain⟨a,b,e,ha⟩:=zva ((zA.1 h).resolve_left (fun e=>hx e.symm))
   exact⟨x::a,b,by rw[e];rfl,by simp only[zA,not_or];exact⟨fun e=>hx e.symm,ha⟩⟩
theorem YJ(c:UInt8)(l:By):(c∉l∧qE c l=(l,[],false)∧yc c l=[l])∨∃a b,l=a++c::b∧c∉a∧qE c l=(a,b,true)∧yc c l=a::yc c b:=by
 by_cases h:c∈l
 ·obtain⟨a,b,e,ha⟩:=zva h
  exact .inr ⟨a,b,e,ha,by rw[e,zkb b ha],by rw[e,ze0 b ha]⟩
 ·exact .inl ⟨h,zft h,Kc h⟩
end Go.Ax
namespace Go.Ax
open Go.Proofs
theorem zbX(l:By)(i:Nat)(c:UInt8):(((l.getD i 0).toNat:Int)=(c.toNat:Int))↔l.getD i 0=c:=by
 constructor
 ·intro h
  have:(l.getD i 0).toNat=c.toNat:=by omega
  exact UInt8.toNat_inj.1 this
 ·intro h;rw[h]
def zfz(f:ByteArray→Int→ByteArray×ByteArray×Bool)(q:ByteArray→Int→Prop):zQ:=fun
 |[.str a0,.int .u8 a1]=>some ([q a0 a1],.tup [.str ((f a0 a1).1),.str ((f a0 a1).2.1),.bool ((f a0 a1).2.2)])
 |_=>none
def zpb(s:ByteArray)(c:Int):By×By×Bool:=qE (UInt8.ofNat c.toNat) s.data.toList
def zgs(s:ByteArray)(c:Int):ByteArray×ByteArray×Bool:=(T (zpb s c).1,T (zpb s c).2.1,(zpb s c).2.2)
def Ke(s:ByteArray)(c:Int):Prop:=s.size≤2000000000∧∃d:UInt8,c=d.toNat
theorem zyD{c:UInt8}{l:By}{i:Nat}(h:∀t,t<i→l.getD t 0≠c)(hi:i<l.length)(hc:l.getD i 0=c):qE c l=(l.take i,l.drop (i+1),true):=by
 have e:l=l.take i++c::l.drop (i+1):=by
  rw[←hc,zd,ze hi]
  exact(jq i l).symm.trans (congrArg (List.take i l++ ·) (Zg hi))
 have hn:c∉l.take i:=fun hm=>by
  obtain⟨t,ht,he⟩:=ym.1 hm
  rw[zD]at ht
  rw[YC]at he
  refine h t (by omega) ?_
  rw[zd,ze (by omega)]
  exact he
 conv=>lhs;rw[e]
 exact zkb _ hn
theorem zyE{c:UInt8}{l:By}(h:∀t,t<l.length→l.getD t 0≠c):qE c l=(l,[],false)∧yc c l=[l]:=by
 have hn:c∉l:=fun hm=>by
  obtain⟨t,ht,he⟩:=ym.1 hm
  refine h t ht ?_
  rw[zd,ze ht]
  exact he
 exact⟨zft hn,Kc hn⟩
theorem zed:yZ Tryz.prog 18 (zfz zgs Ke):=by
 intro args ps r h hp
 unfold zfz at h
 split at h
 ·rename_i s c
  simp only[za,zb]at h
  obtain⟨rfl,rfl⟩:=h
  obtain⟨hs,d,rfl⟩:Ke s c:=(zo.1 hp).1
  obtain⟨l,hl⟩:∃l,l=s.data.toList:=⟨_,rfl⟩
  have hsl:s=T l:=by rw[hl];exact zg5 s
  have hsz:s.size=l.length:=by rw[hsl,qy]
  have hcut:zpb s (d.toNat:Int)=qE d l:=by rw[zpb,←hl,zV,UInt8.ofNat_toNat]
  have hf0:zgs s (d.toNat:Int)=(T (qE d l).1,T (qE d l).2.1,(qE d l).2.2):=by rw[zgs,hcut]
  obtain⟨n,hn⟩:∃n:Int,n=l.length:=⟨_,rfl⟩
  obtain⟨dc,hdc⟩:∃dc:Int,dc=(d.toNat:Int):=⟨_,rfl⟩
  rw[←hdc]at hf0
  have gs:∀i,s.data.getD i 0=l.getD i 0:=fun i=>by rw[hsl,zli]
  refine zO (T:=tab) (B:=[]) (Bi:=[]) [0,1,4,5,6,7] Tryz.func18 rfl rfl (by kernel_rfl) (zh rfl) mixed yd (by exact zH) (by exact zE) (by kernel_rfl) ?_
  intro L lp rr hL hr hf hlp
  rw[←hdc]at hr ⊢
  conv=>cbv
  refine hlp (Int) _ _ _ [0,1,7] (fun x=>[(0,none,.val (.str s)),(1,none,.val (.int .u8 dc)),(7,none,.val (.int .i64 x))])
   (fun x=>0≤x∧x≤n∧∀t,t<x.toNat→l.getD t 0≠d) (fun x=>(n-x).toNat) (0) (by subst hL;rfl) ?_ ?_
  ·exact⟨by simp,by omega,fun t ht=>by simp at ht⟩
  rintro x ⟨x0,x1,hx⟩ hfx ag hag
  conv=>cbv
  simp only[zr hL,sQ,hsz,←hn,gs]
  have hbe:∀t,((l.getD t 0).toNat:Int)=dc↔l.getD t 0=d:=fun t=>by rw[hdc];exact zbX l t d
  rw[hbe]
  refine⟨fun h2=>⟨x0,h2,fun h3=>?_,fun h3=>?_⟩,fun h2=>?_⟩
  ·have hxn:x.toNat<l.length:=by omega
   rw[zl (n:=x+1) (by omega) (by omega)]
   refine⟨by omega,x0,x1,by omega,by omega,by omega,?_⟩
   rw[hr,hf0,zyD hx hxn h3,hsl,zgG,zgG,qY,show(x+1).toNat=x.toNat+1 by omega,zu (i:=n.toNat) (by omega)]
  ·rw[zl (n:=x+1) (by omega) (by omega)]
   refine hag (x+1) ⟨by omega,by omega,fun t ht=>?_⟩ (by omega)
   rw[yj x0]at ht
   by_cases e:t=x.toNat
   ·rw[e];exact h3
   ·exact hx t (by omega)
  ·rw[hr,hf0,(zyE fun t ht=>hx t (by omega)).1,hsl]
   rfl
 ·cases h
theorem zq8{n:Int}(h1:0≤n)(h2:n≤255):IntKind.wrap .u8 n=n:=IntWalk.u8_in n ⟨h1,h2⟩
def ut(l:By):By:=l.takeWhile ZD
def zgv(s:ByteArray):Int×ByteArray×Bool:=
 let l:=s.data.toList
 if 9<(ut l).length∨ut l=[]∨(1<(ut l).length∧l.getD 0 0=48)then(0,T [],false)else(JB (ut l) 0,T (l.drop (ut l).length),true)
def ZU(s:ByteArray):Prop:=s.size≤2000000000
def zpe(f:ByteArray→Int×ByteArray×Bool)(q:ByteArray→Prop):zQ:=fun
 |[.str a0]=>some ([q a0],.tup [.int .i64 ((f a0).1),.str ((f a0).2.1),.bool ((f a0).2.2)])
 |_=>none
theorem zz7{l:By}:∀{i:Nat},(∀t,t<i→ZD (l.getD t 0)=true)→i≤l.length→(i=l.length∨ZD (l.getD i 0)=false)→ut l=l.take i:=by
 intro i h hi hs
 induction l generalizing i with
 |nil=>simp[ut]
 |cons c l ih=>
  cases i with
  |zero=>
   rcases hs with hs|hs
   ·simp at hs
   ·have:ZD c=false:=by simpa using hs
    simp[ut,this]
  |succ i=>
   have h0:ZD c=true:=by simpa using h 0 (by omega)
   have:=ih (i:=i) (fun t ht=>by simpa using h (t+1) (by omega)) (by simpa using hi) (hs.imp (by simp) (by simp))
   rw[ut,zcM,if_pos h0,jO]
   congr 1
theorem zz8{l:By}:∀{i:Nat},(∀t,t<i→ZD (l.getD t 0)=true)→i≤l.length→i≤(ut l).length:=by
 intro i h hi
 induction l generalizing i with
 |nil=>simp at hi;omega
 |cons c l ih=>
  cases i with
  |zero=>exact kQ _
  |succ i=>
   have h0:ZD c=true:=by simpa using h 0 (by omega)
   have:=ih (i:=i) (fun t ht=>by simpa using h (t+1) (by omega)) (by simpa using hi)
   rw[ut,zcM,if_pos h0,zi]
   exact Nat.succ_le_succ this
theorem zkV(c:UInt8):ZD c=true↔48≤(c.toNat:Int)∧(c.toNat:Int)≤57:=by
 rw[ZD,zg,decide_eq_true_eq,decide_eq_true_eq];omega
theorem znp:yZ Tryz.prog 70 (zpe zgv ZU):=by
 intro args ps r h hp
 unfold zpe at h
 split at h
 ·rename_i s
  simp only[za,zb]at h
  obtain⟨rfl,rfl⟩:=h
  have hs:ZU s:=(zo.1 hp).1
  have hs':s.size≤2000000000:=hs
  obtain⟨l,hl⟩:∃l,l=s.data.toList:=⟨_,rfl⟩
  have hsl:s=T l:=by rw[hl];exact zg5 s
  have hsz:s.size=l.length:=by rw[hsl,qy]
  have hf0:zgv s=if 9<(ut l).length∨ut l=[]∨(1<(ut l).length∧l.getD 0 0=48)then(0,T [],false)else(JB (ut l) 0,T (l.drop (ut l).length),true):=by rw[zgv,←hl]
  obtain⟨n,hn⟩:∃n:Int,n=l.length:=⟨_,rfl⟩
  have gs:∀i,s.data.getD i 0=l.getD i 0:=fun i=>by rw[hsl,zli]
  refine zO (T:=tab) (B:=[]) (Bi:=[]) [0,2,3,4,5,6] Tryz.func70 rfl rfl (by kernel_rfl) (zh rfl) mixed yd (by exact zH) (by exact zE) (by kernel_rfl) ?_
  intro L lp rr hL hr hf hlp
  conv=>cbv
  refine hlp (Int×Int) _ _ _ [0,5,6] (fun x=>[(0,none,.val (.str s)),(5,none,.val (.int .i64 x.1)),(6,none,.val (.int .i64 x.2))])
   (fun x=>0≤x.2∧x.2≤n∧x.2≤9∧(∀t,t<x.2.toNat→ZD (l.getD t 0)=true)∧x.1=JB (l.take x.2.toNat) 0) (fun x=>(n-x.2).toNat) ((0,0)) (by subst hL;rfl) ?_ ?_
  ·exact⟨by simp,by simp only;omega,by simp,fun t ht=>by simp at ht,rfl⟩
  rintro⟨v,x⟩ ⟨x0,x1,x9,hx,hv⟩ hfx ag hag
  simp only at x0 x1 x9 hx hv
  conv=>cbv
  simp only[zr hL,sQ,hsz,←hn,gs]
  have hD:∀t,ZD (l.getD t 0)=true↔48≤((l.getD t 0).toNat:Int)∧((l.getD t 0).toNat:Int)≤57:=fun t=>zkV _
  have h48:((l.getD 0 0).toNat:Int)=48↔l.getD 0 0=48:=zbX l 0 48
  rw[h48]
  refine⟨fun _=>x0,fun _=>x0,fun h=>h.1,fun h2=>⟨fun h3=>?_,fun h3=>⟨x0,h2.1.1,?_⟩⟩,fun h2=>⟨fun _=>yN _,fun h=>by omega,fun h h'=>⟨h,h'⟩,fun h3=>?_,fun h3=>⟨x0,x1,yN _,?_⟩⟩⟩
  ·have hm:=zz8 (l:=l) (i:=x.toNat+1) (fun t ht=>by
    by_cases e:t=x.toNat
    ·rw[e];exact(hD _).2 ⟨h2.1.2,h2.2⟩
    ·exact hx t (by omega)) (by omega)
   rw[hr,hf0,if_pos (.inl (by omega))]
   rfl
  ·have hxl:x.toNat<l.length:=by omega
   have hall:(l.take x.toNat).all ZD=true:=by
    rw[zZ]
    intro c hc
    obtain⟨t,ht,rfl⟩:=ym.1 hc
    rw[zD]at ht
    have:=hx t (by omega)
    rw[zd,ze (by omega)]at this
    rw[YC];exact this
   obtain⟨b1,b2⟩:=zet (l.take x.toNat) 0 hall (yN _)
   have hp:(10:Int)^(l.take x.toNat).length≤10^9:=by
    have:(10:Nat)^(l.take x.toNat).length≤10^9:=Zv (by omega) (by rw[zD];omega)
    exact_mod_cast this
   rw[←hv]at b1 b2
   have hc0:=h2.1.2
   have hc1:=h2.2
   rw[zl (n:=x+1) (by omega) (by omega),zq8 (n:=((l.getD x.toNat 0).toNat:Int)-48) (by omega) (by omega),zl (n:=10*v) (by omega) (by omega),zl (n:=((l.getD x.toNat 0).toNat:Int)-48) (by omega) (by omega),zl (by omega) (by omega)]
   refine hag (_,x+1) ⟨by simp only;omega,by simp only;omega,by simp only;omega,fun t ht=>?_,?_⟩ (by simp only;omega)
   ·simp only[yj x0]at ht
    by_cases e:t=x.toNat
    ·rw[e];exact(hD _).2 ⟨hc0,hc1⟩
    ·exact hx t (by omega)
   ·simp only[yj x0]
    rw[zC hxl,zdL,←hv,zd,ze hxl,Int.mul_comm]
    rfl
  all_goals
   have hdp:ut l=l.take x.toNat:=zz7 hx (by omega) (by
    by_cases e:x<n
    ·right
     cases hd:ZD (l.getD x.toNat 0)with
     |false=>rfl
     |true=>have:=(hD _).1 hd;omega
    ·left;omega)
   have hdl:(ut l).length=x.toNat:=by rw[hdp,zD];omega
  ·rw[hr,hf0,if_pos]
   ·rfl
   ·rcases h3 with h3|h3
    ·right;left;exact yJ (by omega)
    ·exact .inr (.inr ⟨by omega,h3.2⟩)
  ·rw[hr,hf0,if_neg,hdl,hv,hdp,hsl,zgG,zu (i:=n.toNat) (by omega)]
   rintro(h|h|h)
   ·omega
   ·rw[h]at hdl;simp at hdl;omega
   ·rcases h3.2 with h4|h4
    ·omega
    ·exact h4 h.2
 ·cases h
def zeE(s:ByteArray):Int×Bool:=((zgv s).1,(zgv s).2.2&&((zgv s).2.1.toList==(T []).toList))
theorem zx5{s:ByteArray}:(zeE s).2=uk s.data.toList∧(uk s.data.toList=true→(zeE s).1=jb s.data.toList):=by
 obtain⟨l,hl⟩:∃l,l=s.data.toList:=⟨_,rfl⟩
 rw[zeE,zgv,←hl]
 have hpre:∀m:By,m.all ZD=true→ut m=m:=fun m hm=>by
  induction m with
  |nil=>rfl
  |cons c m ih=>
   rw[jU,zg]at hm
   rw[ut,zcM,if_pos hm.1]
   exact congrArg (c:: ·) (ih hm.2)
 have hle:(ut l).length≤l.length:=(List.takeWhile_prefix (p:=ZD) (l:=l)).length_le
 have hall:(ut l).all ZD=true:=by rw[ut,List.all_takeWhile]
 have hdrop:l.drop (ut l).length=[]↔(ut l).length=l.length:=by
  rw[List.drop_eq_nil_iff];omega
 have heq:(ut l).length=l.length→ut l=l:=fun h=>by
  have:=List.takeWhile_prefix (p:=ZD) (l:=l)
  exact this.eq_of_length h
 by_cases h:9<(ut l).length∨ut l=[]∨(1<(ut l).length∧l.getD 0 0=48)
 ·rw[if_pos h]
  have hn:uk l=false:=by
   cases hc:uk l with
   |false=>rfl
   |true=>
    obtain⟨c1,c2,c3,c4⟩:=JW.1 hc
    rw[hpre l c4]at h
    rcases h with h|h|h
    ·omega
    ·exact absurd h c1
    ·rcases c3 with c3|c3
     ·omega
     ·exact absurd h.2 c3
  rw[hn]
  exact⟨rfl,fun h=>by cases h⟩
 ·rw[if_neg h]
  simp only[not_or,Nat.not_lt]at h
  obtain⟨h1,h2,h3⟩:=h
  have e:((T (l.drop (ut l).length)).toList==(T []).toList)=decide ((ut l).length=l.length):=by
   rw[zhQ,zhQ,Bool.eq_iff_iff,beq_iff_eq,decide_eq_true_eq,hdrop]
  rw[e,Bool.true_and]
  have hcan:uk l=decide ((ut l).length=l.length):=by
   rw[Bool.eq_iff_iff,decide_eq_true_eq,JW]
   constructor
   ·intro hc;rw[hpre l hc.2.2.2]
   ·intro hl2
    have:=heq hl2
    rw[this]at h1 h2 h3 hall
    refine⟨h2,h1,?_,hall⟩
    by_cases e1:l.length≤1
    ·exact .inl e1
    ·exact .inr (fun e2=>h3 ⟨by omega,e2⟩)
  refine⟨hcan.symm,fun hc=>?_⟩
  rw[jb,if_pos hc]
  rw[hcan,decide_eq_true_eq]at hc
  rw[heq hc]
def zob(f:ByteArray→Int×Bool)(q:ByteArray→Prop):zQ:=fun
 |[.str a0]=>some ([q a0],.tup [.int .i64 ((f a0).1),.bool ((f a0).2)])
 |_=>none
theorem zgc:yZ Tryz.prog 47 (zob zeE ZU):=by
 intro args ps r h hp
 unfold zob at h
 split at h
 ·rename_i s
  simp only[za,zb]at h
  obtain⟨rfl,rfl⟩:=h
  have hs:ZU s:=(zo.1 hp).1
  generalize zpS:zgv=zCf
  generalize jr:ZU=uo
  refine zO (T:=tab) (B:=[(70,zpe zCf uo)]) (Bi:=[]) [0,2,3,4,5,6] Tryz.func47 rfl rfl (by kernel_rfl) (zh rfl) mixed yd (by subst zpS jr;exact(zt znp zH)) (by subst zpS jr;exact zE) (by kernel_rfl) ?_
  intro L lp rr hL hr hf hlp
  conv=>cbv
  simp only[zr hL,sQ,true_and]
  subst zpS jr
  refine⟨hs,?_⟩
  rw[hr]
  rfl
 ·cases h
def Zs(ws:List By):List V:=ws.map fun w=>.str (T w)
@[simp] theorem uw(ws:List By):(Zs ws).length=ws.length:=by simp[Zs]
@[simp] theorem zb0(ws:List By)(k:Nat):(Zs ws).getD k (.str ⟨#[]⟩)=.str (T (ws.getD k [])):=by
  simp only[Zs,zd,zJ]
  cases ws[k]? <;>rfl
@[simp] theorem zgF(a b:List By):Zs a++Zs b=Zs (a++b):=by simp[Zs]
@[simp] theorem zvK(ws:List By):V.frzs (Zs ws)=Zs ws:=by
  rw[V.frzs_eq]
  simp[Zs,V.frz]
@[simp] theorem Zs_noFzs(ws:List By):V.noFzs (Zs ws)=true:=by
  rw[V.noFzs_eq]
  simp[Zs,V.noFz]
@[simp] theorem zci(o:Bool)(s:ByteArray):vw ui tab o 20 9 (.str s)=some (.str s):=rfl
@[simp] theorem zau(s:ByteArray):ui.toS (.str s)=s:=rfl
theorem JT(c:UInt8):∀l:By,(yc c l).length≤l.length+1
 |[]=>by simp[yc]
 |x::l=>by
  have ih:=JT c l
  rw[yc]
  split
  ·simp only[zi];omega
  ·split
   ·simp
   ·rename_i h;rw[h]at ih;simp only[zi]at ih ⊢;omega
theorem YE(c:UInt8):∀(l:By) (w:By),w∈yc c l→w.length≤l.length
 |[],w,h=>by simp[yc]at h;simp[h]
 |x::l,w,h=>by
  rw[yc]at h
  split at h
  ·rcases zA.1 h with e|e
   ·rw[e];simp
   ·have:=YE c l w e;simp only[zi];omega
  ·split at h
   ·rename_i h2;exact absurd h2 (Yu c l)
   ·rename_i v r h2
    rcases zA.1 h with e|e
    ·have:=YE c l v (by rw[h2];exact yi)
     rw[e];simp only[zi];omega
    ·have:=YE c l w (by rw[h2];exact zp _ e)
     simp only[zi];omega
def zdW(f:ByteArray→Int→List V)(q:ByteArray→Int→Prop):zQ:=fun
 |[.str a0,.int .u8 a1]=>some ([q a0 a1],.slc true 9 (.str ⟨#[]⟩) (f a0 a1))
 |_=>none
def zbj(s:ByteArray)(c:Int):List V:=Zs (yc (UInt8.ofNat c.toNat) s.data.toList)
theorem zhp:yZ Tryz.prog 19 (zdW zbj Ke):=by
 intro args ps r h hp
 unfold zdW at h
 split at h
 ·rename_i s c
  simp only[za,zb]at h
  obtain⟨rfl,rfl⟩:=h
  obtain⟨hs,d,rfl⟩:Ke s c:=(zo.1 hp).1
  obtain⟨l,hl⟩:∃l,l=s.data.toList:=⟨_,rfl⟩
  have hsl:s=T l:=by rw[hl];exact zg5 s
  rw[hsl,qy]at hs
  obtain⟨dc,hdc⟩:∃dc:Int,dc=(d.toNat:Int):=⟨_,rfl⟩
  have hdd:UInt8.ofNat dc.toNat=d:=by rw[hdc,zV,UInt8.ofNat_toNat]
  have hf0:zbj s dc=Zs (yc d l):=by rw[zbj,hdd,←hl]
  have hprt:∀m:By,zgs (T m) dc=(T (qE d m).1,T (qE d m).2.1,(qE d m).2.2):=fun m=>by rw[zgs,zpb,hdd,zkk]
  have hqp:∀m:By,m.length≤l.length→Ke (T m) dc:=fun m h=>⟨by rw[qy];omega,d,hdc⟩
  generalize JQ:zgs=zaG
  generalize jA:Ke=Zb
  refine zO (T:=tab) (B:=[(18,zfz zaG Zb)]) (Bi:=[]) [0,1,4,5,6,7,8] Tryz.func19 rfl rfl (by kernel_rfl) (zh rfl) mixed yd (by subst JQ jA;exact(zt zed zH)) (by subst JQ jA;exact zE) (by kernel_rfl) ?_
  intro L lp rr hL hr hf hlp
  rw[←hdc]at hr ⊢
  have Ep:∀m:By,zaG (T m) dc=(T (qE d m).1,T (qE d m).2.1,(qE d m).2.2):=fun m=>by rw[←JQ];exact hprt m
  have Qp:∀m:By,m.length≤l.length→Zb (T m) dc:=fun m h=>by rw[←jA];exact hqp m h
  conv=>cbv
  refine hlp (List By×By) _ _ _ [0,1,5] (fun x=>[(0,none,.val (.str (T x.2))),(1,none,.val (.int .u8 dc)),(5,none,.val (.slc true 9 (.str ⟨#[]⟩) (Zs x.1)))])
   (fun x=>x.2.length≤l.length∧yc d l=x.1++yc d x.2) (fun x=>x.2.length) (([],l)) (by subst hL;rw[show T ([],l).2=s from hsl.symm];rfl) ?_ ?_
  ·exact⟨zn _,rfl⟩
  rintro⟨ws,m⟩ ⟨hm,hsp⟩ hfx ag hag
  simp only at hm hsp
  have hwl:ws.length+(yc d m).length≤l.length+1:=by
   have h1:=JT d l
   rw[hsp,zk]at h1
   exact h1
  have hml:0<(yc d m).length:=by
   cases hx:yc d m with
   |nil=>exact absurd hx (Yu d m)
   |cons=>simp
  obtain⟨sm,hsm⟩:∃sm,sm=T m:=⟨_,rfl⟩
  obtain⟨vz,hvz⟩:∃vz,vz=Zs ws:=⟨_,rfl⟩
  have hvl:vz.length=ws.length:=by rw[hvz,uw]
  have Em:zaG sm dc=(T (qE d m).1,T (qE d m).2.1,(qE d m).2.2):=by rw[hsm,Ep]
  have Qm:Zb sm dc:=by rw[hsm];exact Qp m hm
  rw[←hsm,←hvz]
  conv=>cbv
  simp only[zr hL,sQ,Em,hvl]
  rw[hvz]
  have hz:∀a:By,Zs ws++[V.str (T a)]=Zs (ws++[a]):=fun a=>by rw[←zgF];rfl
  rcases YJ d m with⟨c1,c2,c3⟩|⟨a,b,c1,c2,c3,c4⟩
  ·rw[c2]
   simp only[hz,zi,zq]
   refine⟨Qm,rfl,by omega,fun x hx=>by(simp only[zX]at hx;subst hx;rfl),fun _=>?_,fun h=>absurd h (by simp)⟩
   rw[hr,hf0,hsp,c3]
  ·rw[c3]
   simp only[hz,zi,zq]
   have hbl:b.length<m.length:=by rw[c1];simp;omega
   refine⟨Qm,rfl,by omega,fun x hx=>by(simp only[zX]at hx;subst hx;rfl),fun h=>absurd h (by simp),fun _=>?_⟩
   refine hag (ws++[a],b) ⟨by simp only;omega,?_⟩ hbl
   simp only
   rw[hsp,c4,zS]
   rfl
 ·cases h
def ZW(ws:List By):List Int×Bool:=if ws.all uk=true then(ws.map jb,true)else([],false)
def zla(f:ByteArray→Int→List V×Bool)(q:ByteArray→Int→Prop):zQ:=fun
 |[.str a0,.int .u8 a1]=>some ([q a0 a1],.tup [.slc true 2 (.int .i64 0) ((f a0 a1).1),.bool ((f a0 a1).2)])
 |_=>none
def zn0(s:ByteArray)(c:Int):List V×Bool:=(I (ZW (yc (UInt8.ofNat c.toNat) s.data.toList)).1,(ZW (yc (UInt8.ofNat c.toNat) s.data.toList)).2)
theorem ze5:yZ Tryz.prog 21 (zla zn0 Ke):=by
 intro args ps r h hp
 unfold zla at h
 split at h
 ·rename_i s c
  simp only[za,zb]at h
  obtain⟨rfl,rfl⟩:=h
  have hq:Ke s c:=(zo.1 hp).1
  obtain⟨ws,hws⟩:∃ws,ws=yc (UInt8.ofNat c.toNat) s.data.toList:=⟨_,rfl⟩
  have hwl:ws.length≤2000000001:=by
   have h1:=JT (UInt8.ofNat c.toNat) s.data.toList
   rw[←hws]at h1
   have h2:=hq.1
   have:s.data.toList.length=s.size:=qa
   omega
  have hwd:∀k,k<ws.length→(ws.getD k []).length≤2000000000:=fun k hk=>by
   have h1:=YE (UInt8.ofNat c.toNat) s.data.toList (ws.getD k []) (by rw[←hws,zd,ze hk];exact ye _)
   have h2:=hq.1
   have:s.data.toList.length=s.size:=qa
   omega
  have hfw:zbj s c=Zs ws:=by rw[zbj,hws]
  have hf0:zn0 s c=(I (ZW ws).1,(ZW ws).2):=by rw[zn0,←hws]
  obtain⟨n,hn⟩:∃n:Int,n=ws.length:=⟨_,rfl⟩
  have hnum:∀w:By,(zeE (T w)).2=uk w∧(uk w=true→(zeE (T w)).1=jb w):=fun w=>by
   have:=zx5 (s:=T w)
   rw[zkk]at this
   exact this
  generalize uD:zbj=Yq
  generalize jA:Ke=Zb
  generalize zdo:zeE=zeS
  generalize jr:ZU=uo
  refine zO (T:=tab) (B:=[(19,zdW Yq Zb),(47,zob zeS uo)]) (Bi:=[]) [0,1,4,5,6,8,9,10,14,15,16] Tryz.func21 rfl rfl (by kernel_rfl) (zh rfl) mixed yd (by subst uD jA zdo jr;exact(zt zhp (zt zgc zH))) (by subst uD jA zdo jr;exact zE) (by kernel_rfl) ?_
  intro L lp rr hL hr hf hlp
  have Ew:Yq s c=Zs ws:=by rw[←uD,hfw]
  conv=>cbv
  simp only[zr hL,sQ,Ew,uw,←hn]
  refine⟨by rw[←jA];exact hq,?_⟩
  obtain⟨vz,hvz⟩:∃vz,vz=Zs ws:=⟨_,rfl⟩
  have hvl:vz.length=ws.length:=by rw[hvz,uw]
  have gz:∀k,vz.getD k (.str ⟨#[]⟩)=.str (T (ws.getD k [])):=fun k=>by rw[hvz,zb0]
  rw[←hvz]
  refine hlp (List V×Int) _ _ _ [6,14,15,16] (fun x=>[(6,none,.val (.slc true 2 (.int .i64 0) x.1)),(14,none,.val (.slc true 9 (.str ⟨#[]⟩) vz)),(15,none,.val (.int .i64 n)),(16,none,.val (.int .i64 x.2))])
   (fun x=>0≤x.2∧x.2≤n∧(ws.take x.2.toNat).all uk=true∧x.1=I ((ws.take x.2.toNat).map jb)) (fun x=>(n-x.2).toNat) (([],0)) (by subst hL;rfl) ?_ ?_
  ·exact⟨by simp,by simp only;omega,rfl,rfl⟩
  rintro⟨os,j⟩ ⟨j0,j1,hA,hO⟩ hfx ag hag
  simp only at j0 j1 hA hO
  have hol:os.length=j.toNat:=by rw[hO,zm,zy,zD];omega
  conv=>cbv
  simp only[zr hL,sQ,hvl,gz,zci,zau,←hn]
  refine⟨fun h2=>?_,fun h2=>?_⟩
  ·have hjn:j.toNat<ws.length:=by omega
   obtain⟨w,hw⟩:∃w,w=ws.getD j.toNat []:=⟨_,rfl⟩
   have hwj:ws[j.toNat]=w:=by rw[hw,zd,ze hjn];rfl
   obtain⟨nv,ok,hno⟩:∃nv ok,zeE (T w)=(nv,ok):=⟨_,_,rfl⟩
   obtain⟨u1,u2⟩:=hnum w
   rw[hno]at u1 u2
   simp only at u1 u2
   have Qd:uo (T w):=by rw[←jr];show(T w).size≤2000000000;rw[qy,hw];exact hwd _ hjn
   have Hn:zeS (T w)=(nv,ok):=by rw[←zdo,hno]
   have htk:ws.take (j.toNat+1)=ws.take j.toNat++[w]:=by rw[zC hjn,hwj]
   rw[←hw]
   simp only[Hn]
   refine⟨j0,h2,hjn,Qd,fun h3=>?_,fun h3=>?_⟩
   ·rw[u1]at h3
    have hna:¬ws.all uk=true:=fun h=>by
     rw[zZ]at h
     have:=h w (by rw[←hwj];exact ye _)
     rw[this]at h3;cases h3
    rw[hr,hf0,ZW,if_neg hna];rfl
   ·rw[u1]at h3
    have e1:nv=jb w:=u2 h3
    rw[e1,zl (n:=j+1) (by omega) (by omega)]
    refine⟨rfl,by simp only[zi,zq];omega,qJ _,?_⟩
    refine hag (_,j+1) ⟨by simp only;omega,by simp only;omega,?_,?_⟩ (by simp only;omega)
    ·simp only[yj j0]
     rw[htk,List.all_append,hA]
     simp[h3]
    ·simp only[yj j0]
     rw[htk,hO,List.map_append,←jS]
     rfl
  ·rw[zu (by omega)]at hA hO
   rw[hr,hf0,ZW,if_pos hA,hO]
 ·cases h
end Go.Ax
namespace Go.Ax
open Go.Proofs
theorem zf9:yZ Tryz.prog 28 (zdW zbj Ke):=by
 intro args ps r h hp
 unfold zdW at h
 split at h
 ·rename_i s c
  simp only[za,zb]at h
  obtain⟨rfl,rfl⟩:=h
  obtain⟨hs,d,rfl⟩:Ke s c:=(zo.1 hp).1
  obtain⟨l,hl⟩:∃l,l=s.data.toList:=⟨_,rfl⟩
  have hsl:s=T l:=by rw[hl];exact zg5 s
  rw[hsl,qy]at hs
  have hsz:s.size=l.length:=by rw[hsl,qy]
  obtain⟨dc,hdc⟩:∃dc:Int,dc=(d.toNat:Int):=⟨_,rfl⟩
  have hdd:UInt8.ofNat dc.toNat=d:=by rw[hdc,zV,UInt8.ofNat_toNat]
  have hf0:zbj s dc=Zs (yc d l):=by rw[zbj,hdd,←hl]
  obtain⟨n,hn⟩:∃n:Int,n=l.length:=⟨_,rfl⟩
  have gs:∀i,s.data.getD i 0=l.getD i 0:=fun i=>by rw[hsl,zli]
  have hbe:∀t,((l.getD t 0).toNat:Int)=dc↔l.getD t 0=d:=fun t=>by rw[hdc];exact zbX l t d
  refine zO (T:=tab) (B:=[]) (Bi:=[]) [0,1,4,5,6,7] Tryz.func28 rfl rfl (by kernel_rfl) (zh rfl) mixed yd (by exact zH) (by exact zE) (by kernel_rfl) ?_
  intro L lp rr hL hr hf hlp
  rw[←hdc]at hr ⊢
  conv=>cbv
  refine hlp (List By×Int×Int) _ _ _ [0,1,5,6,7] (fun x=>[(0,none,.val (.str s)),(1,none,.val (.int .u8 dc)),(5,none,.val (.slc true 9 (.str ⟨#[]⟩) (Zs x.1))),(6,none,.val (.int .i64 x.2.1)),(7,none,.val (.int .i64 x.2.2))])
   (fun x=>0≤x.2.1∧x.2.1≤x.2.2∧x.2.2≤n∧x.1.length≤x.2.1.toNat∧(∀t,x.2.1.toNat≤t→t<x.2.2.toNat→l.getD t 0≠d)∧yc d l=x.1++yc d (l.drop x.2.1.toNat)) (fun x=>(n-x.2.2).toNat) (([],0,0)) (by subst hL;rfl) ?_ ?_
  ·exact⟨by simp,by simp,by simp only;omega,by simp,fun t h1 h2=>by simp at h2,rfl⟩
  rintro⟨ws,at_,x⟩ ⟨a0,a1,x1,hwn,hx,hsp⟩ hfx ag hag
  simp only at a0 a1 x1 hwn hx hsp
  obtain⟨vz,hvz⟩:∃vz,vz=Zs ws:=⟨_,rfl⟩
  have hvl:vz.length=ws.length:=by rw[hvz,uw]
  rw[←hvz]
  conv=>cbv
  simp only[zr hL,sQ,hsz,←hn,gs,hvl,hbe]
  have hz:∀a b:Nat,vz++[V.str (s.extract a b)]=Zs (ws++[(l.take b).drop a]):=fun a b=>by
   rw[hvz,hsl,zgG,←zgF]
   rfl
  have hso:∀a b:Nat,∀x∈[V.str (s.extract a b)],x.solid=true:=fun a b x hx=>by
   simp only[zX]at hx;subst hx;rfl
  have hpart:∀e:Nat,(∀t,at_.toNat≤t→t<e→l.getD t 0≠d)→e≤l.length→d∉(l.take e).drop at_.toNat:=fun e he hel hm=>by
   obtain⟨t,ht,hte⟩:=ym.1 hm
   rw[zP,zD]at ht
   rw[List.getElem_drop,YC]at hte
   refine he (at_.toNat+t) (by omega) (by omega) ?_
   rw[zd,ze (by omega)]
   exact hte
  refine⟨fun h2=>⟨by omega,h2,fun h3=>?_,fun h3=>?_⟩,fun h2=>?_⟩
  ·have hxl:x.toNat<l.length:=by omega
   rw[zl (n:=x+1) (by omega) (by omega),hz]
   refine⟨a0,a1,x1,rfl,by simp only[zi,zq];omega,hso _ _,?_⟩
   refine hag (ws++[(l.take x.toNat).drop at_.toNat],x+1,x+1) ⟨by simp only;omega,by simp only;omega,by simp only;omega,by simp only[zk,zi,zq];omega,fun t h4 h5=>by simp only at h4 h5;omega,?_⟩ (by simp only;omega)
   simp only
   have e:l.drop at_.toNat=(l.take x.toNat).drop at_.toNat++d::l.drop (x+1).toNat:=by
    rw[List.drop_take,←h3,zd,ze hxl,show(x+1).toNat=x.toNat+1 by omega]
    have e1:=(jq (x.toNat-at_.toNat) (l.drop at_.toNat)).symm
    rw[List.drop_drop,show at_.toNat+(x.toNat-at_.toNat)=x.toNat by omega,Zg hxl]at e1
    exact e1
   rw[hsp,e,ze0 _ (hpart _ hx (by omega)),zS]
   rfl
  ·rw[zl (n:=x+1) (by omega) (by omega),hvz]
   refine hag (ws,at_,x+1) ⟨a0,by simp only;omega,by simp only;omega,hwn,fun t h4 h5=>?_,hsp⟩ (by simp only;omega)
   simp only at h4 h5
   by_cases e:t=x.toNat
   ·rw[e];exact h3
   ·exact hx t h4 (by omega)
  ·rw[hz]
   refine⟨a0,by omega,yN _,rfl,by simp only[zi,zq];omega,hso _ _,?_⟩
   have hn':n.toNat=l.length:=by omega
   have hd2:=hpart l.length (fun t h4 h5=>hx t h4 (by omega)) (zn _)
   rw[zu (zn _)]at hd2
   rw[hr,hf0,hsp,Kc hd2,hn',zu (zn _)]
 ·cases h
def zhB(s:ByteArray):Int:=jb s.data.toList
def zoc(f:ByteArray→Int)(q:ByteArray→Prop):zQ:=fun
 |[.str a0]=>some ([q a0],.int .i64 (f a0))
 |_=>none
theorem zf8:yZ Tryz.prog 30 (zoc zhB ZU):=by
 intro args ps r h hp
 unfold zoc at h
 split at h
 ·rename_i s
  simp only[za,zb]at h
  obtain⟨rfl,rfl⟩:=h
  have hs:ZU s:=(zo.1 hp).1
  have hs':s.size≤2000000000:=hs
  obtain⟨l,hl⟩:∃l,l=s.data.toList:=⟨_,rfl⟩
  have hsl:s=T l:=by rw[hl];exact zg5 s
  have hsz:s.size=l.length:=by rw[hsl,qy]
  have hf0:zhB s=jb l:=by rw[zhB,←hl]
  obtain⟨n,hn⟩:∃n:Int,n=l.length:=⟨_,rfl⟩
  have gs:∀i,s.data.getD i 0=l.getD i 0:=fun i=>by rw[hsl,zli]
  have h48:((l.getD 0 0).toNat:Int)=48↔l.getD 0 0=48:=zbX l 0 48
  refine zO (T:=tab) (B:=[]) (Bi:=[]) [0,2,3,4] Tryz.func30 rfl rfl (by kernel_rfl) (zh rfl) mixed yd (by exact zH) (by exact zE) (by kernel_rfl) ?_
  intro L lp rr hL hr hf hlp
  conv=>cbv
  simp only[zr hL,sQ,hsz,←hn,gs,h48]
  have hno:(n=0∨9<n)∨1<n∧l.getD 0 0=48→uk l=false:=fun h=>by
   cases hc:uk l with
   |false=>rfl
   |true=>
    obtain⟨c1,c2,c3,c4⟩:=JW.1 hc
    have hlp:0<l.length:=by
     cases l with
     |nil=>exact absurd rfl c1
     |cons=>simp
    rcases h with(h|h)|⟨h,h'⟩
    ·omega
    ·omega
    ·rcases c3 with c3|c3
     ·omega
     ·exact absurd h' c3
  refine⟨fun _=>yN _,fun h=>by omega,fun h h'=>⟨h,h'⟩,fun h=>?_,fun h=>?_⟩
  ·rw[hr,hf0,jb,if_neg (by rw[hno h];simp)]
  have h9:n≤9:=by omega
  refine hlp (Int×Int) _ _ _ [0,3,4] (fun x=>[(0,none,.val (.str s)),(3,none,.val (.int .i64 x.1)),(4,none,.val (.int .i64 x.2))])
   (fun x=>0≤x.2∧x.2≤n∧(∀t,t<x.2.toNat→ZD (l.getD t 0)=true)∧x.1=JB (l.take x.2.toNat) 0) (fun x=>(n-x.2).toNat) ((0,0)) (by subst hL;rfl) ?_ ?_
  ·exact⟨by simp,by simp only;omega,fun t ht=>by simp at ht,rfl⟩
  rintro⟨v,x⟩ ⟨x0,x1,hx,hv⟩ hfx ag hag
  simp only at x0 x1 hx hv
  conv=>cbv
  simp only[zr hL,sQ,hsz,←hn,gs]
  have hD:∀t,ZD (l.getD t 0)=true↔48≤((l.getD t 0).toNat:Int)∧((l.getD t 0).toNat:Int)≤57:=fun t=>zkV _
  have hall:∀k,k≤l.length→(∀t,t<k→ZD (l.getD t 0)=true)→(l.take k).all ZD=true:=fun k hk hd=>by
   rw[zZ]
   intro c hc
   obtain⟨t,ht,rfl⟩:=ym.1 hc
   rw[zD]at ht
   have:=hd t (by omega)
   rw[zd,ze (by omega)]at this
   rw[YC];exact this
  refine⟨fun h2=>⟨x0,h2,fun _=>x0,fun _=>h2,fun h3=>?_,fun h3=>⟨x0,h2,?_⟩⟩,fun h2=>?_⟩
  ·have hc:uk l=false:=by
    cases hc:uk l with
    |false=>rfl
    |true=>
     have h4:=(JW.1 hc).2.2.2
     rw[zZ]at h4
     have hxl:x.toNat<l.length:=by omega
     have:=(hD x.toNat).1 (by rw[zd,ze hxl];exact h4 _ (ye _))
     omega
   rw[hr,hf0,jb,if_neg (by rw[hc];simp)]
  ·have hxl:x.toNat<l.length:=by omega
   obtain⟨b1,b2⟩:=zet (l.take x.toNat) 0 (hall _ (by omega) hx) (yN _)
   have hp:(10:Int)^(l.take x.toNat).length≤10^9:=by
    have:(10:Nat)^(l.take x.toNat).length≤10^9:=Zv (by omega) (by rw[zD];omega)
    exact_mod_cast this
   rw[←hv]at b1 b2
   rw[zl (n:=x+1) (by omega) (by omega),zq8 (n:=((l.getD x.toNat 0).toNat:Int)-48) (by omega) (by omega),zl (n:=v*10) (by omega) (by omega),zl (n:=((l.getD x.toNat 0).toNat:Int)-48) (by omega) (by omega),zl (by omega) (by omega)]
   refine hag (_,x+1) ⟨by simp only;omega,by simp only;omega,fun t ht=>?_,?_⟩ (by simp only;omega)
   ·simp only[yj x0]at ht
    by_cases e:t=x.toNat
    ·rw[e];exact(hD _).2 (by omega)
    ·exact hx t (by omega)
   ·simp only[yj x0]
    rw[zC hxl,zdL,←hv,zd,ze hxl]
    rfl
  ·have hxe:x.toNat=l.length:=by omega
   rw[hxe]at hx hv
   have ha:=hall l.length (zn _) hx
   rw[zu (zn _)]at ha hv
   have hc:uk l=true:=JW.2 ⟨fun e=>by rw[e]at hn;simp at hn;omega,by omega,by
    rcases h.2 with h3|h3
    ·exact .inl (by omega)
    ·exact .inr h3,ha⟩
   rw[hr,hf0,jb,if_pos hc,hv]
 ·cases h
theorem zbC(f:Nat)(n:Int):zfs (f+1) n=if n<10 then[UInt8.ofNat (48+n).toNat]else zfs f (n.tdiv 10)++[UInt8.ofNat (48+n.tmod 10).toNat]:=rfl
theorem zqO:∀(f g:Nat) (n:Int),0≤n→n<10^(f+1)→n<10^(g+1)→zfs (f+1) n=zfs (g+1) n
 |0,g,n,h0,h1,_=>by
  rw[zbC 0,zbC g,if_pos (by omega),if_pos (by omega)]
 |f+1,0,n,h0,_,h2=>by
  rw[zbC (f+1),zbC 0,if_pos (by omega),if_pos (by omega)]
 |f+1,g+1,n,h0,h1,h2=>by
  rw[zbC (f+1),zbC (g+1)]
  split
  ·rfl
  ·rw[zcF]at h1 h2
   have e:n.tdiv 10=n/10:=jV h0
   rw[zqO f g (n.tdiv 10) (by rw[e];omega) (by rw[e];omega) (by rw[e];omega)]
theorem ziO{n:Int}(h0:0≤n)(h1:n<10000000000):kC n=if n<10 then[UInt8.ofNat (48+n).toNat]else kC (n.tdiv 10)++[UInt8.ofNat (48+n.tmod 10).toNat]:=by
 have e:n.tdiv 10=n/10:=jV h0
 rw[kC,kC,zqO 19 18 (n.tdiv 10) (by rw[e];omega) (by rw[e];omega) (by rw[e];omega)]
 exact zbC 19 n
def YZ(n:Int):ByteArray:=T (kC n)
def zig(m:Nat)(n:Int):Prop:=0≤n∧n<10^(m+1)∧m≤8
theorem zpa:∀(m:Nat) (n:Int),zig m n→(kC n).length≤m+1
 |0,n,h=>by rw[ziO h.1 (by have:=h.2.1;omega),if_pos (by have:=h.2.1;omega)];simp
 |m+1,n,h=>by
  obtain⟨h0,h1,h2⟩:=h
  have hb:(10:Int)^(m+1+1)≤10^9:=by
   have:(10:Nat)^(m+1+1)≤10^9:=Zv (by omega) (by omega)
   exact_mod_cast this
  rw[ziO h0 (by omega)]
  split
  ·simp
  ·have e:n.tdiv 10=n/10:=jV h0
   rw[zcF]at h1
   have:=zpa m (n.tdiv 10) ⟨by rw[e];omega,by rw[e];omega,by omega⟩
   rw[zk];simp only[zi,zq];omega
def Kk(f:Int→ByteArray)(q:Int→Prop):zQ:=fun
 |[.int .i64 a0]=>some ([q a0],.str (f a0))
 |_=>none
theorem zuN(x:Int)(h0:0≤x)(h1:x≤255):zdY [.int .u8 x]=T [UInt8.ofNat x.toNat]∧zhN [.int .u8 x]:=by
 refine⟨rfl,fun y hy=>?_⟩
 simp only[zX]at hy
 exact⟨x,hy⟩
theorem znr(m:Nat)(qq:Int→Prop)(ih:yZ Tryz.prog 46 (Kk YZ qq))(hqq:∀m' n,m=m'+1→zig m' n→qq n):yZ Tryz.prog 46 (Kk YZ (zig m)):=by
 intro args ps r h hp
 unfold Kk at h
 split at h
 ·rename_i n
  simp only[za,zb]at h
  obtain⟨rfl,rfl⟩:=h
  obtain⟨h0,h1,h2⟩:zig m n:=(zo.1 hp).1
  have hb:(10:Int)^(m+1)≤10^9:=by
   have:(10:Nat)^(m+1)≤10^9:=Zv (by omega) (by omega)
   exact_mod_cast this
  have hst:=ziO h0 (by omega)
  generalize kf:YZ=Zd
  generalize zAv:qq=zEe
  refine zO (T:=tab) (B:=[(46,Kk Zd zEe)]) (Bi:=[]) [0,2] Tryz.func46 rfl rfl (by kernel_rfl) (zh rfl) mixed yd (by subst kf zAv;exact(zt ih zH)) (by subst kf zAv;exact zE) (by kernel_rfl) ?_
  intro L lp rr hL hr hf hlp
  conv=>cbv
  simp only[zr hL,sQ,true_and]
  have e:=jV (b:=10) h0
  have e':=kL (b:=10) h0
  refine⟨fun h=>?_,fun h=>?_⟩
  ·rw[zl (n:=48+n) (by omega) (by omega),zq8 (by omega) (by omega)]
   obtain⟨o1,o2⟩:=zuN (48+n) (by omega) (by omega)
   refine⟨o2,?_⟩
   rw[hr,←kf,YZ,o1,hst,if_pos h]
  ·rw[zl (n:=48+n.tmod 10) (by omega) (by omega),zq8 (by omega) (by omega),zl (n:=n.tdiv 10) (by omega) (by omega)]
   obtain⟨o1,o2⟩:=zuN (48+n.tmod 10) (by omega) (by omega)
   obtain⟨m',rfl⟩:∃m',m=m'+1:=⟨m-1,by
    cases m with
    |zero=>omega
    |succ k=>rfl⟩
   rw[zcF]at h1
   have hq:zig m' (n.tdiv 10):=⟨by omega,by omega,by omega⟩
   have hl:=zpa m' _ hq
   refine⟨by omega,by rw[←zAv];exact hqq m' _ rfl hq,by omega,o2,?_,?_⟩
   ·rw[←kf,YZ,o1,qy,qy]
    simp only[zi,zq]
    omega
   ·rw[hr,←kf,YZ,YZ,o1,hst,if_neg h,Ju]
 ·cases h
def zxS(_:Int):Prop:=False
theorem zws:yZ Tryz.prog 46 (Kk YZ zxS):=by
 intro args ps r h hp
 unfold Kk at h
 split at h
 ·simp only[za,zb]at h
  obtain⟨rfl,rfl⟩:=h
  exact((zo.1 hp).1:False).elim
 ·cases h
theorem zqg:∀m:Nat,yZ Tryz.prog 46 (Kk YZ (zig m))
 |0=>znr 0 zxS zws fun m' _ h=>by omega
 |m+1=>znr (m+1) (zig m) (zqg m) fun m' _ h hq=>by
  have:m'=m:=by omega
  rw[this]at hq
  exact hq
def zgi(n:Int):Prop:=0≤n∧n<1000000000
theorem zi9:yZ Tryz.prog 46 (Kk YZ zgi):=by
 intro args ps r h hp
 have h0:=h
 unfold Kk at h
 split at h
 ·rename_i a0
  simp only[za,zb]at h
  obtain⟨rfl,rfl⟩:=h
  obtain⟨k1,k2⟩:zgi a0:=(zo.1 hp).1
  exact zqg 8 _ _ _ rfl (zo.2 ⟨⟨k1,by omega,by omega⟩,fun q hq=>by cases hq⟩)
 ·cases h
end Go.Ax
namespace Go.Ax
open Go.Proofs
def ZH:UInt8→List Int→By
 |_,[]=>[]
 |c,y::l=>c::(kC y++ZH 44 l)
theorem zqf:∀(c:UInt8) (l:List Int) (y:Int),ZH c (l++[y])=ZH c l++(if l=[]then c else 44)::kC y
 |c,[],y=>by simp[ZH]
 |c,x::l,y=>by
  rw[zL,ZH,zqf 44 l y,ZH,if_neg (List.cons_ne_nil x l),zL,zS,ite_self]
theorem zf5(c:UInt8):∀(x:Int) (l:List Int),ZH c (x::l)=c::jC 44 ((x::l).map kC)
 |x,[]=>by simp[ZH,jC]
 |x,y::l=>by
  rw[ZH,zf5 44 y l]
  rfl
def uv(xs:List Int):By:=40::(kC (xs.getD 0 0)++(ZH 59 (xs.drop 1)++[41]))
def zbm(a:List V):ByteArray:=T (uv (yV a))
def okN(xs:List Int):Prop:=∀x∈xs,0≤x∧x<1000000000
def zih(a:List V):Prop:=∃xs,a=I xs∧xs≠[]∧xs.length≤3000000∧okN xs
theorem Ki{x:Int}(h:0≤x∧x<1000000000):(kC x).length≤9:=zpa 8 x ⟨h.1,by omega,by omega⟩
theorem zmc:∀(c:UInt8) (l:List Int),okN l→(ZH c l).length≤10*l.length
 |_,[],_=>by simp[ZH]
 |c,y::l,h=>by
  have h1:=Ki (h y (yi ..))
  have h2:=zmc 44 l fun x hx=>h x (zp _ hx)
  rw[ZH,zi,zk,zi]
  omega
def ziR(f:List V→ByteArray)(q:List V→Prop):zQ:=fun
 |[.agg [.slc false 2 (.int .i64 0) a0]]=>some ([q a0],.str (f a0))
 |_=>none
theorem zhj:yZ Tryz.prog 45 (ziR zbm zih):=by
 intro args ps r h hp
 unfold ziR at h
 split at h
 ·rename_i a0
  simp only[za,zb]at h
  obtain⟨rfl,rfl⟩:=h
  obtain⟨xs,hxs,hne,hxl,hok⟩:zih a0:=(zo.1 hp).1
  obtain⟨n,hn⟩:∃n:Int,n=xs.length:=⟨_,rfl⟩
  have hal:(a0.length:Int)=n:=by rw[hxs,zm,hn]
  have hpos:0<xs.length:=qk.2 hne
  have hf0:zbm a0=T (uv xs):=by rw[zbm,hxs,zB]
  have hg:∀t:Nat,a0.getD t (.int .i64 0)=.int .i64 (xs.getD t 0):=fun t=>by rw[hxs,zT]
  generalize kf:YZ=Zd
  generalize ZQ:zgi=zaE
  refine zO (T:=tab) (B:=[(46,Kk Zd zaE)]) (Bi:=[]) [0,1,2,3,4,5] Tryz.func45 rfl rfl (by kernel_rfl) (zh rfl) mixed yd (by subst kf ZQ;exact(zt zi9 zH)) (by subst kf ZQ;exact zE) (by kernel_rfl) ?_
  intro L lp rr hL hr hf hlp
  have Q0:∀t:Nat,t<xs.length→zaE (xs.getD t 0):=fun t ht=>by
   rw[←ZQ,zd,ze ht]
   exact hok _ (ye _)
  have L0:∀t:Nat,t<xs.length→(Zd (xs.getD t 0)).size≤9:=fun t ht=>by
   rw[←kf,YZ,qy]
   refine Ki ?_
   rw[zd,ze ht]
   exact hok _ (ye _)
  conv=>cbv
  simp only[zr hL,sQ,hal,hg,true_and]
  refine⟨yN _,by omega,Q0 0 hpos,by have:=L0 0 hpos;rw[show(⟨⟨[40]⟩⟩:ByteArray).size=1 from rfl];omega,?_⟩
  rw[show(⟨⟨[40]⟩⟩:ByteArray)++Zd (xs.getD 0 0)=T (40::kC (xs.getD 0 0))from by rw[←kf];exact Ju [40] _]
  obtain⟨t0,ht0⟩:∃t0,t0=40::kC (xs.getD 0 0):=⟨_,rfl⟩
  rw[←ht0]
  refine hlp (By×Int) _ _ _ [1,3,4] (fun x=>[(1,none,.val (.box 46 (.agg [.slc false 2 (.int .i64 0) a0]))),(3,none,.val (.str (T x.1))),(4,none,.val (.int .i64 x.2))])
   (fun x=>1≤x.2∧x.2≤n∧x.1=t0++ZH 59 ((xs.take x.2.toNat).drop 1)) (fun x=>(n-x.2).toNat) ((t0,1)) (by subst hL;rfl) ?_ ?_
  ·refine⟨by simp,by simp only;omega,?_⟩
   have:(xs.take 1).drop 1=[]:=jF (by rw[zD];omega)
   simp only
   rw[show(1:Int).toNat=1 from rfl,this,ZH,List.append_nil]
  rintro⟨tx,x⟩ ⟨x1,x2,hx⟩ hfx ag hag
  simp only at x1 x2 hx
  obtain⟨tv,htv⟩:∃tv,tv=T tx:=⟨_,rfl⟩
  simp only[←htv]
  conv=>cbv
  simp only[zr hL,sQ,hal,hg]
  have hokd:okN ((xs.take x.toNat).drop 1):=fun y hy=>hok y (List.mem_of_mem_take (List.mem_of_mem_drop hy))
  have t0l:t0.length≤10:=by
   have:=L0 0 hpos
   rw[←kf,YZ,qy]at this
   rw[ht0,zi]
   omega
  have txl:tx.length≤10+10*n:=by
   have h1:=zmc 59 _ hokd
   rw[zP,zD]at h1
   rw[hx,zk]
   omega
  have tsz:(tv.size:Int)=tx.length:=by rw[htv,qy]
  have s59:(⟨⟨[59]⟩⟩:ByteArray).size=1:=rfl
  have s44:(⟨⟨[44]⟩⟩:ByteArray).size=1:=rfl
  have s41:(⟨⟨[41]⟩⟩:ByteArray).size=1:=rfl
  have hsn:∀h:x<n,(xs.take (x+1).toNat).drop 1=(xs.take x.toNat).drop 1++[xs.getD x.toNat 0]:=fun h=>by
   rw[yj (by omega),zC (by omega),List.drop_append_of_le_length (by rw[zD];omega),zd,ze (by omega)]
   rfl
  have hem:(xs.take x.toNat).drop 1=[]↔x=1:=by
   rw[List.drop_eq_nil_iff,zD]
   omega
  have hj:∀(h:x<n) (c:UInt8),(if x=1 then 59 else 44)=c→tv++T [c]++Zd (xs.getD x.toNat 0)=T (t0++ZH 59 ((xs.take (x+1).toNat).drop 1)):=fun h c hc=>by
   have hc':(if(xs.take x.toNat).drop 1=[]then(59:UInt8)else 44)=c:=by
    by_cases e:x=1
    ·rw[if_pos (hem.2 e)];rw[if_pos e]at hc;exact hc
    ·rw[if_neg (fun h2=>e (hem.1 h2))];rw[if_neg e]at hc;exact hc
   rw[hsn h,zqf,hc',←kf,YZ,htv,Ju,Ju,hx,zS,zS]
   rfl
  refine⟨fun h2=>⟨fun h3=>⟨by rw[tsz,s59];omega,by omega,h2,Q0 _ (by omega),?_,?_⟩,fun h3=>⟨by rw[tsz,s44];omega,by omega,h2,Q0 _ (by omega),?_,?_⟩⟩,fun h2=>⟨by rw[tsz,s41];omega,?_⟩⟩
  ·have:=L0 x.toNat (by omega)
   rw[ByteArray.size_append,s59,Int.natCast_add,tsz];omega
  ·rw[zl (n:=x+1) (by omega) (by omega),show tv++(⟨⟨[59]⟩⟩:ByteArray)++Zd (xs.getD x.toNat 0)=T (t0++ZH 59 ((xs.take (x+1).toNat).drop 1))from hj h2 59 (if_pos h3)]
   exact hag (_,x+1) ⟨by simp only;omega,by simp only;omega,rfl⟩ (by simp only;omega)
  ·have:=L0 x.toNat (by omega)
   rw[ByteArray.size_append,s44,Int.natCast_add,tsz];omega
  ·rw[zl (n:=x+1) (by omega) (by omega),show tv++(⟨⟨[44]⟩⟩:ByteArray)++Zd (xs.getD x.toNat 0)=T (t0++ZH 59 ((xs.take (x+1).toNat).drop 1))from hj h2 44 (if_neg h3)]
   exact hag (_,x+1) ⟨by simp only;omega,by simp only;omega,rfl⟩ (by simp only;omega)
  ·rw[hr,hf0,show(⟨⟨[41]⟩⟩:ByteArray)=T [41]from rfl,htv,Ju,hx,show x.toNat=xs.length by omega,zu (zn _),uv,ht0]
   simp only[zL,zS]
 ·cases h
end Go.Ax
namespace Go.Ax
open Go.Proofs
def qZ(c:By×By×Bool):List Int:=jb c.1::(if c.2.2=true then(yc 44 c.2.1).map jb else[])
def uI(l:By):By:=(l.take (l.length-1)).drop 1
def zrQ(l:By):Prop:=3≤l.length∧l.getD 0 0=40∧l.getD (l.length-1) 0=41
instance (l:By):Decidable (zrQ l):=by unfold zrQ;infer_instance
def uT(l:By):Option (List Int):=if zrQ l∧qK (qZ (qE 59 (uI l)))=true then some (qZ (qE 59 (uI l)))else none
def zie(r:Option (List Int)):List V×Int:=match r with
 |some xs=>(I xs,0)
 |none=>([],6)
def zgt(s:ByteArray):List V×Int:=zie (uT s.data.toList)
def zhJ(f:ByteArray→List V×Int)(q:ByteArray→Prop):zQ:=fun
 |[.str a0]=>some ([q a0],.tup [.agg [.slc true 2 (.int .i64 0) ((f a0).1)],.int .i64 ((f a0).2)])
 |_=>none
theorem zm5:∀{l:List Int} {a b:Int},jE l a b=true→∀x∈l,a≤x∧x≤b
 |[],_,_,_,x,hx=>by cases hx
 |y::l,a,b,h,x,hx=>by
  simp only[jE,yE,jU,zg,decide_eq_true_eq]at h
  rcases zA.1 hx with e|e
  ·rw[e];exact h.1
  ·exact zm5 h.2 x e
theorem zhx{xs:List Int}(h:qK xs=true):∀x∈xs,1≤x∧x≤2000:=by
 unfold qK at h
 cases h1:jE xs 1 2000 with
 |true=>
  intro x hx
  exact zm5 h1 x hx
 |false=>rw[h1]at h;simp at h
theorem zjz:yZ Tryz.prog 20 (zhJ zgt ZU):=by
 intro args ps r h hp
 unfold zhJ at h
 split at h
 ·rename_i s
  simp only[za,zb]at h
  obtain⟨rfl,rfl⟩:=h
  have hs:ZU s:=(zo.1 hp).1
  have hs':s.size≤2000000000:=hs
  obtain⟨l,hl⟩:∃l,l=s.data.toList:=⟨_,rfl⟩
  have hsl:s=T l:=by rw[hl];exact zg5 s
  have hsz:s.size=l.length:=by rw[hsl,qy]
  have hf0:zgt s=zie (uT l):=by rw[zgt,←hl]
  obtain⟨n,hn⟩:∃n:Int,n=l.length:=⟨_,rfl⟩
  have gs:∀i,s.data.getD i 0=l.getD i 0:=fun i=>by rw[hsl,zli]
  generalize JQ:zgs=zaG
  generalize jA:Ke=Zb
  generalize zdo:zeE=zeS
  generalize jr:ZU=uo
  generalize zdp:zn0=zhZ
  generalize qG:kP=jv
  generalize qj:uU=km
  refine zO (T:=tab) (B:=[(18,zfz zaG Zb),(47,zob zeS uo),(21,zla zhZ Zb),(34,YP jv km)]) (Bi:=[]) [0,2,3,4,5,6,7,8,9,10,11] Tryz.func20 rfl rfl (by kernel_rfl) (zh rfl) mixed yd (by subst JQ jA zdo jr zdp qG qj;exact(zt zed (zt zgc (zt ze5 (zt zge zH))))) (by subst JQ jA zdo jr zdp qG qj;exact zE) (by kernel_rfl) ?_
  intro L lp rr hL hr hf hlp
  conv=>cbv
  simp only[zr hL,sQ,hsz,←hn,gs]
  by_cases hn3:n<3
  ·refine⟨fun h=>absurd hn3 h,fun h=>absurd hn3 h,fun h=>absurd hn3 h.1,fun h=>absurd hn3 h.1,fun _=>?_,fun h=>absurd hn3 h.1.1⟩
   rw[hr,hf0,uT,if_neg (fun h=>by have:=h.1.1;omega)]
   rfl
  have hw:IntKind.wrap .i64 (n-1)=n-1:=zl (by omega) (by omega)
  have hex:s.extract 1 (n-1).toNat=T (uI l):=by rw[hsl,zgG,uI,show(n-1).toNat=l.length-1 by omega]
  rw[hw,hex]
  have b40:((l.getD 0 0).toNat:Int)=40↔l.getD 0 0=40:=zbX l 0 40
  have b41:((l.getD (n-1).toNat 0).toNat:Int)=41↔l.getD (l.length-1) 0=41:=by
   rw[show(n-1).toNat=l.length-1 by omega]
   exact zbX l _ 41
  have hml:(uI l).length≤l.length:=by rw[uI,zP,zD];omega
  rw[b40,b41]
  obtain⟨c,hc⟩:∃c,c=qE 59 (uI l):=⟨_,rfl⟩
  have Ep:zaG (T (uI l)) 59=(T c.1,T c.2.1,c.2.2):=by rw[←JQ,hc];rfl
  have hshp:zrQ l↔l.getD 0 0=40∧l.getD (l.length-1) 0=41:=⟨fun h=>h.2,fun h=>⟨by omega,h⟩⟩
  rw[Ep]
  simp only
  have hcl:c.1.length≤(uI l).length∧c.2.1.length≤(uI l).length:=by
   rcases YJ 59 (uI l)with⟨_,h2,_⟩|⟨a,b,h1,_,h2,_⟩
   ·rw[hc,h2];exact⟨zn _,kQ _⟩
   ·rw[hc,h2,h1];simp only[zk,zi];omega
  refine⟨fun _=>yN _,fun _=>by omega,fun _=>by omega,fun _=>by omega,fun h=>?_,fun h=>⟨by omega,by omega,by omega,?_,?_,?_⟩⟩
  ·rw[hr,hf0,uT,if_neg (fun h2=>by
    have:=hshp.1 h2.1
    rcases h with(h|h)|h
    ·omega
    ·exact h this.1
    ·exact h this.2)]
   rfl
  ·rw[←jA];exact⟨by rw[qy];omega,59,rfl⟩
  ·rw[←jr];show(T c.1).size≤2000000000;rw[qy];omega
  have hpar:uT l=if qK (qZ c)=true then some (qZ c)else none:=by
   rw[uT,←hc]
   by_cases e:qK (qZ c)=true
   ·rw[if_pos ⟨hshp.2 ⟨h.1.2,h.2⟩,e⟩,if_pos e]
   ·rw[if_neg (fun h2=>e h2.2),if_neg e]
  have hno:qK (qZ c)=false→rr=V.tup [.agg [.slc true 2 (.int .i64 0) []],.int .i64 6]:=fun e=>by
   rw[hr,hf0,hpar,if_neg (by rw[e];simp)]
   rfl
  have hyes:qK (qZ c)=true→rr=V.tup [.agg [.slc true 2 (.int .i64 0) (I (qZ c))],.int .i64 0]:=fun e=>by
   rw[hr,hf0,hpar,if_pos e]
   rfl
  have hmem:∀w,uk w=false→jb w∈qZ c→qK (qZ c)=false:=fun w hw hm=>by
   cases e:qK (qZ c)with
   |false=>rfl
   |true=>
    have:=(zhx e _ hm).1
    rw[jb,if_neg (by rw[hw];simp)]at this
    omega
  obtain⟨n1,n2⟩:=zx5 (s:=T c.1)
  rw[show(T c.1).data.toList=c.1 from rfl,zdo]at n1 n2
  have Es:zhZ (T c.2.1) 44=(I (ZW (yc 44 c.2.1)).1,(ZW (yc 44 c.2.1)).2):=by rw[←zdp];rfl
  have sl:=JT 44 c.2.1
  have Eb:∀xs,jv (I xs)=qK xs:=fun xs=>by rw[←qG,kP,zB]
  have Ei:∀xs:List Int,xs.length≤2147483647→km (I xs):=fun xs hx=>by rw[←qj];exact⟨⟨xs,rfl⟩,by rw[zm];exact hx⟩
  have ei1:∀x:Int,[V.int .i64 x]=I [x]:=fun x=>rfl
  obtain⟨nv,hnv⟩:∃nv,nv=(zeS (T c.1)).1:=⟨_,rfl⟩
  have En:zeS (T c.1)=(nv,uk c.1):=by rw[hnv];exact Prod.ext rfl n1
  rw[←hnv]at n2
  rw[En,Es]
  simp only[ei1,jS,zN,Eb,zm,yr]
  cases e1:uk c.1 with
  |false=>
   have e2:qK (qZ c)=false:=hmem _ e1 (yi ..)
   exact⟨fun h=>by simp at h,fun _=>⟨fun h=>by simp at h,fun _=>(hno e2).symm,fun h=>by simp at h⟩⟩
  |true=>
   rw[n2 e1]
   refine⟨fun h1=>?_,fun h1=>?_⟩
   ·have ht:qZ c=jb c.1::(yc 44 c.2.1).map jb:=by rw[qZ,if_pos h1.2]
    have hnl:(ZW (yc 44 c.2.1)).1.length≤(yc 44 c.2.1).length:=by
     rw[ZW]
     split
     ·rw[zy];exact zn _
     ·exact kQ _
    have hgood:(ZW (yc 44 c.2.1)).2=true→[jb c.1]++(ZW (yc 44 c.2.1)).1=qZ c:=fun h2=>by
     rw[ht]
     rw[ZW]at h2 ⊢
     split at h2
     ·rename_i h3;rw[if_pos h3];rfl
     ·cases h2
    have hbad:(ZW (yc 44 c.2.1)).2=false→qK (qZ c)=false:=fun h2=>by
     rw[ZW]at h2
     split at h2
     ·cases h2
     ·rename_i h3
      obtain⟨w,hw1,hw2⟩:∃w∈yc 44 c.2.1,uk w=false:=by
       refine Classical.byContradiction fun hx=>h3 (zZ.2 fun w hw1=>?_)
       cases h4:uk w with
       |true=>rfl
       |false=>exact absurd ⟨w,hw1,h4⟩ hx
      refine hmem w hw2 ?_
      rw[ht]
      exact zp _ (ZL hw1)
    refine⟨?_,zfM _,?_,zhS _,fun h2=>?_,fun h2=>?_,fun h2=>?_⟩
    ·rw[←jA];exact⟨by rw[qy];omega,44,rfl⟩
    ·omega
    ·refine Ei _ ?_
     rw[zk,yr];omega
    ·rcases h2 with h2|h2
     ·exact(hno (hbad h2)).symm
     ·cases h3:(ZW (yc 44 c.2.1)).2 with
      |false=>exact(hno (hbad h3)).symm
      |true=>rw[hgood h3]at h2;exact(hno h2).symm
    ·rw[hgood h2.1]at h2 ⊢
     exact(hyes h2.2).symm
   ·have h1':c.2.2=false:=by
     rcases h1 with h1|h1
     ·cases h1
     ·exact h1
    have ht:qZ c=[jb c.1]:=by rw[qZ,if_neg (by rw[h1'];simp)]
    rw[ht]at hno hyes
    refine⟨fun _=>Ei _ (by simp),fun h2=>?_,fun h2=>(hyes h2.2).symm⟩
    rcases h2 with h2|h2
    ·cases h2
    ·exact(hno h2).symm
 ·cases h
end Go.Ax
namespace Go.Ax
open Go.Proofs
theorem zyo(m:By):(yc 59 m=[m]∧qZ (qE 59 m)=[jb m])∨(∃a b,m=a++59::b∧yc 59 m=[a,b]∧qZ (qE 59 m)=jb a::(yc 44 b).map jb)∨(2<(yc 59 m).length∧qK (qZ (qE 59 m))=false):=by
 rcases YJ 59 m with⟨h1,h2,h3⟩|⟨a,b,h1,h2,h3,h4⟩
 ·exact .inl ⟨h3,by rw[h2,qZ,if_neg (by simp)]⟩
 ·refine .inr ?_
  have ht:qZ (qE 59 m)=jb a::(yc 44 b).map jb:=by rw[h3,qZ,if_pos rfl]
  by_cases hb:(59:UInt8)∈b
  ·refine .inr ⟨?_,?_⟩
   ·rw[h4,zi]
    obtain⟨x,y,e,hx⟩:∃x y,b=x++59::y∧(59:UInt8)∉x:=by
     rcases YJ 59 b with⟨k1,_⟩|⟨x,y,k1,k2,_⟩
     ·exact absurd hb k1
     ·exact⟨x,y,k1,k2⟩
    have:=qk.2 (Yu 59 y)
    rw[e,ze0 y hx,zi]
    omega
   ·obtain⟨w,hw,hd⟩:=zju (c:=44) (d:=59) (by decide) hb
    cases e:qK (qZ (qE 59 m))with
    |false=>rfl
    |true=>
     have h5:=(zhx e (jb w) (by rw[ht];exact zp _ (ZL hw))).1
     rw[jb,if_neg (by rw[ztl hd (by decide)];simp)]at h5
     omega
  ·exact .inl ⟨a,b,h1,by rw[h4,Kc hb],ht⟩
theorem ztf{w:By}(h:1≤jb w):kC (jb w)=w:=zvB (zoT (by omega))
theorem zvb:∀{ws:List By},(∀w∈ws,1≤jb w)→(ws.map jb).map kC=ws
 |[],_=>rfl
 |w::ws,h=>by
  rw[yC,yC,ztf (h w (yi ..)),zvb fun v hv=>h v (zp _ hv)]
theorem zxM{b:By}(h:∀w∈yc 44 b,1≤jb w):ZH 59 ((yc 44 b).map jb)=59::b:=by
 have hj:=zcn 44 b
 have hm:=zvb h
 cases e:yc 44 b with
 |nil=>exact absurd e (Yu 44 b)
 |cons w ws=>
  rw[e]at hj hm
  rw[yC]at hm ⊢
  rw[zf5,hm,hj]
theorem zuJ{m:By}(h:qK (qZ (qE 59 m))=true):uv (qZ (qE 59 m))=40::(m++[41]):=by
 have hi:=zhx h
 rcases zyo m with⟨_,h2⟩|⟨a,b,h1,_,h2⟩|⟨_,h2⟩
 ·rw[h2]at hi ⊢
  have:=ztf (hi _ (yi ..)).1
  simp only[uv,yL,uC,qY,ZH,this,qf]
 ·rw[h2]at hi ⊢
  have e1:=ztf (hi _ (yi ..)).1
  have e2:=zxM (b:=b) fun w hw=>(hi _ (zp _ (ZL hw))).1
  simp only[uv,yL,uC,qY,e1,e2]
  rw[h1]
  simp
 ·rw[h]at h2;cases h2
theorem zym{l:By}(h:2≤l.length)(h1:l.getD 0 0=40)(h2:l.getD (l.length-1) 0=41):l=40::(uI l++[41]):=by
 obtain⟨x,r,rfl⟩:∃x r,l=x::r:=by
  cases l with
  |nil=>simp at h
  |cons x r=>exact⟨x,r,rfl⟩
 rw[yL]at h1
 rw[zi]at h
 have hr:r≠[]:=fun e=>by rw[e]at h;simp at h
 have hl:r.getLast hr=41:=by
  rw[zi,yQ,zd,ze (by simp)]at h2
  rw[List.getLast_eq_getElem]
  have:r.length=(r.length-1)+1:=by have:=qk.2 hr;omega
  simp only[List.getElem_cons]at h2
  split at h2
  ·omega
  ·simpa using h2
 have hk:uI (x::r)=r.dropLast:=by
  rw[uI,zi,yQ,List.dropLast_eq_take]
  have:r.length=(r.length-1)+1:=by have:=qk.2 hr;omega
  rw[this,jO,uC,qY,yQ]
 rw[hk,h1,←hl,ZO hr]
theorem zCE{l:By}(h:2≤l.length)(h1:l.getD 0 0=40)(h2:l.getD (l.length-1) 0=41):uT l=if qK (qZ (qE 59 (uI l)))=true then some (qZ (qE 59 (uI l)))else none:=by
 rw[uT]
 by_cases e:qK (qZ (qE 59 (uI l)))=true
 ·have h3:3≤l.length:=by
   refine Nat.lt_of_le_of_ne h fun h3=>?_
   have hm:uI l=[]:=by rw[uI,←h3];exact jF (by rw[zD];omega)
   rw[hm]at e
   revert e
   decide
  rw[if_pos e,if_pos ⟨⟨h3,h1,h2⟩,e⟩]
 ·rw[if_neg e,if_neg (fun h2=>e h2.2)]
theorem zjy:yZ Tryz.prog 29 (zhJ zgt ZU):=by
 intro args ps r h hp
 unfold zhJ at h
 split at h
 ·rename_i s
  simp only[za,zb]at h
  obtain⟨rfl,rfl⟩:=h
  have hs:ZU s:=(zo.1 hp).1
  have hs':s.size≤2000000000:=hs
  obtain⟨l,hl⟩:∃l,l=s.data.toList:=⟨_,rfl⟩
  have hsl:s=T l:=by rw[hl];exact zg5 s
  have hsz:s.size=l.length:=by rw[hsl,qy]
  have hf0:zgt s=zie (uT l):=by rw[zgt,←hl]
  obtain⟨n,hn⟩:∃n:Int,n=l.length:=⟨_,rfl⟩
  have gs:∀i,s.data.getD i 0=l.getD i 0:=fun i=>by rw[hsl,zli]
  generalize uD:zbj=Yq
  generalize jA:Ke=Zb
  generalize zbJ:zhB=zfW
  generalize jr:ZU=uo
  generalize qG:kP=jv
  generalize qj:uU=km
  generalize JR:zbm=Kw
  generalize JP:zih=zb2
  refine zO (T:=tab) (B:=[(28,zdW Yq Zb),(30,zoc zfW uo),(42,YP jv km),(45,ziR Kw zb2)]) (Bi:=[]) [0,2,3,4,5,6,7,8] Tryz.func29 rfl rfl (by kernel_rfl) (zh rfl) mixed yd (by subst uD jA zbJ jr qG qj JR JP;exact(zt zf9 (zt zf8 (zt KM (zt zhj zH))))) (by subst uD jA zbJ jr qG qj JR JP;exact zE) (by kernel_rfl) ?_
  intro L lp rr hL hr hf hlp
  conv=>cbv
  simp only[zr hL,sQ,hsz,←hn,gs]
  by_cases hn2:n<2
  ·refine⟨fun h=>absurd hn2 h,fun h=>absurd hn2 h,fun h=>absurd hn2 h.1,fun h=>absurd hn2 h.1,fun _=>?_,fun h=>absurd hn2 h.1.1⟩
   rw[hr,hf0,uT,if_neg (fun h=>by have:=h.1.1;omega)]
   rfl
  have hw:IntKind.wrap .i64 (n-1)=n-1:=zl (by omega) (by omega)
  have hex:s.extract 1 (n-1).toNat=T (uI l):=by rw[hsl,zgG,uI,show(n-1).toNat=l.length-1 by omega]
  rw[hw,hex]
  have b40:((l.getD 0 0).toNat:Int)=40↔l.getD 0 0=40:=zbX l 0 40
  have b41:((l.getD (n-1).toNat 0).toNat:Int)=41↔l.getD (l.length-1) 0=41:=by
   rw[show(n-1).toNat=l.length-1 by omega]
   exact zbX l _ 41
  rw[b40,b41]
  have hml:(uI l).length≤l.length:=by rw[uI,zP,zD];omega
  obtain⟨hv,hhv⟩:∃hv,hv=yc 59 (uI l):=⟨_,rfl⟩
  have Ew:Yq (T (uI l)) 59=Zs hv:=by rw[←uD,hhv];rfl
  rw[Ew]
  simp only[uw,zb0,zci,zau]
  have hvl:0<hv.length:=by
   rw[hhv]
   exact qk.2 (Yu 59 _)
  have Qm:∀w:By,w.length≤l.length→uo (T w):=fun w hw=>by rw[←jr];show(T w).size≤2000000000;rw[qy];omega
  have hvw:∀w∈hv,w.length≤l.length:=fun w hw=>by
   rw[hhv]at hw
   exact Nat.le_trans (YE 59 _ w hw) hml
  have hget:∀k,k<hv.length→hv.getD k []∈hv:=fun k hk=>by
   rw[zd,ze hk]
   exact ye _
  refine⟨fun _=>yN _,fun _=>by omega,fun _=>by omega,fun _=>by omega,fun h=>?_,fun h=>⟨by omega,by omega,by omega,?_,yN _,by omega,hvl,trivial,Qm _ (hvw _ (hget 0 hvl)),?_⟩⟩
  ·rw[hr,hf0,uT,if_neg (fun h2=>by
    have:=h2.1
    rcases h with(h|h)|h
    ·omega
    ·exact h this.2.1
    ·exact h this.2.2)]
   rfl
  ·rw[←jA];exact⟨by rw[qy];omega,59,rfl⟩
  have hpar:=zCE (l:=l) (by omega) h.1.2 h.2
  have hlt:qK (qZ (qE 59 (uI l)))=true→uv (qZ (qE 59 (uI l)))=l:=fun h2=>by
   rw[zuJ h2];exact(zym (by omega) h.1.2 h.2).symm
  have hcs:=zyo (uI l)
  rw[←hhv]at hcs
  obtain⟨ts,hts⟩:∃ts,ts=qZ (qE 59 (uI l)):=⟨_,rfl⟩
  rw[←hts]at hpar hlt hcs
  have hno:qK ts=false→rr=V.tup [.agg [.slc true 2 (.int .i64 0) []],.int .i64 6]:=fun e=>by
   rw[hr,hf0,hpar,if_neg (by rw[e];simp)]
   rfl
  have hyes:qK ts=true→rr=V.tup [.agg [.slc true 2 (.int .i64 0) (I ts)],.int .i64 0]:=fun e=>by
   rw[hr,hf0,hpar,if_pos e]
   rfl
  have fin:∀xs:List Int,xs.length≤2000000002→(¬2<hv.length→ts=xs)→(¬(2:Int)<hv.length→km (I xs))∧(¬(2:Int)<hv.length∧jv (I xs)=true→zb2 (I xs))∧(((2:Int)<hv.length∨jv (I xs)=false)∨¬(Kw (I xs)).toList=s.toList→V.tup [.agg [.slc true 2 (.int .i64 0) []],.int .i64 6]=rr)∧((¬(2:Int)<hv.length∧jv (I xs)=true)∧(Kw (I xs)).toList=s.toList→V.tup [.agg [.slc true 2 (.int .i64 0) (I xs)],.int .i64 0]=rr):=fun xs hxl hx=>by
   have Eb:jv (I xs)=qK xs:=by rw[←qG,kP,zB]
   have Et:Kw (I xs)=T (uv xs):=by rw[←JR,zbm,zB]
   rw[Eb,Et]
   refine⟨fun _=>by rw[←qj];exact⟨⟨xs,rfl⟩,by rw[zm];omega⟩,fun h2=>?_,fun h2=>?_,fun h2=>?_⟩
   ·rw[←JP]
    have hi:=zhx h2.2
    refine⟨xs,rfl,fun e=>?_,?_,fun x hx2=>by have:=hi x hx2;omega⟩
    ·rw[e]at h2;simp[qK]at h2
    ·have:=(Kl h2.2).len;omega
   ·refine(hno ?_).symm
    rcases hcs with⟨k1,_⟩|⟨a,b,_,k1,_⟩|⟨_,k2⟩
    all_goals first|exact k2|skip
    all_goals
     have hle:¬2<hv.length:=by rw[k1];simp
     rcases h2 with(h2|h2)|h2
     ·omega
     ·rw[hx hle];exact h2
     ·cases e:qK ts with
      |false=>rfl
      |true=>exact absurd (by rw[←hx hle,hlt e,←hsl]) h2
   ·have hle:¬2<hv.length:=by have:=h2.1.1;omega
    rw[←hx hle]at h2 ⊢
    exact(hyes h2.1.2).symm
  have Ev:∀w:By,zfW (T w)=jb w:=fun w=>by rw[←zbJ];rfl
  have ei1:∀x:Int,[V.int .i64 x]=I [x]:=fun x=>rfl
  have hv0:ts=jb (hv.getD 0 [])::((if hv.length=2 then(yc 44 (hv.getD 1 [])).map jb else[]))∨2<hv.length:=by
   rcases hcs with⟨k1,k2⟩|⟨a,b,_,k1,k2⟩|⟨k2,_⟩
   ·rw[k1,k2];exact .inl rfl
   ·rw[k1,k2];exact .inl rfl
   ·exact .inr k2
  refine⟨fun h2=>?_,fun h2=>?_⟩
  ·obtain⟨wb,hwb⟩:∃wb,wb=hv.getD 1 []:=⟨_,rfl⟩
   have hwbl:wb.length≤l.length:=by rw[hwb];exact hvw _ (hget 1 (by omega))
   obtain⟨ws,hws⟩:∃ws,ws=yc 44 wb:=⟨_,rfl⟩
   have Ew2:Yq (T wb) 44=Zs ws:=by rw[←uD,hws];rfl
   rw[←hwb]
   rw[Ew2,Ev,ei1]
   refine⟨by omega,by omega,by omega,trivial,by rw[←jA];exact⟨by rw[qy];omega,44,rfl⟩,?_⟩
   obtain⟨vw,hvw2⟩:∃vw,vw=Zs ws:=⟨_,rfl⟩
   obtain⟨vz,hvz⟩:∃vz,vz=Zs hv:=⟨_,rfl⟩
   rw[←hvw2,←hvz]
   have hvzl:vz.length=hv.length:=by rw[hvz,uw]
   have hvwl:vw.length=ws.length:=by rw[hvw2,uw]
   obtain⟨x0,hx0⟩:∃x0,x0=jb (hv.getD 0 []):=⟨_,rfl⟩
   rw[←hx0]
   refine hlp (List V×Int) _ _ _ [0,2,3,5,6,7,8] (fun x=>[(0,none,.val (.str s)),(2,none,.val (.box 46 (.agg [.slc true 2 (.int .i64 0) []]))),(3,none,.val (.int .i64 0)),(5,none,.val (.slc true 9 (.str ⟨#[]⟩) vz)),(6,none,.val (.box 46 (.agg [.slc true 2 (.int .i64 0) x.1]))),(7,none,.val (.slc true 9 (.str ⟨#[]⟩) vw)),(8,none,.val (.int .i64 x.2))])
    (fun x=>0≤x.2∧x.2≤ws.length∧x.1=I (x0::(ws.take x.2.toNat).map jb)) (fun x=>(ws.length-x.2).toNat) ((I [x0],0)) (by subst hL;rfl) ?_ ?_
   ·exact⟨by simp,by simp,rfl⟩
   rintro⟨es,x⟩ ⟨y0,y1,hes⟩ hfx ag hag
   simp only at y0 y1 hes
   conv=>cbv
   have gw:∀k,vw.getD k (.str ⟨#[]⟩)=.str (T (ws.getD k [])):=fun k=>by rw[hvw2,zb0]
   have hel:es.length=1+x.toNat:=by
    rw[hes,zm,zi,zy,zD];omega
   have hwsl:ws.length≤l.length+1:=by
    have:=JT 44 wb
    rw[hws];omega
   simp only[zr hL,sQ,hvzl,hvwl,gw,zci,zau,Ev,true_and,and_true]
   refine⟨fun h3=>⟨y0,h3,by omega,?_⟩,fun h3=>?_⟩
   ·have hxm:ws.getD x.toNat []∈ws:=by
     rw[zd,ze (by omega)]
     exact ye _
    refine⟨Qm _ (Nat.le_trans (YE 44 wb _ (by rw[←hws];exact hxm)) hwbl),rfl,?_,fun v hv=>?_,?_⟩
    ·rw[yr];omega
    ·simp only[zX]at hv;rw[hv];rfl
    ·rw[zl (n:=x+1) (by omega) (by omega),hes,ei1,jS]
     refine hag (_,x+1) ⟨by simp only;omega,by simp only;omega,?_⟩ (by simp only;omega)
     simp only[yj y0]
     rw[zC (by omega),List.map_append,zd,ze (by omega)]
     rfl
   ·rw[hes,zu (by omega),zN]
    refine fin _ ?_ fun h4=>?_
    ·rw[zi,zy];omega
    ·rcases hv0 with hv0|hv0
     ·rw[hv0,if_pos (by omega),←hwb,←hws,←hx0]
     ·exact absurd hv0 h4
  ·rw[Ev,ei1,zN]
   refine fin [jb (hv.getD 0 [])] (by simp) fun h3=>?_
   rcases hv0 with hv0|hv0
   ·rw[hv0,if_neg (by omega)]
   ·exact absurd hv0 h3
 ·cases h
end Go.Ax
