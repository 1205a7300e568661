import Derived.Test.YtlkdpcjakfhnoaaGreatB01q4
import Derived.Shelf.SlLaysN
import Derived.Test.YtlkdpcjakfhnoaaGreatProg
import Derived.Shelf.SlicesG.Reverse
import Derived.WalkKit
import Derived.Sort.WalkA
import Derived.Sort.WalkC
import Derived.Deep.LoopGhost
import Derived.Deep.QuietTactic
import Derived.BigRegion
import Derived.BigQuiet
set_option linter.all false
set_option maxRecDepth 100000
set_option maxHeartbeats 16000000
open Bool renaming and_eq_true→zh
open Int renaming mul_le_mul→JN,toNat_natCast→zC
open List renaming append_nil→yw,cons_append→zV,drop_eq_getElem_cons→Zc,eq_nil_of_length_eq_zero→yC,find?_range_eq_some→Zv,getD_cons_succ→qG,getD_cons_zero→jb,getD_eq_getElem?_getD→zd,getElem?_append_right→yn,getElem?_eq_getElem→ze,getElem?_eq_none→zI,getElem?_map→zH,getElem_mem→ya,length_append→zk,length_cons→zi,length_drop→yx,length_map→yh,length_nil→zr,length_reverse→QF,length_set→yj,length_take→zL,mem_append→yU,mem_cons→zE,mem_iff_getElem→qk,mem_range→kn,mem_singleton→yp,nodup_append→ze0,pairwise_append→zc0,pairwise_cons→kG,size_toArray→uF,take_append_drop→qK,take_left→zij,take_of_length_le→zB,take_succ_eq_append_getElem→zF
open Nat renaming le_of_ble_eq_true→zg,le_refl→zt,mul_le_mul_right→yZ,sub_self→jA
open Option renaming getD_some→jh
open Option.some renaming injEq→za
open Prod.mk renaming injEq→zb
/-
 Draws:sources of numbers. No conditions but those of the contracts.
-/
namespace Go.Ax
open Go.Proofs
def U8(xs:List Int):List V:=xs.map (.int .u8)
theorem zlX(xs:List Int)(i:Nat):(U8 xs).getD i (.int .u8 0)=.int .u8 (xs.getD i 0):=by
 simp only[U8,zd,zH]
 cases xs[i]? <;>rfl
def IsU(es:List V):Prop:=∃xs:List Int,es=U8 xs∧(∀x∈xs,0≤x∧x≤255)∧xs.length≤4096
def nxH(h:Int):Int:=IntKind.u64.wrap (IntKind.u64.wrap (h*6364136223846793005)+1442695040888963407)
def nxX(h:Int):Int:=IntKind.i64.wrap (zcS .u64 (zfK .u64 (nxH h) 33) 16777215)
theorem zzQ(a:Int):0≤zcS .u64 a 16777215∧zcS .u64 a 16777215≤16777215:=by
 have h:(BitVec.ofInt IntKind.u64.bits a&&&BitVec.ofInt IntKind.u64.bits 16777215).toNat≤16777215:=by
  rw[BitVec.toNat_and]
  exact Nat.le_trans Nat.and_le_right (by decide)
 rw[zcS,IntWalk.u64_in _ ⟨by omega,by omega⟩]
 omega
def jm(es:List V)(a h n:Int):Int:=if n<1 then 0 else(if a<es.length then IntKind.i64.wrap (nxX h+IntKind.i64.wrap ((es.getD a.toNat (.int .u8 0)).toI))else nxX h).tmod n
def jl(es:List V)(a _ n:Int):Int:=if n<1 then a else if a<es.length then a+1 else a
def jx(_:List V)(_ h n:Int):Int:=if n<1 then h else nxH h
def yi(es:List V)(a _:Int):Prop:=IsU es∧0≤a∧a≤es.length
def zdi(es:List V)(a h _:Int):Prop:=yi es a h
def zaX(f0 f1 f2:List V→Int→Int→Int→Int)(q:List V→Int→Int→Int→Prop):jz:=fun
 |[.box 71 (.agg [.slc false 5 (.int .u8 0) a0,.int .i64 a1,.int .u64 a2]),.int .i64 a3]=>some ([q a0 a1 a2 a3],.int .i64 (f0 a0 a1 a2 a3),.box 71 (.agg [.slc false 5 (.int .u8 0) a0,.int .i64 (f1 a0 a1 a2 a3),.int .u64 (f2 a0 a1 a2 a3)]))
 |_=>none
theorem zC8{es:List V}(h:IsU es)(i:Nat):0≤(es.getD i (.int .u8 0)).toI∧(es.getD i (.int .u8 0)).toI≤255:=by
 obtain⟨xs,hxs,hb,_⟩:=h
 rw[hxs,zlX]
 show 0≤xs.getD i 0∧xs.getD i 0≤255
 rw[zd]
 by_cases hi:i<xs.length
 ·rw[ze hi]
  exact hb _ (ya hi)
 ·rw[zI (by omega)]
  exact⟨by decide,by decide⟩
theorem YA{es:List V}{a h n:Int}(hq:yi es a h)(hn:1≤n):0≤jm es a h n∧jm es a h n<n:=by
 have h1:=zzQ (zfK .u64 (nxH h) 33)
 have h2:=zC8 hq.1 a.toNat
 have hx:nxX h=zcS .u64 (zfK .u64 (nxH h) 33) 16777215:=by rw[nxX,IntWalk.i64_in _ ⟨by omega,by omega⟩]
 rw[jm,if_neg (by omega)]
 have key:∀x:Int,0≤x→0≤x.tmod n∧x.tmod n<n:=fun x hx0=>⟨Int.tmod_nonneg _ hx0,Int.tmod_lt_of_pos _ (by omega)⟩
 split
 ·rw[IntWalk.i64_in (es.getD a.toNat (.int .u8 0)).toI ⟨by omega,by omega⟩,IntWalk.i64_in _ ⟨by omega,by omega⟩]
  exact key _ (by omega)
 ·exact key _ (by omega)
theorem uf{es:List V}{a h n:Int}(hq:yi es a h):yi es (jl es a h n) (jx es a h n):=by
 obtain⟨h1,h2,h3⟩:=hq
 refine⟨h1,?_,?_⟩
 ·rw[jl];split<;>(try split)<;>omega
 ·rw[jl];split<;>(try split)<;>omega
def QC(es:List V)(a h:Int)(l:List V):Int:=(qb l).getD (jm es a h l.length).toNat 0
def Ja(es:List V)(a h:Int)(l:List V):Int:=jl es a h l.length
def QZ(es:List V)(a h:Int)(l:List V):Int:=jx es a h l.length
def zfU(es:List V)(a h:Int)(l:List V):Prop:=yi es a h∧KF l∧1≤l.length∧l.length≤2147483647
def zfg(f0 f1 f2:List V→Int→Int→List V→Int)(q:List V→Int→Int→List V→Prop):jz:=fun
 |[.box 71 (.agg [.slc false 5 (.int .u8 0) a0,.int .i64 a1,.int .u64 a2]),.slc false 2 (.int .i64 0) a3]=>some ([q a0 a1 a2 a3],.int .i64 (f0 a0 a1 a2 a3),.box 71 (.agg [.slc false 5 (.int .u8 0) a0,.int .i64 (f1 a0 a1 a2 a3),.int .u64 (f2 a0 a1 a2 a3)]))
 |_=>none
theorem zbj{t:TypeId}{c:V}{a a' h h':Int}:Sh (.box t (.agg [c,.int .i64 a,.int .u64 h])) (.box t (.agg [c,.int .i64 a',.int .u64 h'])):=
 .box _ _ _ (.agg _ _ rfl fun i x y hx hy=>by
  match i with
  |0=>simp at hx hy;subst hx;subst hy;exact .refl _
  |1=>simp at hx hy;subst hx;subst hy;exact .scal _ _ rfl rfl
  |2=>simp at hx hy;subst hx;subst hy;exact .scal _ _ rfl rfl
  |n+3=>simp at hx)
theorem ki:zcY Tryz.prog 25 0 (zaX jm jl jx zdi):=by
 intro args ps r y h hp
 unfold zaX at h
 split at h
 ·rename_i a0 a1 a2 a3
  simp only[za,zb]at h
  obtain⟨rfl,rfl,rfl⟩:=h
  have hq:yi a0 a1 a2:=(zl.1 hp).1
  refine zwD (T:=tab) (B:=[]) (Bi:=[]) 0 [0,1,4,5] Tryz.func25 rfl rfl (by kernel_rfl) (zg rfl) zP zQ (by exact zy) (by exact zu) (by kernel_rfl) rfl rfl rfl zbj rfl ?_
  intro L lp rr yy hL hr hy hf hlp
  conv=>cbv
  simp only[zp hL,sQ,true_and]
  obtain⟨⟨xs,hxs,hb,hl⟩,h0,h1⟩:=hq
  have hal:a0.length=xs.length:=by rw[hxs,U8,yh]
  refine⟨fun h=>?_,fun h=>⟨by decide,fun h2=>⟨h0,h2,?_,by omega,?_⟩,fun h2=>⟨by omega,?_⟩⟩⟩
  ·rw[hr,hy,jm,jl,jx,if_pos h,if_pos h,if_pos h]
   exact⟨rfl,rfl⟩
  ·rw[hxs,zlX]
   rfl
  ·rw[hr,hy,jm,jl,jx,if_neg h,if_neg h,if_neg h,if_pos h2,if_pos h2,zo (n:=a1+1) (by omega) (by omega)]
   exact⟨rfl,rfl⟩
  ·rw[hr,hy,jm,jl,jx,if_neg h,if_neg h,if_neg h,if_neg h2,if_neg h2]
   exact⟨rfl,rfl⟩
 ·cases h
theorem ZM:zcY Tryz.prog 50 0 (zfg QC Ja QZ zfU):=by
 intro args ps r y h hp
 unfold zfg at h
 split at h
 ·rename_i a0 a1 a2 a3
  simp only[za,zb]at h
  obtain⟨rfl,rfl,rfl⟩:=h
  have hq:zfU a0 a1 a2 a3:=(zl.1 hp).1
  obtain⟨n,hn⟩:∃n:Int,n=a3.length:=⟨_,rfl⟩
  generalize yP:jm=qZ
  generalize yO:jl=qY
  generalize yN:jx=qX
  generalize qz:zdi=kI
  refine zwD (T:=tab) (B:=[]) (Bi:=[(25,0,false,zaX qZ qY qX kI)]) 0 [0,1,4] Tryz.func50 rfl rfl (by kernel_rfl) (zg rfl) zP zQ (by subst yP yO yN qz;exact zy) (by subst yP yO yN qz;exact(qg ki zu)) (by kernel_rfl) rfl rfl rfl zbj rfl ?_
  intro L lp rr yy hL hr hy hf hlp
  conv=>cbv
  simp only[zp hL,sQ,←hn]
  subst yP yO yN qz
  obtain⟨h1,⟨l,hl⟩,h2,h3⟩:=hq
  obtain⟨k1,k2⟩:=YA (n:=n) h1 (by omega)
  refine⟨h1,k1,k2,by rw[hl,zR];rfl,?_,?_⟩
  ·rw[hr,QC,←hn,hl,zR,zq]
   rfl
  ·rw[hy,Ja,QZ,←hn]
 ·cases h
def frS(h b:Int):Int:=IntKind.u64.wrap (IntKind.u64.wrap (IntKind.u64.wrap (h*1099511628211)+IntKind.u64.wrap b)+11)
def frH(xs:List Int)(n:Nat):Int:=(xs.take n).foldl frS (IntKind.u64.wrap (9341+IntKind.u64.wrap xs.length))
theorem zA9{xs:List Int}{n:Nat}(h:n<xs.length):frH xs (n+1)=frS (frH xs n) (xs.getD n 0):=by
 rw[frH,zF h,List.foldl_append,←frH,zd,ze h]
 rfl
def QQ(a:List V):Int:=frH (a.map V.toI) a.length
def zkW(f0:List V→Int)(q:List V→Prop):zN:=fun
 |[.slc false 5 (.int .u8 0) a0]=>some ([q a0],.box 71 (.agg [.slc false 5 (.int .u8 0) a0,.int .i64 0,.int .u64 (f0 a0)]))
 |_=>none
theorem zdf:yT Tryz.prog 22 (zkW QQ IsU):=by
 intro args ps r h hp
 unfold zkW at h
 split at h
 ·rename_i a0
  simp only[za,zb]at h
  obtain⟨rfl,rfl⟩:=h
  have hq:IsU a0:=(zl.1 hp).1
  obtain⟨n,hn⟩:∃n:Int,n=a0.length:=⟨_,rfl⟩
  obtain⟨h0,hh0⟩:∃h0:Int,h0=IntKind.u64.wrap (9341+IntKind.u64.wrap n):=⟨_,rfl⟩
  obtain⟨xs,hxs,hb,hl⟩:=hq
  have hal:a0.length=xs.length:=by rw[hxs,U8,yh]
  refine zD (T:=tab) (B:=[]) (Bi:=[]) [0,2,3,4] Tryz.func22 rfl rfl (by kernel_rfl) (zg rfl) zP zQ (by exact zy) (by exact zu) (by kernel_rfl) ?_
  intro L lp rr hL hr hf hlp
  conv=>cbv
  simp only[zp hL,sQ,←hn,←hh0]
  refine hlp (Int×Int) _ _ _ [0,3,4] (fun x=>[(0,none,.val (.slc false 5 (.int .u8 0) a0)),(3,none,.val (.box 71 (.agg [.slc false 5 (.int .u8 0) a0,.int .i64 0,.int .u64 x.1]))),(4,none,.val (.int .i64 x.2))])
   (fun x=>0≤x.2∧x.2≤n∧x.1=frH xs x.2.toNat) (fun x=>(n-x.2).toNat) ((h0,0)) (by subst hL;rfl) ?_ ?_
  ·refine⟨by simp,by simp only;omega,?_⟩
   simp only[frH,hh0,hn,hal]
   rfl
  rintro⟨hh,i⟩ ⟨i0,i1,hI⟩ hfx ag hag
  simp only at i0 i1 hI
  conv=>cbv
  simp only[zp hL,sQ,←hn]
  refine⟨fun h=>⟨i0,h.1,by rw[hxs,zlX];rfl,?_⟩,fun h=>?_⟩
  ·rw[zo (n:=i+1) (by omega) (by omega)]
   refine hag (_,i+1) ⟨by simp only;omega,by simp only;omega,?_⟩ (by simp only;omega)
   simp only
   rw[show(i+1).toNat=i.toNat+1 by omega,zA9 (by omega),←hI,hxs,zlX]
   rfl
  ·have hm:(U8 xs).map V.toI=xs:=by simp[U8,Function.comp_def,V.toI]
   rw[hr,QQ,hI,show i.toNat=a0.length by omega,hxs,hm]
 ·cases h
end Go.Ax
namespace Go.Ax
open Go.Proofs
def zpd(f:List V→Bool)(q:List V→Prop):zN:=fun
 |[.slc false 5 (.int .u8 0) a0]=>some ([q a0],.bool (f a0))
 |_=>none
def zlM(a:List V):Bool:=decide ((4096:Int)<a.length)
def zBU(_:List V):Prop:=True
theorem zxB:yT Tryz.prog 4 (zpd zlM zBU):=by
 intro args ps r h hp
 unfold zpd at h
 split at h
 ·rename_i a0
  simp only[za,zb]at h
  obtain⟨rfl,rfl⟩:=h
  obtain⟨n,hn⟩:∃n:Int,n=a0.length:=⟨_,rfl⟩
  refine zD (T:=tab) (B:=[]) (Bi:=[]) [0,2] Tryz.func4 rfl rfl (by kernel_rfl) (zg rfl) zP zQ (by exact zy) (by exact zu) (by kernel_rfl) ?_
  intro L lp rr hL hr hf hlp
  conv=>cbv
  simp only[zp hL,sQ,←hn]
  rw[hr,zlM,←hn]
 ·cases h
def zcM(a b:List V):Bool:=decide (qb a=qb b)
def zka(a b:List V):Prop:=KF a∧KF b∧a.length≤2147483647
theorem zcB:yT Tryz.prog 8 (Yj zcM zka):=by
 intro args ps r h hp
 unfold Yj at h
 split at h
 ·rename_i a0 a1
  simp only[za,zb]at h
  obtain⟨rfl,rfl⟩:=h
  obtain⟨⟨xs,hxs⟩,⟨ys,hys⟩,hl⟩:zka a0 a1:=(zl.1 hp).1
  obtain⟨n,hn⟩:∃n:Int,n=a0.length:=⟨_,rfl⟩
  obtain⟨m,hm⟩:∃m:Int,m=a1.length:=⟨_,rfl⟩
  have hxl:a0.length=xs.length:=by rw[hxs,zj]
  have hyl:a1.length=ys.length:=by rw[hys,zj]
  have gx:∀k,a0.getD k (.int .i64 0)=.int .i64 (xs.getD k 0):=fun k=>by rw[hxs,zR]
  have gy:∀k,a1.getD k (.int .i64 0)=.int .i64 (ys.getD k 0):=fun k=>by rw[hys,zR]
  have hf0:zcM a0 a1=decide (xs=ys):=by rw[zcM,hxs,hys,zq,zq]
  refine zD (T:=tab) (B:=[]) (Bi:=[]) [0,1,4,5] Tryz.func8 rfl rfl (by kernel_rfl) (zg rfl) zP zQ (by exact zy) (by exact zu) (by kernel_rfl) ?_
  intro L lp rr hL hr hf hlp
  conv=>cbv
  simp only[zp hL,sQ,←hn,←hm]
  refine⟨fun h=>?_,fun h=>?_⟩
  ·rw[hr,hf0,decide_eq_false (fun e=>h (by rw[hn,hm,hxl,hyl,e]))]
  have hlen:xs.length=ys.length:=by omega
  refine hlp (Int) _ _ _ [0,1,5] (fun x=>[(0,none,.val (.slc false 2 (.int .i64 0) a0)),(1,none,.val (.slc false 2 (.int .i64 0) a1)),(5,none,.val (.int .i64 x))])
   (fun x=>0≤x∧x≤n∧xs.take x.toNat=ys.take x.toNat) (fun x=>(n-x).toNat) (0) (by subst hL;rfl) ?_ ?_
  ·exact⟨by simp,by omega,rfl⟩
  rintro i ⟨i0,i1,hI⟩ hfx ag hag
  conv=>cbv
  simp only[zp hL,sQ,←hn,←hm,gx,gy]
  refine⟨fun h2=>⟨i0,h2,i0,by omega,fun h3=>?_,fun h3=>?_⟩,fun h2=>?_⟩
  ·rw[hr,hf0,decide_eq_false (fun e=>h3 (by rw[e]))]
  ·rw[zo (n:=i+1) (by omega) (by omega)]
   have h4:i.toNat<xs.length:=by omega
   have h5:i.toNat<ys.length:=by omega
   refine hag (i+1) ⟨by omega,by omega,?_⟩ (by omega)
   rw[zd,ze h4,zd,ze h5]at h3
   rw[show(i+1).toNat=i.toNat+1 by omega,zF h4,zF h5,hI]
   exact congrArg (fun z=>List.take i.toNat ys++[z]) h3
  ·have h4:xs=ys:=by rwa [zB (by omega),zB (by omega)]at hI
   rw[hr,hf0,decide_eq_true h4]
 ·cases h
def zci(f:List V→List V→Bool)(q:List V→List V→Prop):zN:=fun
 |[.slc false 30 (.slc false 2 (.int .i64 0) []) a0,.slc false 30 (.slc false 2 (.int .i64 0) []) a1]=>some ([q a0 a1],.bool (f a0 a1))
 |_=>none
def JJ(a b:List V):Bool:=decide (kw a=kw b)
def zb8(a b:List V):Prop:=(∃l,a=II false l∧l.length≤2147483647∧∀r∈l,r.length≤2147483647)∧∃l,b=II false l
theorem zmX:yT Tryz.prog 39 (zci JJ zb8):=by
 intro args ps r h hp
 unfold zci at h
 split at h
 ·rename_i a0 a1
  simp only[za,zb]at h
  obtain⟨rfl,rfl⟩:=h
  obtain⟨⟨xs,hxs,hl,hrl⟩,⟨ys,hys⟩⟩:zb8 a0 a1:=(zl.1 hp).1
  obtain⟨n,hn⟩:∃n:Int,n=a0.length:=⟨_,rfl⟩
  obtain⟨m,hm⟩:∃m:Int,m=a1.length:=⟨_,rfl⟩
  have hxl:a0.length=xs.length:=by rw[hxs,yk]
  have hyl:a1.length=ys.length:=by rw[hys,yk]
  have gx:∀k,a0.getD k (.slc false 2 (.int .i64 0) [])=.slc false 2 (.int .i64 0) (I (xs.getD k [])):=fun k=>by rw[hxs,qB]
  have gy:∀k,a1.getD k (.slc false 2 (.int .i64 0) [])=.slc false 2 (.int .i64 0) (I (ys.getD k [])):=fun k=>by rw[hys,qB]
  have hf0:JJ a0 a1=decide (xs=ys):=by rw[JJ,hxs,hys,zO,zO]
  generalize Qu:zcM=zaG
  generalize Qj:zka=zaD
  refine zD (T:=tab) (B:=[(8,Yj zaG zaD)]) (Bi:=[]) [0,1,4,5] Tryz.func39 rfl rfl (by kernel_rfl) (zg rfl) zP zQ (by subst Qu Qj;exact(zm zcB zy)) (by subst Qu Qj;exact zu) (by kernel_rfl) ?_
  intro L lp rr hL hr hf hlp
  conv=>cbv
  simp only[zp hL,sQ,←hn,←hm]
  refine⟨fun h=>?_,fun h=>?_⟩
  ·rw[hr,hf0,decide_eq_false (fun e=>h (by rw[hn,hm,hxl,hyl,e]))]
  have hlen:xs.length=ys.length:=by omega
  refine hlp (Int) _ _ _ [0,1,5] (fun x=>[(0,none,.val (.slc false 30 (.slc false 2 (.int .i64 0) []) a0)),(1,none,.val (.slc false 30 (.slc false 2 (.int .i64 0) []) a1)),(5,none,.val (.int .i64 x))])
   (fun x=>0≤x∧x≤n∧xs.take x.toNat=ys.take x.toNat) (fun x=>(n-x).toNat) (0) (by subst hL;rfl) ?_ ?_
  ·exact⟨by simp,by omega,rfl⟩
  rintro i ⟨i0,i1,hI⟩ hfx ag hag
  have Ef:∀u v:List Int,zaG (I u) (I v)=decide (u=v):=fun u v=>by rw[←Qu,zcM,zq,zq]
  conv=>cbv
  simp only[zp hL,sQ,←hn,←hm,gx,gy,Ef]
  refine⟨fun h2=>?_,fun h2=>?_⟩
  ·have h4:i.toNat<xs.length:=by omega
   have h5:i.toNat<ys.length:=by omega
   have Ql:zaD (I (xs.getD i.toNat [])) (I (ys.getD i.toNat [])):=by
    rw[←Qj]
    refine⟨⟨_,rfl⟩,⟨_,rfl⟩,?_⟩
    rw[zj,zd,ze h4]
    exact hrl _ (ya h4)
   refine⟨i0,h2,i0,by omega,Ql,fun h3=>?_,fun h3=>?_⟩
   ·rw[hr,hf0,decide_eq_false (fun e=>h3 (by rw[e]))]
   ·rw[zo (n:=i+1) (by omega) (by omega)]
    refine hag (i+1) ⟨by omega,by omega,?_⟩ (by omega)
    rw[zd,ze h4,zd,ze h5]at h3
    rw[show(i+1).toNat=i.toNat+1 by omega,zF h4,zF h5,hI]
    exact congrArg (fun z=>List.take i.toNat ys++[z]) h3
  ·have h4:xs=ys:=by rwa [zB (by omega),zB (by omega)]at hI
   rw[hr,hf0,decide_eq_true h4]
 ·cases h
end Go.Ax
namespace Go.Ax
open Go.Proofs
def zuH(f:List V→Int→List V)(q:List V→Int→Prop):zN:=fun
 |[.agg [.slc false 2 (.int .i64 0) a0],.int .i64 a1]=>some ([q a0 a1],.slc true 30 (.slc true 2 (.int .i64 0) []) (f a0 a1))
 |_=>none
def zsq(es:List V)(k:Int):List V:=II true (zfb (kC (qb es) k.toNat))
theorem zjR:yT Tryz.prog 63 (zuH zsq Yp):=by
 intro args ps r h hp
 unfold zuH at h
 split at h
 ·rename_i a0 a1
  simp only[za,zb]at h
  obtain⟨rfl,rfl⟩:=h
  obtain⟨hq,k1,k2⟩:Yp a0 a1:=(zl.1 hp).1
  have hqb:=hq
  obtain⟨xs,hxs,hb⟩:=hq
  have g1:V.frzs a0=a0:=by rw[hxs,zG]
  obtain⟨ms,hms⟩:∃ms,ms=I (kC xs a1.toNat):=⟨_,rfl⟩
  have e1:kK a0 a1=ms:=by rw[kK,hxs,zq,hms]
  have g2:V.frzs ms=ms:=by rw[hms,zG]
  generalize uy:kK=Jg
  generalize ju:Yp=ZI
  generalize znM:zkF=zBI
  generalize znE:zs4=zBD
  refine zD (T:=tab) (B:=[(101,zpg Jg ZI),(100,zlR zBI zBD)]) (Bi:=[]) [0,1,2,4] Tryz.func63 rfl rfl (by kernel_rfl) (zg rfl) zP zQ (by subst uy ju znM znE;exact(zm zhV (zm zl7 zy))) (by subst uy ju znM znE;exact zu) (by kernel_rfl) ?_
  intro L lp rr hL hr hf hlp
  conv=>cbv
  have hF:Jg a0 a1=ms:=by rw[←uy,e1]
  simp only[zp hL,sQ,g1,hF,g2]
  refine⟨by rw[←ju];exact⟨hqb,k1,k2⟩,by rw[←znE];exact⟨xs,_,hb,hms,by omega⟩,?_⟩
  rw[hr,zsq,←znM,zkF,hms,zq,hxs,zq]
 ·cases h
theorem nf:∀l:List Int,V.noFzs (I l)=true
 |[]=>rfl
 |x::l=>by
  have:=nf l
  simpa [I,V.noFzs,V.noFz]using this
def zEX(X Y:List Int):Option Nat:=(List.range X.length).find? fun t=>X.getD t 0 !=Y.getD t 0
def gc(xs ys:List Int):Int×Int:=match zEX (ua xs 201) (ua ys 201)with
 |some i=>((i:Int)+1,0)
 |none=>(0,4)
theorem zhd(xs:List Int)(k:Nat):(ua xs k).length=k-1:=qh _ _
end Go.Ax
namespace Go.Ax
open Go.Proofs
def zjp(X Y:List Int):Nat→Int
 |0=>0
 |n+1=>W (zjp X Y n+W (X.getD n 0*Y.getD n 0))
def zdx(f:List V→List V→Int)(q:List V→List V→Prop):zN:=fun
 |[.slc false 2 (.int .i64 0) a0,.slc false 2 (.int .i64 0) a1]=>some ([q a0 a1],.int .i64 (f a0 a1))
 |_=>none
def zbL(a b:List V):Int:=zjp (qb a) (qb b) a.length
def zg0(a b:List V):Prop:=KF a∧KF b∧a.length≤b.length
theorem zr5:yT Tryz.prog 110 (zdx zbL zg0):=by
 intro args ps r h hp
 unfold zdx at h
 split at h
 ·rename_i a0 a1
  simp only[za,zb]at h
  obtain⟨rfl,rfl⟩:=h
  obtain⟨⟨xs,hxs⟩,⟨ys,hys⟩,hll⟩:zg0 a0 a1:=(zl.1 hp).1
  have hxl:a0.length=xs.length:=by rw[hxs,zj]
  have hyl:a1.length=ys.length:=by rw[hys,zj]
  have hf0:zbL a0 a1=zjp xs ys xs.length:=by rw[zbL,hxl,hxs,hys,zq,zq]
  have gx:∀i,a0.getD i (.int .i64 0)=.int .i64 (xs.getD i 0):=fun i=>by rw[hxs,zR]
  have gy:∀i,a1.getD i (.int .i64 0)=.int .i64 (ys.getD i 0):=fun i=>by rw[hys,zR]
  refine zD (T:=tab) (B:=[]) (Bi:=[]) [0,1,4,5,6,7,8,9,10] Tryz.func110 rfl rfl (by kernel_rfl) (zg rfl) zP zQ (by exact zy) (by exact zu) (by kernel_rfl) ?_
  intro L lp rr hL hr hf hlp
  have hlen:=hf.1.1
  obtain⟨n,hn⟩:∃n:Int,n=xs.length:=⟨_,rfl⟩
  conv=>cbv
  refine hlp (Int×Int) _ _ _ [1,5,8,9,10] (fun x=>[(1,none,.val (.slc false 2 (.int .i64 0) a1)),(5,none,.val (.int .i64 x.1)),(8,none,.val (.slc false 2 (.int .i64 0) a0)),(9,none,.val (.int .i64 n)),(10,none,.val (.int .i64 x.2))])
   (fun x=>0≤x.2∧x.2≤xs.length∧x.1=zjp xs ys x.2.toNat) (fun x=>(xs.length-x.2).toNat) ((0,0)) (by subst hL;rw[hn,←hxl];rfl) ?_ ?_
  ·exact⟨by simp,by simp,rfl⟩
  rintro⟨s,i⟩ ⟨i0,i1,hI⟩ hfx ag hag
  simp only at i0 i1 hI
  conv=>cbv
  simp only[zp hL,sQ,hxl,hyl,gx,gy]
  refine⟨fun h2=>⟨i0,by omega,i0,by omega,?_⟩,fun h2=>?_⟩
  ·rw[zo (n:=i+1) (by omega) (by omega)]
   refine hag (W (s+W (xs.getD i.toNat 0*ys.getD i.toNat 0)),i+1) ⟨by simp only;omega,by simp only;omega,?_⟩ (by simp only;omega)
   simp only[zU i0]
   rw[zjp,hI]
  ·rw[hr,hf0,hI,show i.toNat=xs.length by omega]
 ·cases h
theorem zl4:yT Tryz.prog 82 (zdx zbL zg0):=by
 intro args ps r h hp
 unfold zdx at h
 split at h
 ·rename_i a0 a1
  simp only[za,zb]at h
  obtain⟨rfl,rfl⟩:=h
  obtain⟨⟨xs,hxs⟩,⟨ys,hys⟩,hll⟩:zg0 a0 a1:=(zl.1 hp).1
  have hxl:a0.length=xs.length:=by rw[hxs,zj]
  have hyl:a1.length=ys.length:=by rw[hys,zj]
  have hf0:zbL a0 a1=zjp xs ys xs.length:=by rw[zbL,hxl,hxs,hys,zq,zq]
  have gx:∀i,a0.getD i (.int .i64 0)=.int .i64 (xs.getD i 0):=fun i=>by rw[hxs,zR]
  have gy:∀i,a1.getD i (.int .i64 0)=.int .i64 (ys.getD i 0):=fun i=>by rw[hys,zR]
  refine zD (T:=tab) (B:=[]) (Bi:=[]) [0,1,4,5,6] Tryz.func82 rfl rfl (by kernel_rfl) (zg rfl) zP zQ (by exact zy) (by exact zu) (by kernel_rfl) ?_
  intro L lp rr hL hr hf hlp
  have hlen:=hf.1.1
  conv=>cbv
  refine hlp (Int×Int) _ _ _ [0,1,5,6] (fun x=>[(0,none,.val (.slc false 2 (.int .i64 0) a0)),(1,none,.val (.slc false 2 (.int .i64 0) a1)),(5,none,.val (.int .i64 x.1)),(6,none,.val (.int .i64 x.2))])
   (fun x=>0≤x.2∧x.2≤xs.length∧x.1=zjp xs ys x.2.toNat) (fun x=>(xs.length-x.2).toNat) ((0,0)) (by subst hL;rfl) ?_ ?_
  ·exact⟨by simp,by simp,rfl⟩
  rintro⟨s,i⟩ ⟨i0,i1,hI⟩ hfx ag hag
  simp only at i0 i1 hI
  conv=>cbv
  simp only[zp hL,sQ,hxl,hyl,gx,gy]
  refine⟨fun h2=>⟨i0,by omega,i0,by omega,?_⟩,fun h2=>?_⟩
  ·rw[zo (n:=i+1) (by omega) (by omega)]
   refine hag (W (s+W (xs.getD i.toNat 0*ys.getD i.toNat 0)),i+1) ⟨by simp only;omega,by simp only;omega,?_⟩ (by simp only;omega)
   simp only[zU i0]
   rw[zjp,hI]
  ·rw[hr,hf0,hI,show i.toNat=xs.length by omega]
 ·cases h
theorem zjI:yT Tryz.prog 32 (Yj Yi zbU):=by
 intro args ps r h hp
 unfold Yj at h
 split at h
 ·rename_i a0 a1
  simp only[za,zb]at h
  obtain⟨rfl,rfl⟩:=h
  obtain⟨⟨xs,hxs⟩,ys,hys⟩:zbU a0 a1:=(zl.1 hp).1
  have hxl:a0.length=xs.length:=by rw[hxs,zj]
  have hyl:a1.length=ys.length:=by rw[hys,zj]
  have hf0:Yi a0 a1=decide (xs=ys):=by rw[Yi,hxs,hys,zq,zq]
  have gx:∀i,a0.getD i (.int .i64 0)=.int .i64 (xs.getD i 0):=fun i=>by rw[hxs,zR]
  have gy:∀i,a1.getD i (.int .i64 0)=.int .i64 (ys.getD i 0):=fun i=>by rw[hys,zR]
  refine zD (T:=tab) (B:=[]) (Bi:=[]) [0,1,4,5,12,13] Tryz.func32 rfl rfl (by kernel_rfl) (zg rfl) zP zQ (by exact zy) (by exact zu) (by kernel_rfl) ?_
  intro L lp rr hL hr hf hlp
  have hlen:=hf.1.1
  obtain⟨n,hn⟩:∃n:Int,n=xs.length:=⟨_,rfl⟩
  conv=>cbv
  simp only[zp hL,sQ,hxl,hyl]
  refine⟨fun h=>?_,fun h=>?_⟩
  ·rw[hr,hf0,decide_eq_false]
   rintro rfl
   omega
  refine hlp Int _ _ _ [0,1,12,13] (fun x=>[(0,none,.val (.slc false 2 (.int .i64 0) a0)),(1,none,.val (.slc false 2 (.int .i64 0) a1)),(12,none,.val (.int .i64 n)),(13,none,.val (.int .i64 x))])
   (fun x=>0≤x∧x≤xs.length∧xs.take x.toNat=ys.take x.toNat) (fun x=>(xs.length-x).toNat) 0 (by subst hL;rw[hn,←hxl];rfl) (by simp) ?_
  rintro i ⟨i0,i1,hI⟩ hfx ag hag
  conv=>cbv
  simp only[zp hL,sQ,hxl,hyl,gx,gy]
  refine⟨fun h2=>⟨i0,by omega,i0,by omega,fun h4=>?_,fun h4=>?_⟩,fun h2=>?_⟩
  ·rw[hr,hf0,decide_eq_false]
   rintro rfl
   exact h4 rfl
  ·rw[zo (n:=i+1) (by omega) (by omega)]
   refine hag (i+1) ⟨by omega,by omega,?_⟩ (by omega)
   have e1:i.toNat<xs.length:=by omega
   have e2:i.toNat<ys.length:=by omega
   rw[zU i0,zF e1,zF e2,hI]
   simp only[zd,ze e1,ze e2,jh]at h4
   rw[h4]
  ·rw[zB (by omega),zB (by omega)]at hI
   rw[hr,hf0,decide_eq_true hI]
 ·cases h
theorem zde:yT Tryz.prog 69 (Yj Yi zbU):=by
 intro args ps r h hp
 unfold Yj at h
 split at h
 ·rename_i a0 a1
  simp only[za,zb]at h
  obtain⟨rfl,rfl⟩:=h
  obtain⟨⟨xs,hxs⟩,ys,hys⟩:zbU a0 a1:=(zl.1 hp).1
  have hxl:a0.length=xs.length:=by rw[hxs,zj]
  have hyl:a1.length=ys.length:=by rw[hys,zj]
  have hf0:Yi a0 a1=decide (xs=ys):=by rw[Yi,hxs,hys,zq,zq]
  have gx:∀i,a0.getD i (.int .i64 0)=.int .i64 (xs.getD i 0):=fun i=>by rw[hxs,zR]
  have gy:∀i,a1.getD i (.int .i64 0)=.int .i64 (ys.getD i 0):=fun i=>by rw[hys,zR]
  refine zD (T:=tab) (B:=[]) (Bi:=[]) [0,1,4,5] Tryz.func69 rfl rfl (by kernel_rfl) (zg rfl) zP zQ (by exact zy) (by exact zu) (by kernel_rfl) ?_
  intro L lp rr hL hr hf hlp
  have hlen:=hf.1.1
  conv=>cbv
  simp only[zp hL,sQ,hxl,hyl]
  refine⟨fun h=>?_,fun h=>?_⟩
  ·rw[hr,hf0,decide_eq_false]
   rintro rfl
   omega
  refine hlp (Int) _ _ _ [0,1,5] (fun x=>[(0,none,.val (.slc false 2 (.int .i64 0) a0)),(1,none,.val (.slc false 2 (.int .i64 0) a1)),(5,none,.val (.int .i64 x))])
   (fun x=>0≤x∧x≤xs.length∧xs.take x.toNat=ys.take x.toNat) (fun x=>(xs.length-x).toNat) (0) (by subst hL;rfl) ?_ ?_
  ·simp
  rintro i ⟨i0,i1,hI⟩ hfx ag hag
  conv=>cbv
  simp only[zp hL,sQ,hxl,hyl,gx,gy]
  refine⟨fun h2=>⟨i0,by omega,i0,by omega,fun h4=>?_,fun h4=>?_⟩,fun h2=>?_⟩
  ·rw[hr,hf0,decide_eq_false]
   rintro rfl
   exact h4 rfl
  ·rw[zo (n:=i+1) (by omega) (by omega)]
   refine hag (i+1) ⟨by omega,by omega,?_⟩ (by omega)
   have e1:i.toNat<xs.length:=by omega
   have e2:i.toNat<ys.length:=by omega
   rw[zU i0,zF e1,zF e2,hI]
   simp only[zd,ze e1,ze e2,jh]at h4
   rw[h4]
  ·rw[zB (by omega),zB (by omega)]at hI
   rw[hr,hf0,decide_eq_true hI]
 ·cases h
def zeQ(X Y:List Int)(c:Nat):Bool:=decide (X.take (c-1)=Y.take (c-1))&&(X.getD (c-1) 0 !=Y.getD (c-1) 0||X.getD (c-1) 0==0)
def zql(f:List V→List V→Int→Bool)(q:List V→List V→Int→Prop):zN:=fun
 |[.slc false 2 (.int .i64 0) a0,.slc false 2 (.int .i64 0) a1,.int .i64 a2]=>some ([q a0 a1 a2],.bool (f a0 a1 a2))
 |_=>none
def zo3(a b:List V)(c:Int):Bool:=zeQ (qb a) (qb b) c.toNat
def zxS(a b:List V)(c:Int):Prop:=KF a∧KF b∧1≤c∧c≤a.length∧c≤b.length
theorem zon:yT Tryz.prog 64 (zql zo3 zxS):=by
 intro args ps r h hp
 unfold zql at h
 split at h
 ·rename_i a0 a1 a2
  simp only[za,zb]at h
  obtain⟨rfl,rfl⟩:=h
  obtain⟨⟨xs,hxs⟩,⟨ys,hys⟩,c1,c2,c3⟩:zxS a0 a1 a2:=(zl.1 hp).1
  have hxl:a0.length=xs.length:=by rw[hxs,zj]
  have hyl:a1.length=ys.length:=by rw[hys,zj]
  have hf0:zo3 a0 a1 a2=zeQ xs ys a2.toNat:=by rw[zo3,hxs,hys,zq,zq]
  have gx:∀i,a0.getD i (.int .i64 0)=.int .i64 (xs.getD i 0):=fun i=>by rw[hxs,zR]
  have gy:∀i,a1.getD i (.int .i64 0)=.int .i64 (ys.getD i 0):=fun i=>by rw[hys,zR]
  generalize kQ:Yi=Zw
  generalize kq:zbU=Qy
  refine zD (T:=tab) (B:=[(32,Yj Zw Qy)]) (Bi:=[]) [0,1,2,6] Tryz.func64 rfl rfl (by kernel_rfl) (zg rfl) zP zQ (by subst kQ kq;exact(zm zjI zy)) (by subst kQ kq;exact zu) (by kernel_rfl) ?_
  intro L lp rr hL hr hf hlp
  have hlen:=hf.1.1
  have hlen2:=hf.2.1.1
  conv=>cbv
  have w0:IntKind.wrap .i64 (a2-1)=a2-1:=zo (by omega) (by omega)
  simp only[zp hL,sQ,hxl,hyl,gx,gy,w0,List.drop_zero]
  subst kQ kq
  have e1:V.frzs (a0.take (a2-1).toNat)=I (xs.take (a2-1).toNat):=by rw[hxs,zim,zG]
  have e2:V.frzs (a1.take (a2-1).toNat)=I (ys.take (a2-1).toNat):=by rw[hys,zim,zG]
  rw[e1,e2,hr,hf0]
  (repeat' first|(exact yR _)|(exact jZ rfl)|(exact qL _)|(apply And.intro)|(intro _))<;>(try first|exact True.intro|omega|rfl|(simp only[zi,zr,zj];omega))
  all_goals first|assumption|exact⟨_,rfl⟩|skip
  rw[zeQ,Yi,zq,zq,show(a2-1).toNat=a2.toNat-1 by omega]
  rfl
 ·cases h
def shr(xs ys:List Int)(c:Nat):Bool:=zeQ (ua xs 201) (ua ys 201) c
theorem zfl(xs:List Int){c k:Nat}(h:c≤k-1):(ua xs k).take c=ua xs (c+1):=by
 rw[ua,zAd _ _ _ h,ua,Nat.add_sub_cancel]
theorem zhe(xs:List Int){c k:Nat}(h:c<k-1):(ua xs k).getD c 0=cd (mul xs) (c+1) (c+1):=Zy _ _ _ _ h
theorem zDy(xs ys:List Int){c k:Nat}(h1:1≤c)(h2:c≤200)(hk:c+1≤k):zeQ (ua xs k) (ua ys k) c=shr xs ys c:=by
 rw[shr,zeQ,zeQ,zfl xs (c:=c-1) (k:=k) (by omega),zfl ys (c:=c-1) (k:=k) (by omega),zfl xs (c:=c-1) (k:=201) (by omega),zfl ys (c:=c-1) (k:=201) (by omega),
  zhe xs (k:=k) (by omega),zhe ys (k:=k) (by omega),zhe xs (k:=201) (by omega),zhe ys (k:=201) (by omega)]
theorem zAm(xs ys:List Int)(c:Nat):shr xs ys c=shr ys xs c:=by
 rw[shr,shr,zeQ,zeQ]
 by_cases h:(ua xs 201).getD (c-1) 0=(ua ys 201).getD (c-1) 0
 ·rw[h,decide_eq_decide.2 (eq_comm)]
 ·have h':¬(ua ys 201).getD (c-1) 0=(ua xs 201).getD (c-1) 0:=fun e=>h e.symm
  simp only[bne_iff_ne.2 h,bne_iff_ne.2 h',Bool.true_or,Bool.and_true]
  rw[decide_eq_decide.2 (eq_comm)]
def zm9(xs ys:List Int)(c:Nat):Int:=zjp (kC xs c) (kC ys c) c
def zdz(f:List V→List V→Int→Int)(q:List V→List V→Int→Prop):zN:=fun
 |[.agg [.slc false 2 (.int .i64 0) a0],.agg [.slc false 2 (.int .i64 0) a1],.int .i64 a2]=>some ([q a0 a1 a2],.int .i64 (f a0 a1 a2))
 |_=>none
def JI(a b:List V)(c:Int):Int:=zm9 (qb a) (qb b) c.toNat
def zeh(a b:List V)(c:Int):Prop:=ZR a∧ZR b∧1≤c∧c≤1000000
theorem zjS:yT Tryz.prog 81 (zdz JI zeh):=by
 intro args ps r h hp
 unfold zdz at h
 split at h
 ·rename_i a0 a1 a2
  simp only[za,zb]at h
  obtain⟨rfl,rfl⟩:=h
  obtain⟨hq,hq1,c1,c2⟩:zeh a0 a1 a2:=(zl.1 hp).1
  have hqb:=hq
  have hqb1:=hq1
  obtain⟨xs,hxs,hb⟩:=hq
  obtain⟨ys,hys,hb1⟩:=hq1
  have g1:V.frzs a0=a0:=by rw[hxs,zG]
  have g2:V.frzs a1=a1:=by rw[hys,zG]
  obtain⟨vx,hvx⟩:∃vx,vx=I (kC xs a2.toNat):=⟨_,rfl⟩
  obtain⟨vy,hvy⟩:∃vy,vy=I (kC ys a2.toNat):=⟨_,rfl⟩
  have e1:kK a0 a2=vx:=by rw[kK,hxs,zq,hvx]
  have e2:kK a1 a2=vy:=by rw[kK,hys,zq,hvy]
  have e4:JI a0 a1 a2=zbL vx vy:=by rw[JI,hxs,hys,zq,zq,zbL,hvx,hvy,zq,zq,zj,Zn,zm9]
  have hqd:zg0 vx vy:=⟨⟨_,hvx⟩,⟨_,hvy⟩,by rw[hvx,hvy,zj,zj,Zn,Zn];omega⟩
  have fx:V.frzs vx=vx:=by rw[hvx,zG]
  have fy:V.frzs vy=vy:=by rw[hvy,zG]
  have nx:V.noFzs vx=true:=by rw[hvx];exact nf _
  have ny:V.noFzs vy=true:=by rw[hvy];exact nf _
  generalize uy:kK=Jg
  generalize ju:Yp=ZI
  generalize zdQ:zbL=zri
  generalize zdF:zg0=zre
  refine zD (T:=tab) (B:=[(101,zpg Jg ZI),(110,zdx zri zre)]) (Bi:=[]) [0,1,2,3,4,6] Tryz.func81 rfl rfl (by kernel_rfl) (zg rfl) zP zQ (by subst uy ju zdQ zdF;exact(zm zhV (zm zr5 zy))) (by subst uy ju zdQ zdF;exact zu) (by kernel_rfl) ?_
  intro L lp rr hL hr hf hlp
  conv=>cbv
  subst uy ju zdQ zdF
  simp only[zp hL,sQ,g1,g2,e1,e2,fx,fy]
  rw[hr,e4]
  (repeat' first|(exact yR _)|(exact jZ rfl)|(exact qL _)|(apply And.intro)|(intro _))<;>(try first|exact True.intro|omega|rfl|(simp only[zi,zr,zj];omega))
  all_goals first|exact hqb|exact hqb1|exact hqd.1|exact hqd.2.1|exact hqd.2.2|exact nx|exact ny
 ·cases h
theorem zhQ:yT Tryz.prog 49 (zdz JI zeh):=by
 intro args ps r h hp
 unfold zdz at h
 split at h
 ·rename_i a0 a1 a2
  simp only[za,zb]at h
  obtain⟨rfl,rfl⟩:=h
  obtain⟨hq,hq1,c1,c2⟩:zeh a0 a1 a2:=(zl.1 hp).1
  have hqb:=hq
  have hqb1:=hq1
  obtain⟨xs,hxs,hb⟩:=hq
  obtain⟨ys,hys,hb1⟩:=hq1
  have g1:V.frzs a0=a0:=by rw[hxs,zG]
  have g2:V.frzs a1=a1:=by rw[hys,zG]
  obtain⟨vx,hvx⟩:∃vx,vx=I (kC xs a2.toNat):=⟨_,rfl⟩
  obtain⟨vy,hvy⟩:∃vy,vy=I (kC ys a2.toNat):=⟨_,rfl⟩
  have e1:kK a0 a2=vx:=by rw[kK,hxs,zq,hvx]
  have e2:kK a1 a2=vy:=by rw[kK,hys,zq,hvy]
  have e4:JI a0 a1 a2=zbL vx vy:=by rw[JI,hxs,hys,zq,zq,zbL,hvx,hvy,zq,zq,zj,Zn,zm9]
  have hqd:zg0 vx vy:=⟨⟨_,hvx⟩,⟨_,hvy⟩,by rw[hvx,hvy,zj,zj,Zn,Zn];omega⟩
  have fx:V.frzs vx=vx:=by rw[hvx,zG]
  have fy:V.frzs vy=vy:=by rw[hvy,zG]
  have nx:V.noFzs vx=true:=by rw[hvx];exact nf _
  have ny:V.noFzs vy=true:=by rw[hvy];exact nf _
  generalize uy:kK=Jg
  generalize ju:Yp=ZI
  generalize zdQ:zbL=zri
  generalize zdF:zg0=zre
  refine zD (T:=tab) (B:=[(83,zgp Jg ZI),(82,zdx zri zre)]) (Bi:=[]) [0,1,2,3,4,6] Tryz.func49 rfl rfl (by kernel_rfl) (zg rfl) zP zQ (by subst uy ju zdQ zdF;exact(zm zed (zm zl4 zy))) (by subst uy ju zdQ zdF;exact zu) (by kernel_rfl) ?_
  intro L lp rr hL hr hf hlp
  conv=>cbv
  subst uy ju zdQ zdF
  simp only[zp hL,sQ,g1,g2,e1,e2,fx,fy]
  rw[hr,e4]
  (repeat' first|(exact yR _)|(exact jZ rfl)|(exact qL _)|(apply And.intro)|(intro _))<;>(try first|exact True.intro|omega|rfl|(simp only[zi,zr,zj];omega))
  all_goals first|exact hqb|exact hqb1|exact hqd.1|exact hqd.2.1|exact hqd.2.2|exact nx|exact ny
 ·cases h
def zqs(f:List V→List V→Int→Bool)(q:List V→List V→Int→Prop):zN:=fun
 |[.agg [.slc false 2 (.int .i64 0) a0],.agg [.slc false 2 (.int .i64 0) a1],.int .i64 a2]=>some ([q a0 a1 a2],.bool (f a0 a1 a2))
 |_=>none
def zoY(a b:List V)(c:Int):Bool:=shr (qb a) (qb b) c.toNat
def zxJ(a b:List V)(c:Int):Prop:=ZR a∧ZR b∧1≤c∧c≤200
theorem zpC:yT Tryz.prog 53 (zqs zoY zxJ):=by
 intro args ps r h hp
 unfold zqs at h
 split at h
 ·rename_i a0 a1 a2
  simp only[za,zb]at h
  obtain⟨rfl,rfl⟩:=h
  obtain⟨hq,hq1,c1,c2⟩:zxJ a0 a1 a2:=(zl.1 hp).1
  have hqb:=hq
  have hqb1:=hq1
  obtain⟨xs,hxs,hb⟩:=hq
  obtain⟨ys,hys,hb1⟩:=hq1
  have g1:V.frzs a0=a0:=by rw[hxs,zG]
  have g2:V.frzs a1=a1:=by rw[hys,zG]
  obtain⟨k,hk⟩:∃k:Nat,k=(a2+1).toNat:=⟨_,rfl⟩
  obtain⟨X,hX⟩:∃X,X=ua xs k:=⟨_,rfl⟩
  obtain⟨Y,hY⟩:∃Y,Y=ua ys k:=⟨_,rfl⟩
  obtain⟨vx,hvx⟩:∃vx,vx=I X:=⟨_,rfl⟩
  obtain⟨vy,hvy⟩:∃vy,vy=I Y:=⟨_,rfl⟩
  have e1:zcf a0 (a2+1)=vx:=by rw[zcf,hxs,zq,hvx,hX,hk]
  have e2:zcf a1 (a2+1)=vy:=by rw[zcf,hys,zq,hvy,hY,hk]
  have e4:zoY a0 a1 a2=zeQ X Y a2.toNat:=by rw[zoY,hxs,hys,zq,zq,hX,hY,zDy xs ys (by omega) (by omega) (by omega)]
  have xl:vx.length=k-1:=by rw[hvx,zj,hX,zhd]
  have yl:vy.length=k-1:=by rw[hvy,zj,hY,zhd]
  have gx:∀t,vx.getD t (.int .i64 0)=.int .i64 (X.getD t 0):=fun t=>by rw[hvx,zR]
  have gy:∀t,vy.getD t (.int .i64 0)=.int .i64 (Y.getD t 0):=fun t=>by rw[hvy,zR]
  have w0:IntKind.wrap .i64 (a2-1)=a2-1:=zo (by omega) (by omega)
  have w1:IntKind.wrap .i64 (a2+1)=a2+1:=zo (by omega) (by omega)
  generalize zho:zcf=zli
  generalize ju:Yp=ZI
  generalize kQ:Yi=Zw
  generalize kq:zbU=Qy
  refine zD (T:=tab) (B:=[(86,zgp zli ZI),(69,Yj Zw Qy)]) (Bi:=[]) [1000002007,1000002008,0,1,2,3,4,6,7,8] Tryz.func53 rfl rfl (by kernel_rfl) (zg rfl) zP zQ (by subst zho ju kQ kq;exact(zm zpH (zm zde zy))) (by subst zho ju kQ kq;exact zu) (by kernel_rfl) ?_
  intro L lp rr hL hr hf hlp
  conv=>cbv
  have F1:zli a0 (a2+1)=vx:=by rw[←zho,e1]
  have F2:zli a1 (a2+1)=vy:=by rw[←zho,e2]
  have fx:V.frzs vx=vx:=by rw[hvx,zG]
  have fy:V.frzs vy=vy:=by rw[hvy,zG]
  simp only[zp hL,sQ,g1,g2,w0,w1,F1,F2,fx,fy,xl,yl,gx,gy,List.drop_zero]
  subst kQ kq ju
  have e1:V.frzs (vx.take (a2-1).toNat)=I (X.take (a2-1).toNat):=by rw[hvx,zim,zG]
  have e2:V.frzs (vy.take (a2-1).toNat)=I (Y.take (a2-1).toNat):=by rw[hvy,zim,zG]
  rw[e1,e2,hr,e4]
  refine⟨⟨hqb,by omega,by omega⟩,⟨hqb1,by omega,by omega⟩,by omega,by omega,by omega,by omega,by omega,by omega,⟨⟨_,rfl⟩,⟨_,rfl⟩⟩,fun h=>?_,fun h=>?_⟩
  ·rw[Yi,zq,zq,show(a2-1).toNat=a2.toNat-1 by omega]at h
   rw[zeQ,h];rfl
  ·rw[Yi,zq,zq,show(a2-1).toNat=a2.toNat-1 by omega]at h
   rw[zeQ,h,show(a2-1).toNat=a2.toNat-1 by omega]
   refine⟨by omega,by omega,by omega,by omega,fun _=>by omega,fun _=>by omega,fun _=>trivial,?_⟩
   rfl
 ·cases h
end Go.Ax
namespace Go.Ax
open Go.Proofs
def kr:List (List Int)→Int
 |[]=>1
 |p::l=>p.getD 1 0*kr l
structure Prs (ps:List (List Int)):Prop where
 len:ps.length≤3
 two:∀p∈ps,∃c o,p=[c,o]∧1≤c∧c≤100∧2≤o∧o≤5
 pr:kr ps≤64
theorem Prs.tail{p:List Int}{l:List (List Int)}(h:Prs (p::l)):Prs l∧∃c o,p=[c,o]∧1≤c∧c≤100∧2≤o∧o≤5∧1≤kr l∧kr (p::l)=o*kr l∧kr l≤o*kr l:=by
 have pos:∀l:List (List Int),(∀p∈l,∃c o,p=[c,o]∧1≤c∧c≤100∧2≤o∧o≤5)→1≤kr l:=by
  intro l
  induction l with
  |nil=>intro _;decide
  |cons p l ih=>
   intro h
   obtain⟨c,o,rfl,_,_,h3,_⟩:=h p (by simp)
   have:=ih (fun q hq=>h q (by simp[hq]))
   simp only[kr,qG,jb]
   have:1*1≤o*kr l:=JN (by omega) this (by omega) (by omega)
   omega
 obtain⟨c,o,rfl,h1,h2,h3,h4⟩:=h.two p (by simp)
 have hp:=pos l (fun q hq=>h.two q (by simp[hq]))
 have hm:1*kr l≤o*kr l:=Int.mul_le_mul_of_nonneg_right (by omega) (by omega)
 have hpr:=h.pr
 simp only[kr,qG,jb]at hpr
 refine⟨⟨by have:=h.len;simp at this;omega,fun q hq=>h.two q (by simp[hq]),by omega⟩,c,o,rfl,h1,h2,h3,h4,hp,rfl,by omega⟩
theorem Prs.drop{ps:List (List Int)}(h:Prs ps):∀i,Prs (ps.drop i):=by
 intro i
 induction i generalizing ps with
 |zero=>exact h
 |succ i ih=>
  cases ps with
  |nil=>simpa using h
  |cons p l=>simpa using ih h.tail.1
theorem ziU(a b:List (List Int)):kr (a++b)=kr a*kr b:=by
 induction a with
 |nil=>simp[kr]
 |cons p l ih=>simp only[zV,kr,ih,Int.mul_assoc]
theorem Prs.at{ps:List (List Int)}(h:Prs ps){i:Nat}(hi:i<ps.length):∃c o,ps.getD i []=[c,o]∧1≤c∧c≤100∧2≤o∧o≤5∧ps.drop i=[c,o]::ps.drop (i+1)∧1≤kr (ps.drop (i+1))∧kr (ps.drop (i+1))≤64∧kr (ps.drop i)=o*kr (ps.drop (i+1))∧kr (ps.drop i)≤64∧
 kr (ps.take (i+1))=kr (ps.take i)*o:=by
 have hd:ps.drop i=ps.getD i []::ps.drop (i+1):=by rw[kF [] hi]
 have hi':=h.drop i
 have h6:=hi'.pr
 rw[hd]at hi'
 obtain⟨h1,c,o,h2,h3,h4,h5,h7,h8,h9,h10⟩:=hi'.tail
 refine⟨c,o,h2,h3,h4,h5,h7,by rw[hd,h2],h8,h1.pr,by rw[hd,h9],h6,?_⟩
 rw[zF hi,ziU]
 have:ps[i]=[c,o]:=by rw[←h2,zd,ze hi];rfl
 rw[this]
 simp[kr]
theorem Prs.pos{ps:List (List Int)}(h:Prs ps):1≤kr ps:=by
 cases ps with
 |nil=>decide
 |cons p l=>
  obtain⟨_,c,o,_,_,_,_,_,h1,h2,h3⟩:=h.tail
  omega
theorem Prs.take_le{ps:List (List Int)}(h:Prs ps):∀i,i≤ps.length→1≤kr (ps.take i)∧kr (ps.take i)≤64:=by
 intro i hi
 have h1:kr (ps.take i)*kr (ps.drop i)=kr ps:=by rw[←ziU,qK]
 have h2:=(h.drop i).pos
 have h3:=h.pr
 have h4:=h.pos
 have h5:1≤kr (ps.take i):=by
  by_cases hc:1≤kr (ps.take i)
  ·exact hc
  ·exfalso
   have:kr (ps.take i)*kr (ps.drop i)≤0:=Int.mul_nonpos_of_nonpos_of_nonneg (by omega) (by omega)
   omega
 refine⟨h5,?_⟩
 have:kr (ps.take i)*1≤kr (ps.take i)*kr (ps.drop i):=Int.mul_le_mul_of_nonneg_left h2 (by omega)
 omega
def zlq(a:List V):Prop:=∃ps,a=II false ps∧Prs ps
def zyw(f:List V→Int)(q:List V→Prop):zN:=fun
 |[.slc false 30 (.slc false 2 (.int .i64 0) []) a0]=>some ([q a0],.int .i64 (f a0))
 |_=>none
def zlD(a:List V):Int:=kr (kw a)
theorem zoh:yT Tryz.prog 116 (zyw zlD zlq):=by
 intro args ps r h hp
 unfold zyw at h
 split at h
 ·rename_i a0
  simp only[za,zb]at h
  obtain⟨rfl,rfl⟩:=h
  obtain⟨ps,hps,hP⟩:zlq a0:=(zl.1 hp).1
  obtain⟨n,hn⟩:∃n:Int,n=a0.length:=⟨_,rfl⟩
  have hpl:a0.length=ps.length:=by rw[hps,yk]
  have hlen:=hP.len
  have gx:∀k,a0.getD k (.slc false 2 (.int .i64 0) [])=.slc false 2 (.int .i64 0) (I (ps.getD k [])):=fun k=>by rw[hps,qB]
  have hf0:zlD a0=kr ps:=by rw[zlD,hps,zO]
  generalize yD:yG=je
  refine zD (T:=tab) (B:=[(48,jg je)]) (Bi:=[]) [0,2,3,4] Tryz.func116 rfl rfl (by kernel_rfl) (zg rfl) zP zQ (by subst yD;exact(zm YR zy)) (by subst yD;exact zu) (by kernel_rfl) ?_
  intro L lp rr hL hr hf hlp
  conv=>cbv
  simp only[zp hL,sQ,←hn]
  refine⟨fun h=>by omega,fun _=>?_⟩
  refine hlp (Int×Int) _ _ _ [0,3,4] (fun x=>[(0,none,.val (.slc false 30 (.slc false 2 (.int .i64 0) []) a0)),(3,none,.val (.int .i64 x.1)),(4,none,.val (.int .i64 x.2))])
   (fun x=>0≤x.2∧x.2≤n∧x.1=kr (ps.take x.2.toNat)) (fun x=>(n-x.2).toNat) ((1,0)) (by subst hL;rfl) ?_ ?_
  ·exact⟨by simp,by simp only;omega,rfl⟩
  rintro⟨v,i⟩ ⟨i0,i1,hI⟩ hfx ag hag
  simp only at i0 i1 hI
  conv=>cbv
  simp only[zp hL,sQ,←hn,gx]
  refine⟨fun h2=>?_,fun h2=>?_⟩
  ·obtain⟨c,o,e1,e2,e3,e4,e5,e6,e7,e8,e9,e10,e11⟩:=hP.at (i:=i.toNat) (by omega)
   have hb:=hP.take_le (i.toNat+1) (by omega)
   have r1:je c 1 2000=true:=by rw[←yD];simp[yG];omega
   have r2:je o 1 2000=true:=by rw[←yD];simp[yG];omega
   have w1:IntKind.wrap .i64 (v*o)=v*o:=zo (by rw[hI,←e11];omega) (by rw[hI,←e11];omega)
   have e12:v*o=kr (ps.take (i.toNat+1)):=by rw[e11,hI]
   have l2:((0+1+1:Nat):Int)=2:=rfl
   have g0:[c,o].getD 0 0=c:=rfl
   have g1:[c,o].getD 1 0=o:=rfl
   simp only[e1,zj,zi,zr,zR,ui,w1,l2,g0,g1,r1,r2,Bool.true_eq_false,not_true,or_self,false_imp_iff,true_imp_iff,and_self,true_and]
   (repeat' first|(exact yR _)|(exact jZ rfl)|(exact qL _)|(apply And.intro)|(intro _))<;>(try first|exact True.intro|omega|rfl|(simp only[zi,zr,zj];omega))
   ·rw[zo (n:=i+1) (by omega) (by omega)]
    exact hag (_,i+1) ⟨by simp only;omega,by simp only;omega,by simp only;rw[show(i+1).toNat=i.toNat+1 by omega,e12]⟩ (by simp only;omega)
  ·rw[hr,hf0,hI,show i.toNat=ps.length by omega,List.take_length]
 ·cases h
theorem zoj:yT Tryz.prog 117 (zci JJ zb8):=by
 intro args ps r h hp
 unfold zci at h
 split at h
 ·rename_i a0 a1
  simp only[za,zb]at h
  obtain⟨rfl,rfl⟩:=h
  obtain⟨⟨xs,hxs,hl,hrl⟩,⟨ys,hys⟩⟩:zb8 a0 a1:=(zl.1 hp).1
  obtain⟨n,hn⟩:∃n:Int,n=a0.length:=⟨_,rfl⟩
  obtain⟨m,hm⟩:∃m:Int,m=a1.length:=⟨_,rfl⟩
  have hxl:a0.length=xs.length:=by rw[hxs,yk]
  have hyl:a1.length=ys.length:=by rw[hys,yk]
  have gx:∀k,a0.getD k (.slc false 2 (.int .i64 0) [])=.slc false 2 (.int .i64 0) (I (xs.getD k [])):=fun k=>by rw[hxs,qB]
  have gy:∀k,a1.getD k (.slc false 2 (.int .i64 0) [])=.slc false 2 (.int .i64 0) (I (ys.getD k [])):=fun k=>by rw[hys,qB]
  have hf0:JJ a0 a1=decide (xs=ys):=by rw[JJ,hxs,hys,zO,zO]
  generalize kQ:Yi=Zw
  generalize kq:zbU=Qy
  refine zD (T:=tab) (B:=[(69,Yj Zw Qy)]) (Bi:=[]) [0,1,4,5] Tryz.func117 rfl rfl (by kernel_rfl) (zg rfl) zP zQ (by subst kQ kq;exact(zm zde zy)) (by subst kQ kq;exact zu) (by kernel_rfl) ?_
  intro L lp rr hL hr hf hlp
  conv=>cbv
  simp only[zp hL,sQ,←hn,←hm]
  refine⟨fun h=>?_,fun h=>?_⟩
  ·rw[hr,hf0,decide_eq_false (fun e=>h (by rw[hn,hm,hxl,hyl,e]))]
  have hlen:xs.length=ys.length:=by omega
  refine hlp (Int) _ _ _ [0,1,5] (fun x=>[(0,none,.val (.slc false 30 (.slc false 2 (.int .i64 0) []) a0)),(1,none,.val (.slc false 30 (.slc false 2 (.int .i64 0) []) a1)),(5,none,.val (.int .i64 x))])
   (fun x=>0≤x∧x≤n∧xs.take x.toNat=ys.take x.toNat) (fun x=>(n-x).toNat) (0) (by subst hL;rfl) ?_ ?_
  ·exact⟨by simp,by omega,rfl⟩
  rintro i ⟨i0,i1,hI⟩ hfx ag hag
  have Ef:∀u v:List Int,Zw (I u) (I v)=decide (u=v):=fun u v=>by rw[←kQ,Yi,zq,zq]
  have Ql:∀u v:List Int,Qy (I u) (I v):=fun u v=>by rw[←kq];exact⟨⟨_,rfl⟩,⟨_,rfl⟩⟩
  conv=>cbv
  simp only[zp hL,sQ,←hn,←hm,gx,gy,Ef]
  refine⟨fun h2=>?_,fun h2=>?_⟩
  ·have h4:i.toNat<xs.length:=by omega
   have h5:i.toNat<ys.length:=by omega
   refine⟨i0,h2,i0,by omega,Ql _ _,fun h3=>?_,fun h3=>?_⟩
   ·rw[hr,hf0,decide_eq_false (fun e=>h3 (by rw[e]))]
   ·rw[zo (n:=i+1) (by omega) (by omega)]
    refine hag (i+1) ⟨by omega,by omega,?_⟩ (by omega)
    rw[zd,ze h4,zd,ze h5]at h3
    rw[show(i+1).toNat=i.toNat+1 by omega,zF h4,zF h5,hI]
    exact congrArg (fun z=>List.take i.toNat ys++[z]) h3
  ·have h4:xs=ys:=by rwa [zB (by omega),zB (by omega)]at hI
   rw[hr,hf0,decide_eq_true h4]
 ·cases h
def zoB(xs:List Int)(i:Nat):List Int:=[W ((if i=0 then xs.getD (i+1) 0 else W (xs.getD (i+1) 0-xs.getD i 0)).tdiv ((dv xs).getD (i+1) 0)),W (((dv xs).getD i 0).tdiv ((dv xs).getD (i+1) 0))]
def nwt(xs:List Int):List (List Int):=qD (zoB xs) (xs.length-1)
def zyB(f:List V→List V)(q:List V→Prop):zN:=fun
 |[.agg [.slc false 2 (.int .i64 0) a0]]=>some ([q a0],.slc true 30 (.slc true 2 (.int .i64 0) []) (f a0))
 |_=>none
def zo0(a:List V):List V:=II true (nwt (qb a))
theorem zmW:yT Tryz.prog 118 (zyB zo0 ZR):=by
 intro args ps r h hp
 unfold zyB at h
 split at h
 ·rename_i a0
  simp only[za,zb]at h
  obtain⟨rfl,rfl⟩:=h
  have hq:ZR a0:=(zl.1 hp).1
  have hqP:=hq.isP
  obtain⟨xs,hxs,hb⟩:=hq
  have g1:V.frzs a0=a0:=by rw[hxs,zG]
  have e2:zo0 a0=II true (nwt xs):=by rw[zo0,hxs,zq]
  have e3:Jw a0=I (dv xs):=by rw[Jw,hxs,zq]
  have gx:∀k,a0.getD k (.int .i64 0)=.int .i64 (xs.getD k 0):=fun k=>by rw[hxs,zR]
  obtain⟨ds,hds⟩:∃ds,ds=I (dv xs):=⟨_,rfl⟩
  have gd:∀k,ds.getD k (.int .i64 0)=.int .i64 ((dv xs).getD k 0):=fun k=>by rw[hds,zR]
  obtain⟨n,hn⟩:∃n:Int,n=a0.length:=⟨_,rfl⟩
  obtain⟨m,hm⟩:∃m:Int,m=ds.length:=⟨_,rfl⟩
  have hxl:a0.length=xs.length:=by rw[hxs,zj]
  have hdl:ds.length=xs.length:=by rw[hds,zj,hb.dlen]
  have hmn:m=n:=by omega
  have h1:=hb.len
  have h2:=hb.pos
  generalize ZS:Jw=KN
  generalize zjC:IsP=zyL
  refine zD (T:=tab) (B:=[(119,zsx KN zyL)]) (Bi:=[]) [2000008048,0,1,2,3,4,5,6] Tryz.func118 rfl rfl (by kernel_rfl) (zg rfl) zP zQ (by subst ZS zjC;exact(zm zee zy)) (by subst ZS zjC;exact zu) (by kernel_rfl) ?_
  intro L lp rr hL hr hf hlp
  conv=>cbv
  simp only[zp hL,sQ,g1]
  subst ZS zjC
  simp only[e3,←hds]
  refine⟨hqP,?_⟩
  refine hlp (List V×Int) _ _ _ [1,3,4,5] (fun x=>[(1,none,.val (.box 68 (.agg [.slc false 2 (.int .i64 0) a0]))),(3,none,.val (.slc true 2 (.int .i64 0) ds)),(4,none,.val (.slc true 30 (.slc true 2 (.int .i64 0) []) x.1)),(5,none,.val (.int .i64 x.2))])
   (fun x=>1≤x.2∧x.2≤n∧x.1=II true (qD (zoB xs) (x.2-1).toNat)) (fun x=>(n-x.2).toNat) (([],1)) (by subst hL;rfl) ?_ ?_
  ·exact⟨by simp,by simp only;omega,rfl⟩
  rintro⟨es,i⟩ ⟨i0,i1,hes⟩ hfx ag hag
  simp only at i0 i1 hes
  obtain⟨el,hel0⟩:∃el:Int,el=es.length:=⟨_,rfl⟩
  have hel:el=i-1:=by rw[hel0,hes,yk,qh];omega
  have w1:IntKind.wrap .i64 (i-1)=i-1:=zo (by omega) (by omega)
  conv=>cbv
  simp only[zp hL,sQ,←hn,←hm,←hel0,gx,gd,w1]
  have p1:=hb.dpos i.toNat
  have fin:∀v:Int,v=(if(i-1).toNat=0 then xs.getD ((i-1).toNat+1) 0 else W (xs.getD ((i-1).toNat+1) 0-xs.getD (i-1).toNat 0))→II true (qD (zoB xs) (i-1).toNat)++[V.slc true 2 (.int .i64 0) [.int .i64 (IntKind.wrap .i64 (v.tdiv ((dv xs).getD i.toNat 0))),.int .i64 (IntKind.wrap .i64 (((dv xs).getD (i-1).toNat 0).tdiv ((dv xs).getD i.toNat 0)))]]=II true (qD (zoB xs) (i+1-1).toNat):=by
   intro v hv
   obtain⟨k,hk⟩:∃k:Nat,i=k+1:=⟨(i-1).toNat,by omega⟩
   subst hk
   rw[show((k:Int)+1+1-1).toNat=k+1 by omega,Jj,ZH]
   rw[show((k:Int)+1-1).toNat=k by omega]at hv
   rw[show((k:Int)+1).toNat=k+1 by omega,show((k:Int)+1-1).toNat=k by omega]
   rw[hv]
   rfl
  have wi:IntKind.wrap .i64 (i+1)=i+1:=zo (by omega) (by omega)
  refine⟨fun h=>?_,fun h=>?_⟩
  ·(repeat' first|(exact yR _)|(exact jZ rfl)|(exact qL _)|(apply And.intro)|(intro _))<;>(try first|exact True.intro|omega|rfl|(simp only[zi,zr,zj];omega))
   ·rw[wi,hes]
    exact hag (_,i+1) ⟨by simp only;omega,by simp only;omega,fin _ (by rw[if_neg (by omega),show(i-1).toNat+1=i.toNat by omega])⟩ (by simp only;omega)
   ·rw[wi,hes]
    exact hag (_,i+1) ⟨by simp only;omega,by simp only;omega,fin _ (by rw[if_pos (by omega),show(i-1).toNat+1=i.toNat by omega])⟩ (by simp only;omega)
  ·rw[hr,e2,hes,show(i-1).toNat=xs.length-1 by omega]
   rfl
 ·cases h
def zhi(la:Int):List (List Int)→List Int
 |[]=>[]
 |p::l=>(la+p.getD 0 0*kr l)::zhi (la+p.getD 0 0*kr l) l
def QL(ps:List (List Int)):List Int:=kr ps::zhi 0 ps
theorem zhh:∀(l:List (List Int)) (la:Int),(zhi la l).length=l.length
 |[],_=>rfl
 |_::l,_=>by simp[zhi,zhh l]
def okT(ps:List (List Int)):Bool:=YT (QL ps)&&decide (nwt (QL ps)=ps)
def zuu(f:List V→List V×Int)(q:List V→Prop):zN:=fun
 |[.slc false 30 (.slc false 2 (.int .i64 0) []) a0]=>some ([q a0],.tup [.agg [.slc true 2 (.int .i64 0) ((f a0).1)],.int .i64 ((f a0).2)])
 |_=>none
def zo4(a:List V):List V×Int:=if okT (kw a)=true then(I (QL (kw a)),0)else([],5)
theorem zhU:yT Tryz.prog 95 (zuu zo4 zlq):=by
 intro args ps r h hp
 unfold zuu at h
 split at h
 ·rename_i a0
  simp only[za,zb]at h
  obtain⟨rfl,rfl⟩:=h
  have hq:zlq a0:=(zl.1 hp).1
  have hq0:=hq
  obtain⟨ps,hps,hP⟩:=hq
  obtain⟨n,hn⟩:∃n:Int,n=a0.length:=⟨_,rfl⟩
  have hpl:a0.length=ps.length:=by rw[hps,yk]
  have hlen:=hP.len
  have gx:∀k,a0.getD k (.slc false 2 (.int .i64 0) [])=.slc false 2 (.int .i64 0) (I (ps.getD k [])):=fun k=>by rw[hps,qB]
  have hfr:V.frzs a0=a0:=by rw[hps,yF]
  have hf0:zo4 a0=if okT ps=true then(I (QL ps),0)else([],5):=by rw[zo4,hps,zO]
  obtain⟨N,hN⟩:∃N:Int,N=kr ps:=⟨_,rfl⟩
  have e1:zlD a0=N:=by rw[zlD,hps,zO,hN]
  have N1:=hP.pos
  have N2:=hP.pr
  generalize zqP:zlD=zDe
  generalize zdH:zlq=ziq
  generalize kb:uW=Za
  generalize yv:jU=qA
  generalize zqS:zo0=zxa
  generalize jP:ZR=Yo
  generalize zaC:JJ=zhp
  generalize zaA:zb8=zlh
  refine zD (T:=tab) (B:=[(116,zyw zDe ziq),(52,Ko Za qA),(118,zyB zxa Yo),(117,zci zhp zlh)]) (Bi:=[]) [2000011653,0,2,3,4,5,6,7,8] Tryz.func95 rfl rfl (by kernel_rfl) (zg rfl) zP zQ (by subst zqP zdH kb yv zqS jP zaC zaA;exact(zm zoh (zm zcA (zm zmW (zm zoj zy))))) (by subst zqP zdH kb yv zqS jP zaC zaA;exact zu) (by kernel_rfl) ?_
  intro L lp rr hL hr hf hlp
  conv=>cbv
  simp only[zp hL,sQ,hfr]
  subst zqP
  simp only[e1]
  have qF:ziq a0:=by rw[←zdH];exact hq0
  refine⟨qF,fun h=>by omega,fun _=>?_⟩
  refine hlp (List V×Int×Int×Int) _ _ _ [0,2,5,6,7,8] (fun x=>[(0,none,.val (.slc false 30 (.slc false 2 (.int .i64 0) []) a0)),(2,none,.val (.box 68 (.agg [.slc true 2 (.int .i64 0) []]))),(5,none,.val (.box 68 (.agg [.slc true 2 (.int .i64 0) x.1]))),(6,none,.val (.int .i64 x.2.1)),(7,none,.val (.int .i64 x.2.2.1)),(8,none,.val (.int .i64 x.2.2.2))])
   (fun x=>0≤x.2.2.2∧x.2.2.2≤n∧x.2.1=kr (ps.drop x.2.2.2.toNat)∧0≤x.2.2.1∧x.2.2.1≤6400*x.2.2.2∧∃pre:List Int,x.1=I (N::pre)∧pre.length=x.2.2.2.toNat∧pre++zhi x.2.2.1 (ps.drop x.2.2.2.toNat)=zhi 0 ps) (fun x=>(n-x.2.2.2).toNat) (([.int .i64 N],N,0,0)) (by subst hL;rfl) ?_ ?_
  ·exact⟨by simp,by simp only;omega,hN,by simp,by simp,[],rfl,rfl,rfl⟩
  rintro⟨es,e,la,i⟩ ⟨i0,i1,he,l0,l1,pre,h1,h2,h3⟩ hfx ag hag
  simp only at i0 i1 he l0 l1 h1 h2 h3
  obtain⟨el,hel0⟩:∃el:Int,el=es.length:=⟨_,rfl⟩
  have hel:el=i+1:=by rw[hel0,h1,zj,zi];omega
  conv=>cbv
  simp only[zp hL,sQ,←hn,←hel0,gx]
  refine⟨fun h=>?_,fun h=>?_⟩
  ·obtain⟨c,o,e1,e2,e3,e4,e5,e6,e7,e8,e9,e10,e11⟩:=hP.at (i:=i.toNat) (by omega)
   have g0:[c,o].getD 0 0=c:=rfl
   have g1:[c,o].getD 1 0=o:=rfl
   have hed:e.tdiv o=kr (ps.drop (i.toNat+1)):=by rw[he,e9,Int.mul_tdiv_cancel_left _ (by omega)]
   obtain⟨P,hPP⟩:∃P:Int,P=kr (ps.drop (i.toNat+1)):=⟨_,rfl⟩
   rw[←hPP]at hed e7 e8
   have wd:IntKind.wrap .i64 P=P:=zo (by omega) (by omega)
   have c0:0≤c*P:=Int.mul_nonneg (by omega) (by omega)
   have c1:c*P≤100*64:=JN (by omega) (by omega) (by omega) (by omega)
   have wm:IntKind.wrap .i64 (c*P)=c*P:=zo (by omega) (by omega)
   have wl:IntKind.wrap .i64 (la+c*P)=la+c*P:=zo (by omega) (by omega)
   have wi:IntKind.wrap .i64 (i+1)=i+1:=zo (by omega) (by omega)
   simp only[e1,zj,zi,zr,g0,g1,hed,wd,wm,wl,wi]
   (repeat' first|(exact yR _)|(exact jZ rfl)|(exact qL _)|(apply And.intro)|(intro _))<;>(try first|exact True.intro|omega|rfl|(simp only[zi,zr,zj];omega))
   refine hag (_,_,_,i+1) ⟨by simp only;omega,by simp only;omega,by simp only;rw[hPP,show(i+1).toNat=i.toNat+1 by omega],by simp only;omega,by simp only;omega,pre++[la+c*P],by simp only;rw[h1];simp[I],by simp only[zk,zi,zr];omega,?_⟩ (by simp only;omega)
   simp only
   rw[show(i+1).toNat=i.toNat+1 by omega,List.append_assoc,←h3,e6]
   simp only[zhi,jb,List.singleton_append,←hPP]
  ·have hes:es=I (QL ps):=by
    rw[List.drop_of_length_le (by omega)]at h3
    simp only[zhi,yw]at h3
    rw[h1,h3,hN]
    rfl
   have Eb:Za (I (QL ps))=YT (QL ps):=by rw[←kb,uW,zq]
   have En:zxa (I (QL ps))=II true (nwt (QL ps)):=by rw[←zqS,zo0,zq]
   have El:zhp (II false (nwt (QL ps))) a0=decide (nwt (QL ps)=ps):=by rw[←zaC,JJ,zO,hps,zO]
   have tl:(QL ps).length≤4:=by simp only[QL,zi,zhh];omega
   rw[hes]
   simp only[zG,Eb,En,yF,hfr,El]
   refine⟨by rw[←yv];exact⟨⟨_,rfl⟩,by rw[zj];omega⟩,fun h1=>by rw[←jP];exact⟨_,rfl,YI h1⟩,fun _=>Kt _,fun _=>?_,fun h1=>?_,fun h1=>?_⟩
   ·rw[←zaA]
    refine⟨⟨_,rfl,by rw[nwt,qh];omega,fun r hr=>?_⟩,_,hps⟩
    simp only[nwt,qD,List.mem_map]at hr
    obtain⟨k,_,rfl⟩:=hr
    simp[zoB]
   ·rw[hr,hf0,if_neg]
    intro h2
    simp only[okT,zh]at h2
    rcases h1 with h1|h1
    ·rw[h1]at h2;cases h2.1
    ·rw[h1]at h2;cases h2.2
   ·rw[hr,hf0,if_pos]
    simp only[okT,zh]
    exact h1
 ·cases h
end Go.Ax
namespace Go.Ax
open Go.Proofs
def cpU(o:Int):Nat→Int→Int
 |0,c=>c
 |k+1,c=>if jk c o>1 then cpU o k (c+1)else c
def cpT(c o:Int):Int:=c+(1-c)%o
def cpo(c o:Int):Int:=cpU o ((cpT c o-c).toNat+1) c
theorem zpa{c o:Int}(ho:2≤o):c≤cpT c o∧cpT c o<c+o:=by
 have h1:=Int.emod_nonneg (1-c) (show o≠0 by omega)
 have h2:=Int.emod_lt_of_pos (1-c) (show 0<o by omega)
 rw[cpT];omega
theorem zwN{c o:Int}(hc:1≤c)(ho:2≤o):jk (cpT c o) o=1:=by
 have h0:=(zpa (c:=c) ho).1
 have h1:cpT c o%o=1:=by
  rw[cpT,Int.add_emod,Int.emod_emod,←Int.add_emod,show c+(1-c)=1 by omega,Int.emod_eq_of_lt (by omega) (by omega)]
 rw[ztX (by omega) (by omega)]
 obtain⟨t,ht⟩:∃t:Nat,cpT c o=t:=⟨(cpT c o).toNat,by omega⟩
 obtain⟨p,hp⟩:∃p:Nat,o=p:=⟨o.toNat,by omega⟩
 rw[ht,hp]at h1
 rw[ht,hp,zC,zC,Nat.gcd_comm,Nat.gcd_rec]
 have:t%p=1:=by exact_mod_cast h1
 rw[this,Nat.gcd_one_left]
 rfl
theorem zzJ(o:Int):∀(k:Nat) (c:Int),c≤cpU o k c∧cpU o k c≤c+k
 |0,c=>by simp[cpU]
 |k+1,c=>by
  have:=zzJ o k (c+1)
  simp only[cpU]
  split<;>omega
theorem zzH{c o:Int}(ho:2≤o):c≤cpo c o∧cpo c o≤c+o:=by
 have h1:=zzJ o ((cpT c o-c).toNat+1) c
 have h2:=zpa (c:=c) ho
 rw[cpo];omega
abbrev jI(es:List V)(σ:Int×Int)(n:Int):Int:=jm es σ.1 σ.2 n
abbrev qa(es:List V)(σ:Int×Int)(n:Int):Int×Int:=(jl es σ.1 σ.2 n,jx es σ.1 σ.2 n)
abbrev Yd(es:List V)(σ:Int×Int)(l:List Int):Int:=QC es σ.1 σ.2 (I l)
abbrev Kx(es:List V)(σ:Int×Int)(l:List Int):Int×Int:=(Ja es σ.1 σ.2 (I l),QZ es σ.1 σ.2 (I l))
theorem zel{es:List V}{σ:Int×Int}{n:Int}(hq:yi es σ.1 σ.2)(hn:1≤n):0≤jI es σ n∧jI es σ n<n:=YA hq hn
theorem jv{es:List V}{σ:Int×Int}{n:Int}(hq:yi es σ.1 σ.2):yi es (qa es σ n).1 (qa es σ n).2:=uf hq
theorem zaM{es:List V}{σ:Int×Int}{l:List Int}(hq:yi es σ.1 σ.2):yi es (Kx es σ l).1 (Kx es σ l).2:=uf hq
theorem zfZ{es:List V}{σ:Int×Int}{l:List Int}(hq:yi es σ.1 σ.2)(hl:l≠[]):Yd es σ l∈l:=by
 have h1:1≤(l.length:Int):=by
  cases l with
  |nil=>exact absurd rfl hl
  |cons x l=>simp only[zi];omega
 have h2:=YA (n:=(I l).length) hq (by rw[zj];exact h1)
 rw[Yd,QC,zq]
 rw[zj]at h2 ⊢
 have h3:(jm es σ.1 σ.2 l.length).toNat<l.length:=by omega
 rw[zd,ze h3]
 exact ya h3
abbrev SmS:Type:=List (List Int)×Int×Int×Int
def smR(es:List V)(most:Int)(s:SmS):SmS:=
 let σ0:=(s.2.2.1,s.2.2.2)
 let own:=2+jI es σ0 4
 let σ1:=qa es σ0 4
 if most<s.2.1*own then(s.1,s.2.1,σ1)else
 let m:=Yd es σ1 [4,8,12]
 let σ2:=Kx es σ1 [4,8,12]
 let c0:=1+jI es σ2 m
 let σ3:=qa es σ2 m
 let c1:=cpo c0 own
 let c2:=if s.1.length=0 then cpo (c1+own) own else c1
 (s.1++[[c2,own]],s.2.1*own,σ3)
def smN(es:List V)(most:Int):Nat→SmS→SmS
 |0,s=>s
 |k+1,s=>smN es most k (smR es most s)
structure SmOk (es:List V) (most:Int) (s:SmS) (k:Nat):Prop where
 len:s.1.length+k≤3
 two:∀p∈s.1,∃c o,p=[c,o]∧1≤c∧c≤100∧2≤o∧o≤5
 pr:kr s.1=s.2.1
 n1:1≤s.2.1
 n2:s.2.1≤most
 src:yi es s.2.2.1 s.2.2.2
theorem zAJ(l:List (List Int))(c o:Int):kr (l++[[c,o]])=kr l*o:=by
 rw[ziU]
 simp[kr]
theorem SmOk.round{es:List V}{most:Int}{s:SmS}{k:Nat}(h:SmOk es most s (k+1)):SmOk es most (smR es most s) k:=by
 obtain⟨ps,n,a,b⟩:=s
 obtain⟨h1,h2,h3,h4,h5,h6⟩:=h
 simp only at h1 h2 h3 h4 h5 h6
 have ho:=zel (σ:=(a,b)) (n:=4) h6 (by decide)
 have hs:=jv (σ:=(a,b)) (n:=4) h6
 unfold smR
 simp only
 split
 ·exact⟨by simp only;omega,h2,h3,h4,h5,hs⟩
 ·rename_i hm
  have hs2:=zaM (σ:=qa es (a,b) 4) (l:=[4,8,12]) hs
  have hp:=zfZ (σ:=qa es (a,b) 4) (l:=[4,8,12]) hs (by simp)
  obtain⟨m,hmm⟩:∃m,m=Yd es (qa es (a,b) 4) [4,8,12]:=⟨_,rfl⟩
  rw[←hmm]at hp ⊢
  have hm2:1≤m∧m≤12:=by simp at hp;omega
  have hc:=zel (σ:=Kx es (qa es (a,b) 4) [4,8,12]) (n:=m) hs2 (by omega)
  have hs3:=jv (σ:=Kx es (qa es (a,b) 4) [4,8,12]) (n:=m) hs2
  obtain⟨o,hoo⟩:∃o,o=2+jI es (a,b) 4:=⟨_,rfl⟩
  obtain⟨c0,hc0⟩:∃c0,c0=1+jI es (Kx es (qa es (a,b) 4) [4,8,12]) m:=⟨_,rfl⟩
  rw[←hoo]at hm ⊢
  rw[←hc0]
  have l1:=zzH (c:=c0) (o:=o) (by omega)
  have l2:=zzH (c:=cpo c0 o+o) (o:=o) (by omega)
  have hno:1*1≤n*o:=JN (by omega) (by omega) (by omega) (by omega)
  refine⟨by simp only[zk,zi,zr];omega,fun p hp=>?_,by simp only;rw[zAJ,h3],by simp only;omega,by simp only;omega,hs3⟩
  rcases yU.1 hp with hp|hp
  ·exact h2 p hp
  ·simp only[yp]at hp
   refine⟨_,_,hp,?_⟩
   split<;>omega
theorem SmOk.run{es:List V}{most:Int}:∀{k:Nat} {s:SmS},SmOk es most s k→SmOk es most (smN es most k s) 0
 |0,_,h=>h
 |k+1,_,h=>h.round.run
theorem SmOk.prs{es:List V}{most:Int}{s:SmS}{k:Nat}(h:SmOk es most s k)(hm:most≤64):Prs s.1:=⟨by have:=h.len;omega,h.two,by have:=h.pr;have:=h.n2;omega⟩
abbrev zhs(es:List V)(σ:Int×Int):List Int×Int×Int:=([Yd es σ [1,2,3]],Kx es σ [1,2,3])
def smF(es:List V)(a h most term:Int):List Int×Int×Int:=
 let s:=smN es most (1+jI es (a,h) 3).toNat ([],1,qa es (a,h) 3)
 if okT s.1=true then
  if term<(QL s.1).getD s.1.length 0 then zhs es s.2.2
  else if jI es s.2.2 12=0 then zhs es (qa es s.2.2 12)
  else(QL s.1,qa es s.2.2 12)
 else zhs es s.2.2
def zkD(es:List V)(a h most term:Int):List V×Int×Int:=(I (smF es a h most term).1,(smF es a h most term).2)
def zm1(es:List V)(a h most _:Int):Prop:=yi es a h∧1≤most∧most≤64
def zsm(f:List V→Int→Int→Int→Int→List V×Int×Int)(q:List V→Int→Int→Int→Int→Prop):jz:=fun
 |[.box 71 (.agg [.slc false 5 (.int .u8 0) a0,.int .i64 a1,.int .u64 a2]),.int .i64 a3,.int .i64 a4]=>some ([q a0 a1 a2 a3 a4],.agg [.slc true 2 (.int .i64 0) (f a0 a1 a2 a3 a4).1],.box 71 (.agg [.slc false 5 (.int .u8 0) a0,.int .i64 (f a0 a1 a2 a3 a4).2.1,.int .u64 (f a0 a1 a2 a3 a4).2.2]))
 |_=>none
theorem zgT:zcY Tryz.prog 57 1000 (zsm zkD zm1):=by
 intro args ps r y h hp
 unfold zsm at h
 split at h
 ·rename_i a0 a1 a2 a3 a4
  simp only[za,zb]at h
  obtain⟨rfl,rfl,rfl⟩:=h
  obtain⟨hq,m1,m2⟩:zm1 a0 a1 a2 a3 a4:=(zl.1 hp).1
  obtain⟨s0,hs0⟩:∃s0:SmS,s0=([],1,qa a0 (a1,a2) 3):=⟨_,rfl⟩
  have hk:=zel (σ:=(a1,a2)) (n:=3) hq (by decide)
  obtain⟨k0,hk0⟩:∃k0:Int,k0=1+jI a0 (a1,a2) 3:=⟨_,rfl⟩
  obtain⟨sE,hsE⟩:∃sE:SmS,sE=smN a0 a3 k0.toNat s0:=⟨_,rfl⟩
  have ok0:SmOk a0 a3 s0 k0.toNat:=by
   rw[hs0]
   exact⟨by simp only[zr];omega,by simp,rfl,by simp,by simp only;omega,jv (σ:=(a1,a2)) hq⟩
  generalize yP:jm=qZ
  generalize yO:jl=qY
  generalize yN:jx=qX
  generalize qz:zdi=kI
  generalize jE:QC=ZC
  generalize jD:Ja=ZB
  generalize jC:QZ=ZA
  generalize kf:zfU=YF
  generalize YE:jk=zeB
  generalize kS:zex=Jr
  generalize zq8:zo4=zxi
  generalize zdH:zlq=ziq
  refine zfv (T:=tab) (B:=[(85,zaq zeB Jr),(95,zuu zxi ziq)]) (Bi:=[(25,0,false,zaX qZ qY qX kI),(50,0,false,zfg ZC ZB ZA YF)]) 0 [2000007832,2000018888,0,1,2,6,7,8,9,10,11,12,13] Tryz.func57 rfl rfl (by kernel_rfl) (zg rfl) zP zQ (by subst yP yO yN qz jE jD jC kf YE kS zq8 zdH;exact(zm zeJ (zm zhU zy))) (by subst yP yO yN qz jE jD jC kf YE kS zq8 zdH;exact(qg ki (qg ZM zu))) (by kernel_rfl) rfl rfl zbj rfl ?_
  intro L lp rr yy hL hr hy hf hlp
  conv=>cbv
  obtain⟨b1,hb1⟩:∃b1,b1=jl a0 a1 a2 3:=⟨_,rfl⟩
  obtain⟨b2,hb2⟩:∃b2,b2=jx a0 a1 a2 3:=⟨_,rfl⟩
  have e0:qZ a0 a1 a2 3=k0-1:=by rw[←yP];show jI a0 (a1,a2) 3=_;omega
  have e1:qY a0 a1 a2 3=b1:=by rw[←yO,hb1]
  have e2:qX a0 a1 a2 3=b2:=by rw[←yN,hb2]
  have Qn:∀a h n,yi a0 a h→kI a0 a h n:=fun a h n hs=>by rw[←qz];exact hs
  have hs0':s0=([],1,b1,b2):=by rw[hs0,hb1,hb2]
  simp only[zp hL,sQ,true_and,e0,e1,e2,show 1+(k0-1)=k0 by omega,zo (n:=k0) (by omega) (by omega)]
  refine⟨Qn _ _ _ hq,?_⟩
  refine hlp (List V×Int×Int×Int×Int) _ _ _ [0,1,2,6,7,8,9] (fun x=>[(0,none,.val (.box 71 (.agg [.slc false 5 (.int .u8 0) a0,.int .i64 x.2.2.1,.int .u64 x.2.2.2.1]))),(1,none,.val (.int .i64 a3)),(2,none,.val (.int .i64 a4)),(6,none,.val (.box 68 (.agg [.slc true 2 (.int .i64 0) []]))),(7,none,.val (.slc true 30 (.slc true 2 (.int .i64 0) []) x.1)),(8,none,.val (.int .i64 x.2.1)),(9,none,.val (.int .i64 x.2.2.2.2))])
   (fun x=>0≤x.2.2.2.2∧∃ps,x.1=II true ps∧SmOk a0 a3 (ps,x.2.1,x.2.2.1,x.2.2.2.1) x.2.2.2.2.toNat∧smN a0 a3 x.2.2.2.2.toNat (ps,x.2.1,x.2.2.1,x.2.2.2.1)=sE) (fun x=>x.2.2.2.2.toNat) (([],1,b1,b2,k0)) (by subst hL;rfl) ?_ ?_
  ·exact⟨by simp only;omega,[],rfl,by simp only;rw[←hs0'];exact ok0,by simp only;rw[←hs0',hsE]⟩
  rintro⟨es,n,a,h,k⟩ ⟨i0,ps,hes,hok,hsm⟩ hfx ag hag
  simp only at i0 hes hok hsm
  obtain⟨pl,hpl⟩:∃pl:Int,pl=es.length:=⟨_,rfl⟩
  have hpl2:pl=ps.length:=by rw[hpl,hes,yk]
  have hsrc:yi a0 a h:=hok.src
  obtain⟨o,ho⟩:∃o,o=2+jI a0 (a,h) 4:=⟨_,rfl⟩
  obtain⟨A1,hA1⟩:∃A1,A1=jl a0 a h 4:=⟨_,rfl⟩
  obtain⟨H1,hH1⟩:∃H1,H1=jx a0 a h 4:=⟨_,rfl⟩
  obtain⟨m,hm⟩:∃m,m=QC a0 A1 H1 (I [4,8,12]):=⟨_,rfl⟩
  obtain⟨A2,hA2⟩:∃A2,A2=Ja a0 A1 H1 (I [4,8,12]):=⟨_,rfl⟩
  obtain⟨H2,hH2⟩:∃H2,H2=QZ a0 A1 H1 (I [4,8,12]):=⟨_,rfl⟩
  obtain⟨c0,hc0⟩:∃c0,c0=1+jm a0 A2 H2 m:=⟨_,rfl⟩
  obtain⟨A3,hA3⟩:∃A3,A3=jl a0 A2 H2 m:=⟨_,rfl⟩
  obtain⟨H3,hH3⟩:∃H3,H3=jx a0 A2 H2 m:=⟨_,rfl⟩
  have hR:smR a0 a3 (ps,n,a,h)=if a3<n*o then(ps,n,A1,H1)else(ps++[[if ps.length=0 then cpo (cpo c0 o+o) o else cpo c0 o,o]],n*o,A3,H3):=by
   subst hA3 hH3 hc0 hA2 hH2 hm hA1 hH1 ho
   rfl
  have o1:=zel (σ:=(a,h)) (n:=4) hsrc (by decide)
  have s1:yi a0 A1 H1:=by rw[hA1,hH1];exact uf hsrc
  have mp:m∈[4,8,12]:=by rw[hm];exact zfZ (σ:=(A1,H1)) (l:=[4,8,12]) s1 (by simp)
  have m12:1≤m∧m≤12:=by simp at mp;omega
  have s2:yi a0 A2 H2:=by rw[hA2,hH2];exact uf s1
  have c1:=YA (n:=m) s2 (by omega)
  have s3:yi a0 A3 H3:=by rw[hA3,hH3];exact uf s2
  have n1:1≤n:=hok.n1
  have n2:n≤a3:=hok.n2
  have no0:n*2≤n*o:=Int.mul_le_mul_of_nonneg_left (by omega) (by omega)
  have no1:n*o≤64*5:=JN (by omega) (by omega) (by omega) (by omega)
  have g0:qZ a0 a h 4=o-2:=by rw[←yP];show jI a0 (a,h) 4=_;omega
  have g1:qY a0 a h 4=A1:=by rw[←yO,hA1]
  have g2:qX a0 a h 4=H1:=by rw[←yN,hH1]
  have g3:∀l,l=I [4,8,12]→ZC a0 A1 H1 l=m∧ZB a0 A1 H1 l=A2∧ZA a0 A1 H1 l=H2∧YF a0 A1 H1 l:=by
   intro l hl
   rw[hl,←jE,←jD,←jC,←kf,hm,hA2,hH2]
   exact⟨rfl,rfl,rfl,s1,⟨_,rfl⟩,by simp,by simp⟩
  obtain⟨g4,g5,g6,g7⟩:=g3 (V.frzs (V.frzs [V.int IntKind.i64 4,V.int IntKind.i64 8,V.int IntKind.i64 12])) rfl
  have g8:qZ a0 A2 H2 m=c0-1:=by rw[←yP];omega
  have g9:qY a0 A2 H2 m=A3:=by rw[←yO,hA3]
  have g10:qX a0 A2 H2 m=H3:=by rw[←yN,hH3]
  have Eg:∀x,zeB x o=jk x o:=fun x=>by rw[←YE]
  have Qa:∀x,Jr x o:=fun x=>by rw[←kS];trivial
  have wo:IntKind.wrap .i64 (2+(o-2))=o:=by rw[show 2+(o-2)=o by omega];exact zo (by omega) (by omega)
  have wno:IntKind.wrap .i64 (n*o)=n*o:=zo (by omega) (by omega)
  have wc0:IntKind.wrap .i64 (1+(c0-1))=c0:=by rw[show 1+(c0-1)=c0 by omega];exact zo (by omega) (by omega)
  have hst:0<k→SmOk a0 a3 (smR a0 a3 (ps,n,a,h)) (k-1).toNat∧smN a0 a3 (k-1).toNat (smR a0 a3 (ps,n,a,h))=sE:=by
   intro hk
   have e:k.toNat=(k-1).toNat+1:=by omega
   rw[e]at hok hsm
   exact⟨hok.round,hsm⟩
  have kl:=hok.len
  simp only at kl
  have cT1:=zpa (c:=c0) (o:=o) (by omega)
  conv=>cbv
  simp only[zp hL,sQ,true_and,←hpl,g0,g1,g2,g4,g5,g6,g7,g8,g9,g10,wo,wno,wc0]
  refine⟨fun h1=>⟨Qn _ _ _ hsrc,fun h2=>?_,fun h2=>⟨Qn _ _ _ s2,?_⟩⟩,fun h1=>?_⟩
  ·rw[zo (n:=k-1) (by omega) (by omega)]
   obtain⟨t1,t2⟩:=hst h1
   rw[hR,if_pos h2]at t1 t2
   exact hag (es,n,A1,H1,k-1) ⟨by simp only;omega,ps,hes,t1,t2⟩ (by simp only;omega)
  ·obtain⟨t1,t2⟩:=hst h1
   rw[hR,if_neg h2]at t1 t2
   refine hlp (Int) _ _ _ [0,1,2,6,7,8,9,10,11] (fun x=>[(0,none,.val (.box 71 (.agg [.slc false 5 (.int .u8 0) a0,.int .i64 A3,.int .u64 H3]))),(1,none,.val (.int .i64 a3)),(2,none,.val (.int .i64 a4)),(6,none,.val (.box 68 (.agg [.slc true 2 (.int .i64 0) []]))),(7,none,.val (.slc true 30 (.slc true 2 (.int .i64 0) []) es)),(8,none,.val (.int .i64 n)),(9,none,.val (.int .i64 k)),(10,none,.val (.int .i64 o)),(11,none,.val (.int .i64 x))])
    (fun x=>c0≤x∧x≤cpT c0 o∧cpU o ((cpT c0 o-x).toNat+1) x=cpo c0 o) (fun x=>(cpT c0 o-x).toNat) (c0) (by subst hL;rfl) ?_ ?_
   ·exact⟨by omega,by omega,rfl⟩
   rintro z ⟨x0,x1,hx⟩ hfx2 ag2 hag2
   conv=>cbv
   simp only[zp hL,sQ,true_and,←hpl,Eg]
   refine⟨Qa _,fun h3=>?_,fun h3=>?_⟩
   ·rw[zo (n:=z+1) (by omega) (by omega)]
    have hne:z≠cpT c0 o:=fun e=>by
     rw[e,zwN (by omega) (by omega)]at h3
     omega
    refine hag2 (z+1) ⟨by omega,by omega,?_⟩ (by omega)
    rw[←hx,show(cpT c0 o-z).toNat=(cpT c0 o-(z+1)).toNat+1 by omega]
    exact(if_pos (show jk z o>1 from h3)).symm
   ·have hx2:cpo c0 o=z:=by
     rw[←hx]
     exact if_neg (show ¬jk z o>1 from h3)
    rw[hx2]at t1 t2
    have wk:IntKind.wrap .i64 (k-1)=k-1:=zo (by omega) (by omega)
    refine⟨fun h4=>?_,fun h4=>?_⟩
    ·have hp0:ps.length=0:=by omega
     rw[if_pos hp0]at t1 t2
     have cT2:=zpa (c:=z+o) (o:=o) (by omega)
     rw[zo (n:=z+o) (by omega) (by omega)]
     refine hlp (Int) _ _ _ [0,1,2,6,7,8,9,10,11] (fun x=>[(0,none,.val (.box 71 (.agg [.slc false 5 (.int .u8 0) a0,.int .i64 A3,.int .u64 H3]))),(1,none,.val (.int .i64 a3)),(2,none,.val (.int .i64 a4)),(6,none,.val (.box 68 (.agg [.slc true 2 (.int .i64 0) []]))),(7,none,.val (.slc true 30 (.slc true 2 (.int .i64 0) []) es)),(8,none,.val (.int .i64 n)),(9,none,.val (.int .i64 k)),(10,none,.val (.int .i64 o)),(11,none,.val (.int .i64 x))])
      (fun x=>z+o≤x∧x≤cpT (z+o) o∧cpU o ((cpT (z+o) o-x).toNat+1) x=cpo (z+o) o) (fun x=>(cpT (z+o) o-x).toNat) (z+o) (by subst hL;rfl) ?_ ?_
     ·exact⟨by omega,by omega,rfl⟩
     rintro y ⟨y0,y1,hy1⟩ hfx3 ag3 hag3
     conv=>cbv
     simp only[zp hL,sQ,true_and,←hpl,Eg]
     refine⟨Qa _,fun h5=>?_,fun h5=>?_⟩
     ·rw[zo (n:=y+1) (by omega) (by omega)]
      have hne:y≠cpT (z+o) o:=fun e=>by
       rw[e,zwN (by omega) (by omega)]at h5
       omega
      refine hag3 (y+1) ⟨by omega,by omega,?_⟩ (by omega)
      rw[←hy1,show(cpT (z+o) o-y).toNat=(cpT (z+o) o-(y+1)).toNat+1 by omega]
      exact(if_pos (show jk y o>1 from h5)).symm
     ·have hy2:cpo (z+o) o=y:=by
       rw[←hy1]
       exact if_neg (show ¬jk y o>1 from h5)
      rw[hy2]at t1 t2
      simp only[wno,wk]
      (repeat' first|(exact yR _)|(exact jZ rfl)|(exact qL _)|(apply And.intro)|(intro _))<;>(try first|exact True.intro|omega|rfl|(simp only[zi,zr,zj];omega))
      exact hag (_,n*o,A3,H3,k-1) ⟨by simp only;omega,ps++[[y,o]],by simp only;rw[ZH,hes];rfl,t1,t2⟩ (by simp only;omega)
    ·have hp0:¬ps.length=0:=by omega
     rw[if_neg hp0]at t1 t2
     simp only[wno,wk]
     (repeat' first|(exact yR _)|(exact jZ rfl)|(exact qL _)|(apply And.intro)|(intro _))<;>(try first|exact True.intro|omega|rfl|(simp only[zi,zr,zj];omega))
     exact hag (_,n*o,A3,H3,k-1) ⟨by simp only;omega,ps++[[z,o]],by simp only;rw[ZH,hes];rfl,t1,t2⟩ (by simp only;omega)
  ·have hkz:k.toNat=0:=by omega
   rw[hkz]at hsm hok
   have hsm':sE=(ps,n,a,h):=hsm.symm
   have hF:smF a0 a1 a2 a3 a4=if okT ps=true then(if a4<(QL ps).getD ps.length 0 then zhs a0 (a,h)else if jI a0 (a,h) 12=0 then zhs a0 (qa a0 (a,h) 12)else(QL ps,qa a0 (a,h) 12))else zhs a0 (a,h):=by
    unfold smF
    simp only
    rw[←hs0,←hk0,←hsE,hsm']
   have hP:Prs ps:=hok.prs (by omega)
   have hfz:V.frzs es=II false ps:=by rw[hes,yF]
   have bl:(QL ps).length=ps.length+1:=by simp only[QL,zi,zhh]
   have Qb:ziq (II false ps):=by rw[←zdH];exact⟨ps,rfl,hP⟩
   have Eb:zxi (II false ps)=if okT ps=true then(I (QL ps),0)else([],5):=by rw[←zq8,zo4,zO]
   subst yP yO yN qz jE jD jC kf
   rw[hfz,Eb]
   have Qp:∀σ:Int×Int,yi a0 σ.1 σ.2→zfU a0 σ.1 σ.2 (V.frzs (V.frzs [V.int IntKind.i64 1,V.int IntKind.i64 2,V.int IntKind.i64 3])):=fun σ hs=>⟨hs,⟨[1,2,3],rfl⟩,by decide,by decide⟩
   have fin:∀(l:List Int) (A H:Int),smF a0 a1 a2 a3 a4=(l,A,H)→V.agg [V.slc true 2 (.int .i64 0) (I l)]=rr∧V.box 71 (V.agg [.slc false 5 (.int .u8 0) a0,.int .i64 A,.int .u64 H])=yy:=by
    intro l A H e
    rw[hr,hy,zkD,e]
    exact⟨rfl,rfl⟩
   have h50:((5:Int)=0)=False:=eq_false (by decide)
   have pl3:=hP.len
   cases hT:okT ps with
   |false=>
    rw[hT,if_neg (by decide)]at hF
    simp only[Bool.false_eq_true,if_false,h50,false_and,false_imp_iff,not_false_eq_true,true_or,true_imp_iff,and_false,true_and,and_true]
    exact⟨Qb,rfl,Qp (a,h) hsrc,fin [Yd a0 (a,h) [1,2,3]] _ _ hF⟩
   |true=>
    rw[hT,if_pos rfl]at hF
    have wl:IntKind.wrap .i64 ((ps.length+1:Nat)-1:Int)=ps.length:=by rw[show((ps.length+1:Nat)-1:Int)=ps.length by omega];exact zo (by omega) (by omega)
    simp only[zp hL,sQ,if_true,zj,bl,wl,zR,zC,true_and,not_true,false_or]
    refine⟨Qb,JP _,fun _=>by omega,fun _=>by omega,fun _=>by omega,fun h2=>⟨h2,hsrc,fun h3=>?_,fun h3=>?_⟩,fun h2=>⟨fun h3=>?_,fun h3=>absurd h2 h3.1⟩⟩
    ·have h4:jI a0 (a,h) 12=0:=h3.resolve_left h2
     rw[if_neg h2,if_pos h4]at hF
     exact⟨Qp (qa a0 (a,h) 12) (jv hsrc),fin [Yd a0 (qa a0 (a,h) 12) [1,2,3]] _ _ hF⟩
    ·rw[if_neg h2,if_neg (show ¬jI a0 (a,h) 12=0 from h3.2)]at hF
     exact fin _ _ _ hF
    ·rw[if_pos h2]at hF
     exact⟨Qp (a,h) hsrc,fin [Yd a0 (a,h) [1,2,3]] _ _ hF⟩
 ·cases h
theorem zlo{es:List V}{a h most term:Int}(hq:zm1 es a h most term):yi es (smF es a h most term).2.1 (smF es a h most term).2.2∧1≤(smF es a h most term).1.length∧(smF es a h most term).1.length≤4:=by
 obtain⟨hs,m1,m2⟩:=hq
 have hk:=zel (σ:=(a,h)) (n:=3) hs (by decide)
 have ok0:SmOk es most (([],1,qa es (a,h) 3):SmS) (1+jI es (a,h) 3).toNat:=⟨by simp only[zr];omega,by simp,rfl,by simp,by simp only;omega,jv (σ:=(a,h)) hs⟩
 have hr:=ok0.run
 unfold smF
 simp only
 generalize smN es most (1+jI es (a,h) 3).toNat ([],1,qa es (a,h) 3)=s at hr ⊢
 have h1:=hr.src
 have h2:=hr.len
 have pk:∀σ:Int×Int,yi es σ.1 σ.2→yi es (zhs es σ).2.1 (zhs es σ).2.2∧1≤(zhs es σ).1.length∧(zhs es σ).1.length≤4:=fun σ hσ=>⟨zaM hσ,by simp,by simp⟩
 split
 ·split
  ·exact pk _ h1
  ·split
   ·exact pk _ (jv h1)
   ·exact⟨jv h1,by simp only[QL,zi];omega,by simp only[QL,zi,zhh];omega⟩
 ·exact pk _ h1
end Go.Ax
namespace Go.Ax
open Go.Proofs
def drF(es:List V)(a h:Int):List Int×Int×Int:=
 let σ:=Kx es (a,h) [6,12,30,64]
 let s:=smF es σ.1 σ.2 (Yd es (a,h) [6,12,30,64]) 400
 if s.1.length=1∧1<s.1.getD 0 0 then
  ([s.1.getD 0 0,W (W (s.1.getD 0 0*W (1+jI es s.2 9))+1)],qa es s.2 9)
 else s
theorem zwL{es:List V}{a h:Int}(hq:yi es a h):yi es (drF es a h).2.1 (drF es a h).2.2∧1≤(drF es a h).1.length∧(drF es a h).1.length≤4:=by
 have hp:=zfZ (σ:=(a,h)) (l:=[6,12,30,64]) hq (by simp)
 have h1:=zlo (most:=Yd es (a,h) [6,12,30,64]) (term:=400) ⟨zaM (σ:=(a,h)) (l:=[6,12,30,64]) hq,by simp at hp;omega,by simp at hp;omega⟩
 unfold drF
 simp only
 split
 ·exact⟨jv (σ:=(smF es _ _ _ _).2) h1.1,by simp,by simp⟩
 ·exact h1
def zt9(es:List V)(a h:Int):List V×Int×Int:=(I (drF es a h).1,(drF es a h).2)
def zyj(f:List V→Int→Int→List V×Int×Int)(q:List V→Int→Int→Prop):jz:=fun
 |[.box 71 (.agg [.slc false 5 (.int .u8 0) a0,.int .i64 a1,.int .u64 a2])]=>some ([q a0 a1 a2],.agg [.slc true 2 (.int .i64 0) (f a0 a1 a2).1],.box 71 (.agg [.slc false 5 (.int .u8 0) a0,.int .i64 (f a0 a1 a2).2.1,.int .u64 (f a0 a1 a2).2.2]))
 |_=>none
theorem zpI:zcY Tryz.prog 84 1000 (zyj zt9 yi):=by
 intro args ps r y h hp
 unfold zyj at h
 split at h
 ·rename_i a0 a1 a2
  simp only[za,zb]at h
  obtain⟨rfl,rfl,rfl⟩:=h
  have hq:yi a0 a1 a2:=(zl.1 hp).1
  obtain⟨m,hm⟩:∃m,m=QC a0 a1 a2 (I [6,12,30,64]):=⟨_,rfl⟩
  obtain⟨A1,hA1⟩:∃A1,A1=Ja a0 a1 a2 (I [6,12,30,64]):=⟨_,rfl⟩
  obtain⟨H1,hH1⟩:∃H1,H1=QZ a0 a1 a2 (I [6,12,30,64]):=⟨_,rfl⟩
  obtain⟨S,hS⟩:∃S,S=smF a0 A1 H1 m 400:=⟨_,rfl⟩
  have hF:drF a0 a1 a2=if S.1.length=1∧1<S.1.getD 0 0 then([S.1.getD 0 0,W (W (S.1.getD 0 0*W (1+jI a0 S.2 9))+1)],qa a0 S.2 9)else S:=by
   subst hS hA1 hH1 hm
   rfl
  have mp:m∈[6,12,30,64]:=by rw[hm];exact zfZ (σ:=(a1,a2)) (l:=[6,12,30,64]) hq (by simp)
  have s1:yi a0 A1 H1:=by rw[hA1,hH1];exact uf hq
  have qs:zm1 a0 A1 H1 m 400:=⟨s1,by simp at mp;omega,by simp at mp;omega⟩
  have hS2:=zlo qs
  rw[←hS]at hS2
  obtain⟨sl,A2,H2⟩:=S
  simp only at hF hS2
  have Es:zkD a0 A1 H1 m 400=(I sl,A2,H2):=by rw[zkD,←hS]
  obtain⟨bl,hbl⟩:∃bl,bl=I sl:=⟨_,rfl⟩
  obtain⟨n,hn⟩:∃n:Int,n=bl.length:=⟨_,rfl⟩
  have hnl:n=sl.length:=by rw[hn,hbl,zj]
  have gx:∀k,bl.getD k (.int .i64 0)=.int .i64 (sl.getD k 0):=fun k=>by rw[hbl,zR]
  generalize yP:jm=qZ
  generalize yO:jl=qY
  generalize yN:jx=qX
  generalize qz:zdi=kI
  generalize jE:QC=ZC
  generalize jD:Ja=ZB
  generalize jC:QZ=ZA
  generalize kf:zfU=YF
  generalize zgF:zkD=zvl
  generalize zgB:zm1=zvc
  refine zfv (T:=tab) (B:=[]) (Bi:=[(25,0,false,zaX qZ qY qX kI),(50,0,false,zfg ZC ZB ZA YF),(57,1000,false,zsm zvl zvc)]) 0 [2000001806,2000003033,2000003800,2000003820,2000003821,2000003822,2000003823,2000003824,2000003825,2000003826,2000003827,2000003829,2000003999,0,2,3] Tryz.func84 rfl rfl (by kernel_rfl) (zg rfl) zP zQ (by subst yP yO yN qz jE jD jC kf zgF zgB;exact zy) (by subst yP yO yN qz jE jD jC kf zgF zgB;exact(qg ki (qg ZM (qg zgT zu)))) (by kernel_rfl) rfl rfl zbj rfl ?_
  intro L lp rr yy hL hr hy hf hlp
  conv=>cbv
  subst yP yO yN qz jE jD jC kf zgF zgB
  have p0:QC a0 a1 a2 (V.frzs (V.frzs [V.int IntKind.i64 6,V.int IntKind.i64 12,V.int IntKind.i64 30,V.int IntKind.i64 64]))=m:=hm.symm
  have p1:Ja a0 a1 a2 (V.frzs (V.frzs [V.int IntKind.i64 6,V.int IntKind.i64 12,V.int IntKind.i64 30,V.int IntKind.i64 64]))=A1:=hA1.symm
  have p2:QZ a0 a1 a2 (V.frzs (V.frzs [V.int IntKind.i64 6,V.int IntKind.i64 12,V.int IntKind.i64 30,V.int IntKind.i64 64]))=H1:=hH1.symm
  have p3:zfU a0 a1 a2 (V.frzs (V.frzs [V.int IntKind.i64 6,V.int IntKind.i64 12,V.int IntKind.i64 30,V.int IntKind.i64 64])):=⟨hq,⟨[6,12,30,64],rfl⟩,by decide,by decide⟩
  simp only[p0,p1,p2,Es,←hbl,gx,zp hL,sQ,true_and,←hn]
  have fin:∀(l:List Int) (A H:Int),drF a0 a1 a2=(l,A,H)→V.agg [V.slc true 2 (.int .i64 0) (I l)]=rr∧V.box 71 (V.agg [.slc false 5 (.int .u8 0) a0,.int .i64 A,.int .u64 H])=yy:=by
   intro l A H e
   rw[hr,hy,zt9,e]
   exact⟨rfl,rfl⟩
  refine⟨p3,qs,fun _=>by omega,fun _=>by omega,fun _=>by omega,fun _=>trivial,fun h=>?_,fun h=>?_⟩
  ·rw[if_pos ⟨by omega,h.2⟩]at hF
   exact⟨by omega,by omega,by omega,by omega,by omega,by omega,hS2.1,fin [_,_] _ _ hF⟩
  ·rw[if_neg (fun h'=>by omega)]at hF
   rw[hbl]
   exact fin _ _ _ hF
 ·cases h
def spF(es:List V)(a h:Int):List Int×Int×Int:=
 let s:=drF es a h
 let v:=jI es s.2 30
 let σ:=qa es s.2 30
 if v=0 then(s.1.set 0 (Yd es σ [0,-1,65,2]),Kx es σ [0,-1,65,2])
 else if v=1 then(s.1++[Yd es σ [2001,1999,5,1099511627776]],Kx es σ [2001,1999,5,1099511627776])
 else if v=2 then(s.1.drop 1,σ)else(s.1,σ)
theorem zCf{es:List V}{a h:Int}(hq:yi es a h):yi es (spF es a h).2.1 (spF es a h).2.2∧(spF es a h).1.length≤5:=by
 obtain⟨h1,h2,h3⟩:=zwL hq
 have h4:=jv (σ:=(drF es a h).2) (n:=30) h1
 unfold spF
 simp only
 split
 ·exact⟨zaM (σ:=qa es (drF es a h).2 30) h4,by simp only[yj];omega⟩
 ·split
  ·exact⟨zaM (σ:=qa es (drF es a h).2 30) h4,by simp only[zk,zi,zr];omega⟩
  ·split
   ·refine⟨h4,?_⟩
    simp only[yx]
    omega
   ·refine⟨h4,?_⟩
    show(drF es a h).1.length≤5
    omega
def zt6(es:List V)(a h:Int):List V×Int×Int:=(I (spF es a h).1,(spF es a h).2)
def zyi(f:List V→Int→Int→List V×Int×Int)(q:List V→Int→Int→Prop):jz:=fun
 |[.box 71 (.agg [.slc false 5 (.int .u8 0) a0,.int .i64 a1,.int .u64 a2])]=>some ([q a0 a1 a2],.agg [.slc false 2 (.int .i64 0) (f a0 a1 a2).1],.box 71 (.agg [.slc false 5 (.int .u8 0) a0,.int .i64 (f a0 a1 a2).2.1,.int .u64 (f a0 a1 a2).2.2]))
 |_=>none
theorem zog:zcY Tryz.prog 51 1000 (zyi zt6 yi):=by
 intro args ps r y h hp
 unfold zyi at h
 split at h
 ·rename_i a0 a1 a2
  simp only[za,zb]at h
  obtain⟨rfl,rfl,rfl⟩:=h
  have hq:yi a0 a1 a2:=(zl.1 hp).1
  obtain⟨S,hS⟩:∃S,S=drF a0 a1 a2:=⟨_,rfl⟩
  have hS2:=zwL hq
  rw[←hS]at hS2
  have hF:spF a0 a1 a2=if jI a0 S.2 30=0 then(S.1.set 0 (Yd a0 (qa a0 S.2 30) [0,-1,65,2]),Kx a0 (qa a0 S.2 30) [0,-1,65,2])
   else if jI a0 S.2 30=1 then(S.1++[Yd a0 (qa a0 S.2 30) [2001,1999,5,1099511627776]],Kx a0 (qa a0 S.2 30) [2001,1999,5,1099511627776])
   else if jI a0 S.2 30=2 then(S.1.drop 1,qa a0 S.2 30)else(S.1,qa a0 S.2 30):=by
   subst hS
   rfl
  obtain⟨sl,A2,H2⟩:=S
  simp only at hF hS2
  have Es:zt9 a0 a1 a2=(I sl,A2,H2):=by rw[zt9,←hS]
  obtain⟨bl,hbl⟩:∃bl,bl=I sl:=⟨_,rfl⟩
  obtain⟨n,hn⟩:∃n:Int,n=bl.length:=⟨_,rfl⟩
  have hnl:n=sl.length:=by rw[hn,hbl,zj]
  have gx:∀k,bl.getD k (.int .i64 0)=.int .i64 (sl.getD k 0):=fun k=>by rw[hbl,zR]
  generalize yP:jm=qZ
  generalize yO:jl=qY
  generalize yN:jx=qX
  generalize qz:zdi=kI
  generalize jE:QC=ZC
  generalize jD:Ja=ZB
  generalize jC:QZ=ZA
  generalize kf:zfU=YF
  generalize zu5:zt9=zEj
  generalize uA:yi=JV
  refine zfv (T:=tab) (B:=[]) (Bi:=[(25,0,false,zaX qZ qY qX kI),(50,0,false,zfg ZC ZB ZA YF),(84,1000,false,zyj zEj JV)]) 0 [1000008003,1000009003,2000004800,2000004810,2000004811,2000004813,2000004814,2000004999,2000006800,2000006818,2000006819,2000006821,2000006822,2000006999,0,2,3,7] Tryz.func51 rfl rfl (by kernel_rfl) (zg rfl) zP zQ (by subst yP yO yN qz jE jD jC kf zu5 uA;exact zy) (by subst yP yO yN qz jE jD jC kf zu5 uA;exact(qg ki (qg ZM (qg zpI zu)))) (by kernel_rfl) rfl rfl zbj rfl ?_
  intro L lp rr yy hL hr hy hf hlp
  conv=>cbv
  subst yP yO yN qz jE jD jC kf zu5 uA
  simp only[Es,zp hL,sQ,true_and]
  have s0:yi a0 A2 H2:=hS2.1
  have s1:yi a0 (jl a0 A2 H2 30) (jx a0 A2 H2 30):=uf s0
  have n1:1≤sl.length:=hS2.2.1
  have n2:sl.length≤4:=hS2.2.2
  have fin:∀(l:List Int) (A H:Int),spF a0 a1 a2=(l,A,H)→V.agg [V.slc false 2 (.int .i64 0) (I l)]=rr∧V.box 71 (V.agg [.slc false 5 (.int .u8 0) a0,.int .i64 A,.int .u64 H])=yy:=by
   intro l A H e
   rw[hr,hy,zt6,e]
   exact⟨rfl,rfl⟩
  have hF':spF a0 a1 a2=if jm a0 A2 H2 30=0 then(sl.set 0 (Yd a0 (qa a0 (A2,H2) 30) [0,-1,65,2]),Kx a0 (qa a0 (A2,H2) 30) [0,-1,65,2])
   else if jm a0 A2 H2 30=1 then(sl++[Yd a0 (qa a0 (A2,H2) 30) [2001,1999,5,1099511627776]],Kx a0 (qa a0 (A2,H2) 30) [2001,1999,5,1099511627776])
   else if jm a0 A2 H2 30=2 then(sl.drop 1,qa a0 (A2,H2) 30)else(sl,qa a0 (A2,H2) 30):=hF
  refine⟨hq,s0,fun h=>?_,fun h=>⟨fun h'=>?_,fun h'=>⟨fun h2=>?_,fun h2=>?_⟩⟩⟩
  ·rw[if_pos h]at hF'
   refine⟨⟨s1,⟨[0,-1,65,2],rfl⟩,by decide,by decide⟩,by omega,by omega,by omega,?_⟩
   have e:V.frzs ((I sl).set 0 (V.int .i64 (Yd a0 (qa a0 (A2,H2) 30) [0,-1,65,2])))=I (sl.set 0 (Yd a0 (qa a0 (A2,H2) 30) [0,-1,65,2])):=by rw[KY,zG]
   have f:=fin _ _ _ hF'
   rw[←e]at f
   exact f
  ·rw[if_neg h,if_pos h']at hF'
   refine⟨⟨s1,⟨[2001,1999,5,1099511627776],rfl⟩,by decide,by decide⟩,rfl,?_,yR _,?_⟩
   ·rw[List.length_singleton];omega
   have e:V.frzs (I sl++[V.int .i64 (Yd a0 (qa a0 (A2,H2) 30) [2001,1999,5,1099511627776])])=I (sl++[Yd a0 (qa a0 (A2,H2) 30) [2001,1999,5,1099511627776]]):=by
    rw[show[V.int .i64 (Yd a0 (qa a0 (A2,H2) 30) [2001,1999,5,1099511627776])]=I [Yd a0 (qa a0 (A2,H2) 30) [2001,1999,5,1099511627776]]from rfl,qr,zG]
   have f:=fin _ _ _ hF'
   rw[←e]at f
   exact f
  ·rw[if_neg h,if_neg h',if_pos h2]at hF'
   refine⟨by omega,by omega,by omega,?_⟩
   have f:=fin _ _ _ hF'
   rw[zC,show List.take sl.length (I sl)=I sl from zB (by rw[zj];exact zt _),zzU]
   rw[zG]
   exact f
  ·rw[if_neg h,if_neg h',if_neg h2]at hF'
   exact fin _ _ _ hF'
 ·cases h
end Go.Ax
namespace Go.Ax
open Go.Proofs
def zxU(es:List V):Prop:=∃xs:List Int,es=U8 xs∧∀x∈xs,0≤x∧x≤255
def zEO(_:List V):Bool:=true
theorem zwU:∀xs:List Int,V.frzs (U8 xs)=U8 xs
 |[]=>rfl
 |x::xs=>by
  have:=zwU xs
  simp only[U8]at this
  simp only[U8,List.map_cons,V.frzs,V.frz,this]
theorem zD2{a:List V}(h:zxU a)(hb:zlM a=false):IsU a:=by
 obtain⟨xs,hxs,hr⟩:=h
 refine⟨xs,hxs,hr,?_⟩
 have hl:a.length=xs.length:=by rw[hxs,U8,yh]
 simp only[zlM,decide_eq_false_iff_not]at hb
 omega
end Go.Ax
namespace Go.Proofs.YtlkdpcjakfhnoaaGreat
open Go.ChangeShapes Go.WideShapes Go.ChangeAt Go.RowKit Go.Ax
theorem zB7{x:V}(h:Wt tab 5 x):∃n,x=.int .u8 n∧0≤n∧n≤255:=by
 cases h with
 |int _ ti k n h hk hn=>
  cases h;cases hk
  refine⟨n,rfl,?_⟩
  simp[Lit.wf]at hn
  have h1:IntKind.u8.min=0:=rfl
  have h2:IntKind.u8.max=255:=rfl
  omega
 |bool _ ti b h hk=>cases h;cases hk
 |str _ ti b h hk=>cases h;cases hk
 |slc _ ti e es h hk=>cases h;cases hk
 |agg _ ti e es h hk=>cases h;cases hk
theorem zz9{x:V}(h:Wt tab 22 x):∃es,x=.slc false 5 (.int .u8 0) es∧zxU es:=by
 cases h with
 |int _ ti k n h hk hn=>cases h;cases hk
 |bool _ ti b h hk=>cases h;cases hk
 |str _ ti b h hk=>cases h;cases hk
 |slc _ ti e es h hk hl he=>
  cases h;cases hk
  refine⟨es,rfl,?_⟩
  clear hl
  induction es with
  |nil=>exact⟨[],rfl,by simp⟩
  |cons y es ih=>
   obtain⟨l,hl,hr⟩:=ih (fun i y hy=>he (i+1) y (by simpa using hy))
   obtain⟨n,hn,h0,h1⟩:=zB7 (he 0 y rfl)
   refine⟨n::l,by rw[hl,hn];rfl,fun x hx=>?_⟩
   rcases zE.1 hx with rfl|hx
   ·exact⟨h0,h1⟩
   ·exact hr x hx
 |agg _ ti e es h hk=>cases h;cases hk
end Go.Proofs.YtlkdpcjakfhnoaaGreat
namespace Go.Proofs
open Go.Shelf
def zAV:Go.Shelf.Ren:=⟨fun|35=>67|n=>n,fun|22=>30|23=>2|3=>3|4=>4|0=>0|n=>n,fun|n=>n⟩
theorem zET:Go.Proofs.SlLaysN.n35 Tryz.prog zAV:={
 mixed:=by kernel_rfl
 f35:=⟨Tryz.f67.name,by decide,Tryz.func67.trans (congrArg some (by kernel_rfl))⟩
 t0:=Tryz.underlying0
 a0:=Tryz.isAgg0
 z0:=Tryz.sizeOf0
 v0:=Tryz.zeroValue0
 t3:=Tryz.underlying3
 a3:=Tryz.isAgg3
 z3:=Tryz.sizeOf3
 v3:=Tryz.zeroValue3
 t4:=Tryz.underlying4
 a4:=Tryz.isAgg4
 z4:=Tryz.sizeOf4
 v4:=Tryz.zeroValue4
 t22:=Tryz.underlying30
 a22:=Tryz.isAgg30
 z22:=Tryz.sizeOf30
 v22:=Tryz.zeroValue30
 t23:=Tryz.underlying2
 a23:=Tryz.isAgg2
 z23:=Tryz.sizeOf2
 v23:=Tryz.zeroValue2}
end Go.Proofs
namespace Go.Proofs
open Go.RowKit Go.Sort
def npI(d:List Int):Nat→Nat
 |0=>0
 |j+1=>if d.getD (j+1) 0<d.getD j 0 then npI d j else j+1
def npK(d:List Int)(x:Int):Nat→Nat
 |0=>0
 |k+1=>if d.getD (k+1) 0<x then npK d x k else k+1
def npS(d:List Int)(i k:Nat):List Int:=(d.set i (d.getD k 0)).set k (d.getD i 0)
def npR(d:List Int)(i:Nat):List Int:=d.take i++(d.drop i).reverse
def zbl(d:List Int):Option (List Int):=match npI d (d.length-1)with
 |0=>none
 |j+1=>some (npR (npS d j (npK d (d.getD j 0) (d.length-1))) (j+1))
def Ky(d:List Int):Bool:=(zbl d).isSome
def uH(d:List Int):List Int:=(zbl d).getD d
theorem zCv{d:List Int}{n:Nat}(hn:n=d.length)(h:npI d (n-1)=npI d 0):Ky d=false∧uH d=d:=by
 have h0:zbl d=none:=by rw[zbl,←hn,h];rfl
 exact⟨by rw[Ky,h0];rfl,by rw[uH,h0];rfl⟩
theorem zCu{d:List Int}{n j k:Nat}(hn:n=d.length)(h:npI d (n-1)=npI d (j+1))(h2:¬d.getD (j+1) 0<d.getD j 0)(h3:npK d (d.getD j 0) (n-1)=npK d (d.getD j 0) (k+1))(h4:¬d.getD (k+1) 0<d.getD j 0):
 Ky d=true∧uH d=npR (npS d j (k+1)) (j+1):=by
 rw[npI,if_neg h2]at h
 rw[npK,if_neg h4]at h3
 have h0:zbl d=some (npR (npS d j (k+1)) (j+1)):=by
  rw[zbl,←hn,h]
  show some _=_
  rw[h3]
 exact⟨by rw[Ky,h0];rfl,by rw[uH,h0];rfl⟩
theorem zCx{d:List Int}{i k:Nat}(hi:i<d.length)(hk:k<d.length):swp d.toArray i k=(npS d i k).toArray:=by
 have e:∀t,t<d.length→d.toArray[t]! =d.getD t 0:=fun t ht=>by
  rw[getElem!_pos d.toArray t (by simpa using ht)]
  simp[zd,ze ht]
 rw[swp,e i hi,e k hk,npS]
 simp
theorem zvH{W:World}{blk off i:Nat}{e r:List Int}(hH:Holds (Value.int .i64) W blk off e.toArray)(hi:i≤e.length)(hr:r.length=e.length-i):
 putRow (Value.int .i64) W blk (off+i) r.toArray=putRow (Value.int .i64) W blk off (e.take i++r).toArray:=by
 rw[←putRow_self _ W blk off _ hH]
 unfold putRow
 rw[mapBlock_mapBlock,mapBlock_mapBlock]
 refine mapBlock_congr _ _ _ _ fun c _ _ _=>?_
 have hl:(e.take i++r).length=e.length:=by rw[zk,zL,hr];omega
 apply Array.ext_getElem?
 intro k
 simp only[putCells,Array.getElem?_mapIdx,uF,hl]
 cases c[k]? with
 |none=>rfl
 |some y=>
  simp only[Option.map_some]
  by_cases k1:off≤k∧k<off+e.length
  ·rw[if_pos k1]
   by_cases k2:off+i≤k
   ·have k3:off+i≤k∧k<off+i+r.length:=by omega
    rw[if_pos k3]
    have e1:r.toArray[k-(off+i)]! =(e.take i++r).toArray[k-off]! :=by
     rw[getElem!_pos r.toArray _ (by simp;omega),getElem!_pos (e.take i++r).toArray _ (by rw[uF,hl];omega)]
     simp only[List.getElem_toArray]
     rw[List.getElem_append_right (by rw[zL];omega)]
     congr 1
     rw[zL];omega
    rw[e1]
    simp[k1]
   ·have k3:¬(off+i≤k∧k<off+i+r.length):=by omega
    rw[if_neg k3,if_pos k1]
    have e1:e.toArray[k-off]! =(e.take i++r).toArray[k-off]! :=by
     rw[getElem!_pos e.toArray _ (by simp;omega),getElem!_pos (e.take i++r).toArray _ (by rw[uF,hl];omega)]
     simp only[List.getElem_toArray]
     rw[List.getElem_append_left (by rw[zL];omega),List.getElem_take]
    rw[e1]
  ·rw[if_neg k1]
   have k3:¬(off+i≤k∧k<off+i+r.length):=by omega
   rw[if_neg k3,if_neg k1]
theorem zAu{blk off cap i n:Nat}{e:List Int}{W:World}(hH:Holds (Value.int .i64) W blk off e.toArray)(hn:e.length=n)(hi:i≤n)(he:n≤1000):
 Calls Tryz.prog 67 #[.slice (some ⟨blk,off+i,none⟩) (n-i) cap] W fun x w'=>x=.returned (.tuple #[])∧∃q,w'=putRow (Value.int .i64) (Sort.ahead W q) blk off (npR e i).toArray:=by
 have hl:(e.drop i).length=n-i:=by rw[yx,hn]
 have h:=AnyG.slices_Reverse_int zET blk (off+i) cap (e.drop i) W (fun t ht=>by
  have ht':t<n-i:=by simpa [hn]using ht
  have h1:=hH (i+t) (by simp[hn];omega)
  rw[show off+i+t=off+(i+t) by omega]
  refine⟨?_,h1.2⟩
  rw[h1.1,getElem!_pos e.toArray _ (by simp[hn];omega),getElem!_pos (e.drop i).toArray _ (by simp[hn];omega)]
  simp) (by omega)
 rw[hl]at h
 change Calls Tryz.prog 67 _ _ _ at h
 refine h.mono ?_
 rintro x w' ⟨rfl,q,rfl⟩
 refine⟨rfl,q,?_⟩
 rw[npR]
 exact zvH (holds_ahead _ _ _ _ _ _ hH) (by omega) (by rw[QF,hl,hn])
theorem zCt(blk off cap:Nat)(d:List Int)(w:World)(hH:Holds (Value.int .i64) w blk off d.toArray)(h1:1≤d.length)(h2:d.length≤1000)(hcap:d.length≤cap):
 Calls Tryz.prog 34 #[.slice (some ⟨blk,off,none⟩) d.length cap] w fun e w'=>e=.returned (.bool (Ky d))∧∃q,w'=putRow (Value.int .i64) (Sort.ahead w q) blk off (uH d).toArray:=by
 obtain⟨n,hn⟩:∃n,n=d.length:=⟨_,rfl⟩
 obtain⟨G,hG⟩:∃G:Nat→Int,∀t,G t=d.getD t 0:=⟨fun t=>d.getD t 0,fun _=>rfl⟩
 have hc:∀t,t<n→w.cell? ⟨blk,off+t,none⟩=some (.int .i64 (G t)):=fun t ht=>by
  rw[(hH t (by simpa [←hn]using ht)).1,hG,getElem!_pos d.toArray t (by simpa [←hn]using ht)]
  simp[zd,ze (show t<d.length by omega)]
 have hf:∀t,t<n→w.frozen? ⟨blk,off+t,none⟩=false:=fun t ht=>(hH t (by simpa [←hn]using ht)).2
 rw[←hn]at h1 h2 hcap ⊢
 have HN:Hid (n=d.length):=hn
 have HG:Hid (∀t,G t=d.getD t 0):=hG
 have HH:Hid (Holds (Value.int .i64) w blk off d.toArray):=hH
 have HC:Hid (∀t,t<n→w.cell? ⟨blk,off+t,none⟩=some (.int .i64 (G t))):=hc
 have HF:Hid (∀t,t<n→w.frozen? ⟨blk,off+t,none⟩=false):=hf
 clear hn hG hH hc hf
 go_enter Tryz.func34,Tryz.ntmps34
 go_wp2
 go_loopg [3] n (fun g s3 wr=>∃(j q:Nat),s3=.int .i64 ((j:Int)-1)∧j<n∧j≤g∧wr=w.drewN q∧Hid (npI d (n-1)=npI d j))
 case atStart=>exact⟨n-1,0,by go_num,by omega,by omega,rfl,rfl⟩
 case round=>
  obtain⟨j,q,rfl,hj,hg,rfl,HI⟩:=hrel
  cases j with
  |zero=>
   have e0:(((0:Nat):Int)-1)= -1:=rfl
   rw[e0]
   have c1:decide ((0:Int)≤-1)=false:=rfl
   go_wp2_with fail
   go_quiet (fail)
   go_wp2
   go_ret
   obtain⟨r1,r2⟩:=zCv HN.out HI.out
   refine⟨by rw[r1];rfl,q+nq,?_⟩
   rw[r2]
   exact(putRow_self _ _ _ _ _ (holds_ahead _ _ _ _ _ _ HH.out)).symm
  |succ j=>
   have e0:(((j+1:Nat):Int)-1)=(j:Int):=by omega
   rw[e0]
   have p0:¬(j:Int)<0:=by omega
   have p1:(0:Int)≤(j:Int):=by omega
   have p2:(j:Int)<(n:Int):=by omega
   have p3:(j:Int)+1<(n:Int):=by omega
   have p4:(0:Int)≤(j:Int)+1:=by omega
   have p5:((j:Int)+1).toNat=j+1:=by omega
   obtain⟨x,hx⟩:∃x,G j=x:=⟨_,rfl⟩
   obtain⟨y,hy⟩:∃y,G (j+1)=y:=⟨_,rfl⟩
   have hcj:=HC.out j (by omega)
   have hcj1:=HC.out (j+1) (by omega)
   rw[hx]at hcj
   rw[hy]at hcj1
   have HX:Hid (G j=x):=hx
   have HY:Hid (G (j+1)=y):=hy
   clear hx hy
   by_cases hxy:y<x
   ·go_wp2_with fail
    go_quiet (fail)
    go_wp2
    go_roundg j
    case measure=>omega
    case rel=>exact⟨j,q+nq,rfl,by omega,zt _,rfl,(show Hid _ from by show _=_;rw[HI.out,npI,if_pos (by rw[←HG.out,←HG.out,HX.out,HY.out];exact hxy)])⟩
   ·go_wp2_with fail
    go_quiet (fail)
    go_wp2
    go_loopg [4] n (fun g s4 wr=>∃(k q':Nat),s4=.int .i64 ((k+1:Nat):Int)∧j≤k∧k+1<n∧k+1≤g∧wr=w.drewN q'∧Hid (npK d x (n-1)=npK d x (k+1)))
    case atStart=>exact⟨n-2,q+nq,by go_num,by omega,by omega,by omega,rfl,(show Hid _ from by show _=_;rw[show n-2+1=n-1 by omega])⟩
    case round=>
     obtain⟨k,q',rfl,hk0,hk1,hg2,rfl,HK⟩:=hrel
     obtain⟨z,hz⟩:∃z,G (k+1)=z:=⟨_,rfl⟩
     have hck:=HC.out (k+1) (by omega)
     rw[hz]at hck
     have HZ:Hid (G (k+1)=z):=hz
     clear hz
     have k2:((k+1:Nat):Int)<(n:Int):=by omega
     have k3:(((k+1:Nat):Int)).toNat=k+1:=by omega
     by_cases hzx:z<x
     ·have hjk:j<k:=by
       rcases Nat.lt_or_ge j k with h|h
       ·exact h
       ·exfalso
        have e:k=j:=by omega
        have e1:=HZ.out
        rw[e,HY.out]at e1
        omega
      obtain⟨k',rfl⟩:∃k',k=k'+1:=⟨k-1,by omega⟩
      go_wp2_with fail
      go_quiet (fail)
      go_wp2
      go_roundg (k'+1)
      case measure=>omega
      case rel=>exact⟨k',q'+nq,by go_num,by omega,by omega,zt _,rfl,(show Hid _ from by show _=_;rw[HK.out,npK,if_pos (by rw[←HG.out,HZ.out];exact hzx)])⟩
     ·go_wp2_with fail
      go_quiet (fail)
      go_wp2
      have hfj:=HF.out j (by omega)
      have hfk:=HF.out (k+1) (by omega)
      generalize hwq:(w.drewN q').drewN nq=wq
      have cj':wq.cell? ⟨blk,off+j,none⟩=some (.int .i64 x):=by rw[←hwq];exact hcj
      have ck':wq.cell? ⟨blk,off+(k+1),none⟩=some (.int .i64 z):=by rw[←hwq];exact hck
      have fj':wq.frozen? ⟨blk,off+j,none⟩=false:=by rw[←hwq];exact hfj
      have fk':wq.frozen? ⟨blk,off+(k+1),none⟩=false:=by rw[←hwq];exact hfk
      have HW:Hid ((w.drewN q').drewN nq=wq):=hwq
      clear hwq hcj hck hfj hfk hcj1
      obtain⟨r1,r2⟩:=zCu HN.out HI.out (by rw[←HG.out,←HG.out,HX.out,HY.out];omega) (by rw[←HG.out j,HX.out];exact HK.out) (by rw[←HG.out,←HG.out,HX.out,HZ.out];omega)
      have hlen:(npS d j (k+1)).length=n:=by rw[npS,yj,yj];exact HN.out.symm
      have hW:((wq.setCell ⟨blk,off+j,none⟩ (.int .i64 z)).setCell ⟨blk,off+(k+1),none⟩ (.int .i64 x)).drew=(putRow (Value.int .i64) w blk off (npS d j (k+1)).toArray).drewN (q'+nq+1):=by
       have hnl:=HN.out
       have e1:∀t,t<n→d.toArray[t]! =G t:=fun t ht=>by
        rw[HG.out,getElem!_pos d.toArray t (by simp;omega)]
        simp[zd,ze (show t<d.length by omega)]
       rw[←zCx (by omega) (by omega),←swap_worldC _ _ _ _ _ _ _ _ (by simp;omega) (by simp;omega),e1 j (by omega),e1 (k+1) (by omega),HX.out,HZ.out,putRow_self _ _ _ _ _ HH.out,←HW.out,show(w.drewN q').drewN nq=w.drewN (q'+nq) by simp[World.drewN,Nat.add_assoc]]
      have hrev:=zAu (blk:=blk) (off:=off) (cap:=cap-(j+1)) (i:=j+1) (e:=npS d j (k+1)) (W:=((wq.setCell ⟨blk,off+j,none⟩ (.int .i64 z)).setCell ⟨blk,off+(k+1),none⟩ (.int .i64 x)).drew) (n:=n)
       (by rw[hW];exact holds_ahead _ _ _ _ _ _ (holds_putRow _ _ _ _ _ _ HH.out (by simp[hlen];exact HN.out))) hlen (by omega) h2
      have HR:Hid (Ky d=true):=r1
      have HL:Hid (uH d=npR (npS d j (k+1)) (j+1)):=r2
      have HWW:Hid (((wq.setCell ⟨blk,off+j,none⟩ (.int .i64 z)).setCell ⟨blk,off+(k+1),none⟩ (.int .i64 x)).drew=(putRow (Value.int .i64) w blk off (npS d j (k+1)).toArray).drewN (q'+nq+1)):=hW
      have HLEN:Hid ((npS d j (k+1)).length=n):=hlen
      clear r1 r2 hW hlen
      have p6:¬cap=j+1:=by omega
      have p7:¬cap-(j+1)=0:=by omega
      go_region
      all_goals (go_wp2_with (go_at_call 67;refine hrev.mono ?_;rintro e w' ⟨rfl,q3,rfl⟩))
      all_goals go_ret
      have e0:∀N (e:Array Int),(putRow (Value.int .i64) w blk off e).drewN N=putRow (Value.int .i64) (Sort.ahead w N) blk off e:=fun N e=>(putRow_ahead _ w N blk off e).symm
      refine⟨by rw[HR.out];rfl,q'+nq+1+q3,?_⟩
      rw[HL.out,HWW.out,e0]
      refine putRow_ahead_putRow _ _ _ _ _ _ _ _ ?_
      simp only[uF]
      rw[npR,zk,QF,zL,yx,HLEN.out]
      omega
end Go.Proofs
namespace Go.Ax
open Go.Proofs
theorem Yf:∀l:List Int,yo l l=false
 |[]=>rfl
 |x::l=>by simp only[yo,beq_self_eq_true,Bool.not_true,cond_false];exact Yf l
theorem QX(x y:Int)(a b:List Int):yo (x::a) (y::b)=true↔x<y∨x=y∧yo a b=true:=by
 simp only[yo]
 by_cases h:x=y
 ·subst h;simp
 ·have:(x==y)=false:=by simpa using h
  rw[this];simp[h]
theorem zbr:∀a b c:List Int,yo a b=true→yo b c=true→yo a c=true
 |_,[],_,h,_=>by cases ‹List Int›<;>simp[yo]at h
 |[],y::b,[],_,h=>by simp[yo]at h
 |[],y::b,z::c,_,_=>rfl
 |x::a,y::b,[],_,h=>by simp[yo]at h
 |x::a,y::b,z::c,h1,h2=>by
  rw[QX]at*
  rcases h1 with h1|⟨h1,h1'⟩
  ·rcases h2 with h2|⟨h2,_⟩<;>exact .inl (by omega)
  ·rcases h2 with h2|⟨h2,h2'⟩
   ·exact .inl (by omega)
   ·exact .inr ⟨by omega,zbr a b c h1' h2'⟩
theorem zcc:∀a b:List Int,yo a b=false→yo b a=false→a=b
 |[],[],_,_=>rfl
 |[],y::b,h,_=>by simp[yo]at h
 |x::a,[],_,h=>by simp[yo]at h
 |x::a,y::b,h1,h2=>by
  have n1:¬(x<y∨x=y∧yo a b=true):=fun h=>by rw[(QX x y a b).2 h]at h1;cases h1
  have n2:¬(y<x∨y=x∧yo b a=true):=fun h=>by rw[(QX y x b a).2 h]at h2;cases h2
  have e:x=y:=by omega
  subst e
  rw[zcc a b (by cases h:yo a b<;>simp_all) (by cases h:yo b a<;>simp_all)]
theorem ztD(a b c:List Int)(h1:yo a b=false)(h2:yo b c=false):yo a c=false:=by
 cases h:yo a c with
 |false=>rfl
 |true=>
  cases h3:yo b a with
  |true=>rw[zbr b a c h3 h]at h2;cases h2
  |false=>
   have e:=zcc a b h1 h3
   rw[e,h2]at h;cases h
end Go.Ax
namespace Go.Ax
open Go.Proofs
theorem zm2:∀(l l':List Int),l.Nodup→(∀x∈l,x∈l')→l'.length≤l.length→l.Perm l'
 |[],l',_,_,h=>by
  have:l'=[]:=yC (by simpa using h)
  rw[this]
 |x::t,l',hn,hs,hl=>by
  obtain⟨h1,h2⟩:=List.nodup_cons.1 hn
  have hx:x∈l':=hs x (by simp)
  have hp:=List.perm_cons_erase hx
  have hlen:=hp.length_eq
  refine(List.Perm.cons x (zm2 t (l'.erase x) h2 (fun y hy=>?_) ?_)).trans hp.symm
  ·refine(List.mem_erase_of_ne (fun e=>h1 (by rw[←e];exact hy))).2 (hs y (by simp[hy]))
  ·simp only[zi]at hlen hl
   omega
theorem zep(n:Nat):(yq n).Pairwise (·< ·):=by
 rw[yq,qD,List.pairwise_map]
 exact List.pairwise_lt_range.imp fun h=>by omega
theorem Jl{n:Nat}{x:Int}:x∈yq n↔0≤x∧x<n:=by
 simp only[yq,qD,List.mem_map,kn]
 constructor
 ·rintro⟨k,hk,rfl⟩;omega
 ·intro h;exact⟨x.toNat,by omega,by omega⟩
def KC(ls:List Int):Prop:=∀t:Nat,t<ls.length→(t:Int)∈ls
theorem KC.perm{ls:List Int}(h:KC ls):(yq ls.length).Perm ls:=by
 refine zm2 _ _ ((zep _).imp fun h=>by omega) (fun x hx=>?_) (by rw[qd];exact zt _)
 obtain⟨h1,h2⟩:=Jl.1 hx
 have:=h x.toNat (by omega)
 rwa [show((x.toNat:Nat):Int)=x by omega]at this
theorem KC.inr{ls:List Int}(h:KC ls):∀k,k<ls.length→0≤ls.getD k 0∧ls.getD k 0<ls.length:=fun k hk=>by
 refine Jl.1 (h.perm.mem_iff.2 ?_)
 rw[zd,ze hk]
 exact ya _
theorem KC.inj{ls:List Int}(h:KC ls){s t:Nat}(hs:s<ls.length)(ht:t<ls.length)(he:ls.getD s 0=ls.getD t 0):s=t:=by
 have hn:ls.Nodup:=h.perm.nodup_iff.1 ((zep _).imp fun h=>by omega)
 rw[zd,ze hs,zd,ze ht]at he
 have hp:=List.pairwise_iff_getElem.1 hn
 rcases Nat.lt_trichotomy s t with h1|h1|h1
 ·exact absurd he (hp s t hs ht h1)
 ·exact h1
 ·exact absurd he.symm (hp t s ht hs h1)
theorem KC.sur{ls:List Int}(h:KC ls){j:Nat}(hj:j<ls.length):∃t,t<ls.length∧ls.getD t 0=j:=by
 obtain⟨t,ht,he⟩:=qk.1 (h j hj)
 exact⟨t,ht,by rw[zd,ze ht];exact he⟩
def ZO{α:Type}(ls:List Int)(f:Nat→α)(z:α)(n:Nat):Nat→List α
 |0=>List.replicate n z
 |k+1=>(ZO ls f z n k).set (ls.getD k 0).toNat (f k)
theorem Yw{α:Type}(ls:List Int)(f:Nat→α)(z:α)(n:Nat):∀k,(ZO ls f z n k).length=n
 |0=>List.length_replicate
 |k+1=>by rw[ZO,yj];exact Yw ls f z n k
theorem ziC{α:Type}{l:List α}{i j:Nat}{x z:α}(hi:i<l.length):(l.set i x).getD j z=if j=i then x else l.getD j z:=by
 rw[zd,List.getElem?_set,zd]
 by_cases h:i=j
 ·rw[if_pos h,if_pos hi,if_pos h.symm];rfl
 ·rw[if_neg h,if_neg (Ne.symm h)]
theorem ziS{α:Type}{ls:List Int}(h:KC ls)(f:Nat→α)(z:α):∀k,k≤ls.length→(∀t,t<k→(ZO ls f z ls.length k).getD (ls.getD t 0).toNat z=f t)∧(∀t,k≤t→t<ls.length→(ZO ls f z ls.length k).getD (ls.getD t 0).toNat z=z)
 |0,_=>⟨fun t ht=>absurd ht (by omega),fun t _ ht=>by
  rw[ZO,zd,List.getElem?_replicate];split<;>rfl⟩
 |k+1,hk=>by
  obtain⟨h1,h2⟩:=ziS h f z k (by omega)
  have hb:=h.inr k (by omega)
  have hs:∀t,t<ls.length→((ls.getD t 0).toNat=(ls.getD k 0).toNat↔t=k):=fun t ht=>by
   have:=h.inr t ht
   exact⟨fun e=>h.inj ht (by omega) (by omega),fun e=>by rw[e]⟩
  refine⟨fun t ht=>?_,fun t ht htl=>?_⟩
  ·rw[ZO,ziC (by rw[Yw];omega)]
   by_cases htk:t=k
   ·rw[if_pos ((hs t (by omega)).2 htk),htk]
   ·rw[if_neg (fun e=>htk ((hs t (by omega)).1 e))];exact h1 t (by omega)
  ·rw[ZO,ziC (by rw[Yw];omega),if_neg (fun e=>by have:=(hs t htl).1 e;omega)]
   exact h2 t (by omega) htl
def qj(ls:List Int):List Int:=ZO ls (fun k=>(k:Int)) 0 ls.length ls.length
theorem Yy{α:Type}{l l':List α}{n:Nat}(z:α)(h1:l.length=n)(h2:l'.length=n)(h:∀j,j<n→l.getD j z=l'.getD j z):l=l':=by
 apply List.ext_getElem?
 intro j
 by_cases hj:j<n
 ·have:=h j hj
  rw[zd,zd,ze (by omega),ze (by omega)]at this
  rw[ze (by omega),ze (by omega)]
  exact congrArg some this
 ·rw[zI (by omega),zI (by omega)]
theorem uu(ls:List Int):(qj ls).length=ls.length:=Yw _ _ _ _ _
theorem zdm{ls:List Int}(h:KC ls){t:Nat}(ht:t<ls.length):(qj ls).getD (ls.getD t 0).toNat 0=t:=(ziS h (fun k=>(k:Int)) 0 ls.length (zt _)).1 t ht
theorem zkc{α:Type}{ls:List Int}(h:KC ls)(f:Nat→α)(z:α):ZO ls f z ls.length ls.length=(qj ls).map fun i=>f i.toNat:=by
 refine Yy z (Yw _ _ _ _ _) (by rw[yh,uu]) fun j hj=>?_
 obtain⟨t,ht,he⟩:=h.sur hj
 have h1:=(ziS h f z ls.length (zt _)).1 t ht
 have h2:=zdm h ht
 rw[he,zC]at h1 h2
 rw[h1,zd,zH]
 rw[zd,ze (by rw[uu];exact hj)]at h2
 rw[ze (by rw[uu];exact hj)]
 simp only[Option.map_some,jh]at h2 ⊢
 rw[h2,zC]
theorem zy1{α:Type}{ls:List Int}(h:KC ls)(f:Nat→α)(z:α){k:Nat}(hk:k<ls.length):(ZO ls f z ls.length k).set (ls.getD k 0).toNat z=ZO ls f z ls.length k:=by
 have hb:=h.inr k hk
 refine Yy z (by rw[yj,Yw]) (Yw _ _ _ _ _) fun j hj=>?_
 rw[ziC (by rw[Yw];omega)]
 split
 ·rename_i e
  rw[e,(ziS h f z k (by omega)).2 k (zt _) hk]
 ·rfl
def zhD(n:Int)(ls:List Int):Bool:=decide (n=ls.length)&&(yq ls.length).all fun x=>ls.contains x
theorem zga{n:Int}{ls:List Int}:zhD n ls=true↔n=ls.length∧KC ls:=by
 simp only[zhD,zh,decide_eq_true_eq,List.all_eq_true,List.contains_iff_mem]
 constructor
 ·rintro⟨h1,h2⟩
  exact⟨h1,fun t ht=>h2 t (Jl.2 ⟨by omega,by omega⟩)⟩
 ·rintro⟨h1,h2⟩
  refine⟨h1,fun x hx=>?_⟩
  obtain⟨h3,h4⟩:=Jl.1 hx
  have:=h2 x.toNat (by omega)
  rwa [show((x.toNat:Nat):Int)=x by omega]at this
end Go.Ax
namespace Go.Ax
open Go.Proofs
theorem zm5(d:List Int):∀m,(npI d m=0→∀t,t<m→d.getD (t+1) 0<d.getD t 0)∧
 ∀j,npI d m=j+1→j<m∧¬d.getD (j+1) 0<d.getD j 0∧∀t,j<t→t<m→d.getD (t+1) 0<d.getD t 0
 |0=>⟨fun _ t ht=>absurd ht (by omega),fun j h=>by simp[npI]at h⟩
 |m+1=>by
  obtain⟨h1,h2⟩:=zm5 d m
  rw[npI]
  by_cases h:d.getD (m+1) 0<d.getD m 0
  ·rw[if_pos h]
   refine⟨fun h0 t ht=>?_,fun j hj=>?_⟩
   ·by_cases e:t=m
    ·rw[e];exact h
    ·exact h1 h0 t (by omega)
   ·obtain⟨k1,k2,k3⟩:=h2 j hj
    refine⟨by omega,k2,fun t t1 t2=>?_⟩
    by_cases e:t=m
    ·rw[e];exact h
    ·exact k3 t t1 (by omega)
  ·rw[if_neg h]
   refine⟨fun h0=>by omega,fun j hj=>?_⟩
   have e:j=m:=by omega
   subst e
   exact⟨by omega,h,fun t t1 t2=>by omega⟩
theorem ztm(d:List Int)(x:Int):∀m,npK d x m≤m∧(0<npK d x m→¬d.getD (npK d x m) 0<x)∧∀t,npK d x m<t→t≤m→d.getD t 0<x
 |0=>⟨zt _,fun h=>by simp[npK]at h,fun t h1 h2=>by omega⟩
 |m+1=>by
  obtain⟨h1,h2,h3⟩:=ztm d x m
  rw[npK]
  by_cases h:d.getD (m+1) 0<x
  ·rw[if_pos h]
   refine⟨by omega,h2,fun t t1 t2=>?_⟩
   by_cases e:t=m+1
   ·rw[e];exact h
   ·exact h3 t t1 (by omega)
  ·rw[if_neg h]
   exact⟨zt _,fun _=>h,fun t t1 t2=>by omega⟩
theorem ztE{x y:Int}{a b:List Int}:yo (x::a) (y::b)=false↔¬(x<y∨x=y∧yo a b=true):=by
 rw[←QX]
 cases yo (x::a) (y::b)<;>simp
theorem zfJ:∀(s u:List Int),s.Pairwise (·≤ ·)→u.Perm s→yo u s=false
 |[],u,_,hp=>by
  rw[hp.eq_nil];rfl
 |a::s,u,hs,hp=>by
  cases u with
  |nil=>exact absurd hp.symm.eq_nil (by simp)
  |cons b u=>
   obtain⟨h1,h2⟩:=kG.1 hs
   rw[ztE]
   have hb:b∈a::s:=hp.mem_iff.1 (by simp)
   have hab:a≤b:=by
    rcases zE.1 hb with h|h
    ·omega
    ·exact h1 b h
   rintro(h|⟨h,h3⟩)
   ·omega
   ·subst h
    rw[zfJ s u h2 hp.cons_inv]at h3
    cases h3
theorem zeO:∀(s u:List Int),s.Pairwise (·≥ ·)→u.Perm s→yo s u=false
 |[],u,_,hp=>by
  rw[hp.eq_nil];rfl
 |a::s,u,hs,hp=>by
  cases u with
  |nil=>exact absurd hp.symm.eq_nil (by simp)
  |cons b u=>
   obtain⟨h1,h2⟩:=kG.1 hs
   rw[ztE]
   have hb:b∈a::s:=hp.mem_iff.1 (by simp)
   have hab:b≤a:=by
    rcases zE.1 hb with h|h
    ·omega
    ·exact h1 b h
   rintro(h|⟨h,h3⟩)
   ·omega
   ·subst h
    rw[zeO s u h2 hp.cons_inv]at h3
    cases h3
theorem ztC{r r':List Int}(h:∀q,q.Perm r→yo r q=true→yo q r'=false):∀(A q:List Int),q.Perm (A++r)→yo (A++r) q=true→yo q (A++r')=false
 |[],q,hp,hl=>h q hp hl
 |a::A,q,hp,hl=>by
  cases q with
  |nil=>exact absurd hp.symm.eq_nil (by simp)
  |cons b q=>
   rw[zV,QX]at hl
   rw[zV,ztE]
   rintro(h1|⟨h1,h2⟩)
   ·omega
   ·subst h1
    rcases hl with hl|⟨_,hl⟩
    ·omega
    ·rw[ztC h A q hp.cons_inv hl]at h2
     cases h2
theorem zg3(u v:List Int):∀A:List Int,yo (A++u) (A++v)=yo u v
 |[]=>rfl
 |a::A=>by
  rw[zV,zV,←zg3 u v A]
  simp[yo]
theorem zqf:∀l:List Int,(∀t,t+1<l.length→l.getD (t+1) 0<l.getD t 0)→l.Pairwise (·> ·)
 |[],_=>.nil
 |[a],_=>by simp
 |a::b::l,h=>by
  have hb:=zqf (b::l) (fun t ht=>h (t+1) (by simpa using ht))
  have h0:=h 0 (by simp)
  have hab:b<a:=h0
  refine kG.2 ⟨fun z hz=>?_,hb⟩
  rcases zE.1 hz with e|hz
  ·rw[e];exact hab
  ·have:=(kG.1 hb).1 z hz
   show z<a
   have h2:z<b:=this
   omega
structure NpD (A:List Int) (x:Int) (S:List Int) (y:Int) (T:List Int):Prop where
 pw:(S++y::T).Pairwise (·> ·)
 xy:x<y
 lo:∀z∈T,z<x
theorem NpD.next{A S T:List Int}{x y:Int}(h:NpD A x S y T):
 (A++y::(S++x::T).reverse).Perm (A++x::(S++y::T))∧yo (A++x::(S++y::T)) (A++y::(S++x::T).reverse)=true∧
  ∀q:List Int,q.Perm (A++x::(S++y::T))→yo (A++x::(S++y::T)) q=true→yo q (A++y::(S++x::T).reverse)=false:=by
 have hsw:(y::(S++x::T)).Perm (x::(S++y::T)):=by
  refine((List.perm_middle (l₁:=S) (l₂:=T) (a:=x)).cons y).trans (.trans (.swap x y _) ?_)
  exact(List.perm_middle (l₁:=S) (l₂:=T) (a:=y)).symm.cons x
 obtain⟨p1,p2,p3⟩:=zc0.1 h.pw
 obtain⟨p4,p5⟩:=kG.1 p2
 have hpw:(S++x::T).Pairwise (·> ·):=by
  refine zc0.2 ⟨p1,kG.2 ⟨fun z hz=>h.lo z hz,p5⟩,fun a ha b hb=>?_⟩
  have hay:y<a:=p3 a ha y (by simp)
  rcases zE.1 hb with e|hb
  ·rw[e];have:=h.xy;show x<a;omega
  ·exact p3 a ha b (by simp[hb])
 refine⟨(((List.reverse_perm _).cons y).trans hsw).append_left A,?_,ztC (fun q hp hl=>?_) A⟩
 ·rw[zg3,QX];exact .inl h.xy
 ·cases q with
  |nil=>exact absurd hp.symm.eq_nil (by simp)
  |cons b q=>
   rw[QX]at hl
   rw[ztE]
   rcases hl with hl|⟨e,hl⟩
   ·have hb:b∈S++y::T:=by
     rcases zE.1 (hp.mem_iff.1 (show b∈b::q by simp))with e|hb
     ·omega
     ·exact hb
    have hby:y≤b:=by
     rcases yU.1 hb with hb|hb
     ·have:y<b:=p3 b hb y (by simp)
      omega
     ·rcases zE.1 hb with e|hb
      ·omega
      ·have:=h.lo b hb;omega
    rintro(h1|⟨h1,h2⟩)
    ·omega
    ·subst h1
     have hq:q.Perm (S++x::T):=(hp.trans hsw.symm).cons_inv
     rw[zfJ _ q ?_ (hq.trans (List.reverse_perm _).symm)]at h2
     ·cases h2
     ·rw[List.pairwise_reverse]
      exact hpw.imp fun{a b} hab=>by have:b<a:=hab;omega
   ·subst e
    rw[zeO _ q (h.pw.imp fun{a b} hab=>by have:b<a:=hab;show b≤a;omega) hp.cons_inv]at hl
    cases hl
theorem zDw(d:List Int){j k:Nat}(hjk:j<k)(hk:k<d.length):∃A x S y T,d=A++x::(S++y::T)∧A.length=j∧S.length=k-(j+1):=by
 refine⟨d.take j,d[j]'(by omega),(d.drop (j+1)).take (k-(j+1)),d[k],d.drop (k+1),?_,by rw[zL];omega,by rw[zL,yx];omega⟩
 have e1:(d.drop (j+1)).take (k-(j+1))++d[k]::d.drop (k+1)=d.drop (j+1):=by
  rw[←Zc hk]
  have:=qK (k-(j+1)) (d.drop (j+1))
  rw[List.drop_drop,show j+1+(k-(j+1))=k by omega]at this
  exact this
 rw[e1,←Zc (by omega),qK]
theorem zAP{d:List Int}(h:Ky d=false){q:List Int}(hp:q.Perm d):yo d q=false:=by
 have h0:npI d (d.length-1)=0:=by
  rw[Ky,zbl]at h
  cases hi:npI d (d.length-1)with
  |zero=>rfl
  |succ j=>rw[hi]at h;cases h
 have h1:=(zm5 d (d.length-1)).1 h0
 refine zeO d q ((zqf d fun t ht=>h1 t (by omega)).imp fun{a b} hab=>by have:b<a:=hab;show b≤a;omega) hp
theorem ztT(A:List Int)(x:Int)(r:List Int)(t:Nat):(A++x::r).getD (A.length+1+t) 0=r.getD t 0:=by
 rw[zd,yn (by omega),show A.length+1+t-A.length=t+1 by omega,List.getElem?_cons_succ,←zd]
theorem ztU(A:List Int)(x:Int)(r:List Int):(A++x::r).getD A.length 0=x:=by
 rw[zd,yn (by omega),jA]
 rfl
theorem zv7(A:List Int)(x y:Int)(r:List Int):(A++x::r).set A.length y=A++y::r:=by
 rw[List.set_append_right _ _ (by omega),jA]
 rfl
theorem zwm{d:List Int}(hn:d.Nodup)(h:Ky d=true):(uH d).Perm d∧yo d (uH d)=true∧∀q:List Int,q.Perm d→yo d q=true→yo q (uH d)=false:=by
 cases hi:npI d (d.length-1)with
 |zero=>rw[Ky,zbl,hi]at h;cases h
 |succ j=>
  obtain⟨i1,i2,i3⟩:=(zm5 d (d.length-1)).2 j hi
  obtain⟨k,hk⟩:∃k,npK d (d.getD j 0) (d.length-1)=k:=⟨_,rfl⟩
  obtain⟨k1,k2,k3⟩:=ztm d (d.getD j 0) (d.length-1)
  rw[hk]at k1 k2 k3
  have hjk:j<k:=by
   rcases Nat.lt_or_ge j k with h|h
   ·exact h
   ·exact absurd (k3 (j+1) (by omega) (by omega)) i2
  have hL:uH d=npR (npS d j k) (j+1):=by
   rw[uH,zbl,hi]
   show npR (npS d j (npK d (d.getD j 0) (d.length-1))) (j+1)=_
   rw[hk]
  have hkl:k<d.length:=by omega
  obtain⟨A,x,S,y,T,hd,hA,hS⟩:=zDw d hjk hkl
  have gx:d.getD j 0=x:=by rw[hd,←hA];exact ztU _ _ _
  have gm:∀t,d.getD (j+1+t) 0=(S++y::T).getD t 0:=fun t=>by rw[hd,←hA];exact ztT _ _ _ _
  have gy:d.getD k 0=y:=by
   have:=gm (k-(j+1))
   rw[show j+1+(k-(j+1))=k by omega,←hS,ztU]at this
   exact this
  have hl:d.length=j+1+(S++y::T).length:=by rw[hd,zk,zi,hA];omega
  have hT:(S++y::T).length=k-(j+1)+1+T.length:=by rw[zk,zi,hS];omega
  have hNpD:NpD A x S y T:={
   pw:=zqf _ fun t ht=>by
    have:=i3 (j+1+t) (by omega) (by omega)
    rw[gm t,show j+1+t+1=j+1+(t+1) by omega,gm (t+1)]at this
    exact this
   xy:=by
    have h2:=k2 (by omega)
    rw[gx,gy]at h2
    have hne:x≠y:=fun e=>by
     rw[hd,e]at hn
     have:=(ze0.1 hn).2.1
     simp at this
    omega
   lo:=fun z hz=>by
    obtain⟨t,ht,rfl⟩:=qk.1 hz
    have h2:=k3 (k+1+t) (by omega) (by omega)
    have e1:=gm (k-(j+1)+1+t)
    rw[show j+1+(k-(j+1)+1+t)=k+1+t by omega,←hS,ztT]at e1
    rw[e1,gx,zd,ze ht]at h2
    exact h2}
  have hR:uH d=A++y::(S++x::T).reverse:=by
   rw[hL,npS,gx,gy,npR]
   have e1:(d.set j y).set k x=A++y::(S++x::T):=by
    rw[hd,←hA,zv7]
    have e2:A++y::(S++y::T)=(A++y::S)++y::T:=by simp
    have e3:A++y::(S++x::T)=(A++y::S)++x::T:=by simp
    have e4:k=(A++y::S).length:=by rw[zk,zi];omega
    rw[e2,e3,e4,zv7]
   rw[e1]
   have e5:A++y::(S++x::T)=(A++[y])++(S++x::T):=by simp
   have e6:j+1=(A++[y]).length:=by rw[zk];simp[hA]
   rw[e5,e6,zij,List.drop_left]
   simp
  rw[hR]
  rw[hd]
  exact hNpD.next
end Go.Ax
namespace Go.Ax
open Go.Proofs
theorem ul{n:Nat}{q:List Int}(h:q.Perm (yq n)):KC q∧q.length=n:=by
 have hl:q.length=n:=by rw[h.length_eq,qd]
 exact⟨fun t ht=>h.symm.mem_iff.1 (Jl.2 ⟨by omega,by omega⟩),hl⟩
theorem zhX{n:Nat}{q:List Int}(h:KC q)(hl:q.length=n):q.Perm (yq n):=by
 have:=h.perm
 rw[hl]at this
 exact this.symm
theorem zi7(n:Nat):(yq n).Nodup:=(zep n).imp fun h=>by omega
theorem zoP{n:Nat}{q:List Int}(h:q.Perm (yq n)):yo q (yq n)=false:=zfJ _ q ((zep n).imp fun h=>by omega) h
theorem zrO{n:Nat}{p:List Int}(hd:p.Nodup)(hin:∀x∈p,0≤x∧x<n)(hl:p.length=n):p.Perm (yq n):=
 zm2 p (yq n) hd (fun x hx=>Jl.2 (hin x hx)) (by rw[qd];omega)
theorem znq{n:Nat}{p s:List Int}(h:(p++s).Perm (yq n))(hp:p.length<n):∃(t:Nat) (s':List Int),t<n∧s=(t:Int)::s'∧(t:Int)∉p:=by
 have hl:(p++s).length=n:=by rw[h.length_eq,qd]
 rw[zk]at hl
 cases s with
 |nil=>simp at hl;omega
 |cons y s'=>
  have hy:=Jl.1 (h.mem_iff.1 (show y∈p++y::s' by simp))
  refine⟨y.toNat,s',by omega,by rw[Int.toNat_of_nonneg hy.1],?_⟩
  rw[Int.toNat_of_nonneg hy.1]
  have hd:(p++y::s').Nodup:=h.nodup_iff.2 (zi7 n)
  intro hyp
  exact(ze0.1 hd).2.2 y hyp y (by simp) rfl
def za0(g:Nat→List Int)(n:Nat):List Int:=match (List.range n).find? fun y=> !(g y).isEmpty with
 |some y=>g y
 |none=>[]
theorem zoW{g:Nat→List Int}{n y:Nat}(hy:y<n)(h0:∀t,t<y→g t=[])(h1:g y≠[]):za0 g n=g y:=by
 have:(List.range n).find? (fun y=> !(g y).isEmpty)=some y:=by
  rw[Zv]
  refine⟨by simpa using h1,by simpa using hy,fun t ht=>by simp[h0 t ht]⟩
 rw[za0,this]
theorem zoV{g:Nat→List Int}{n:Nat}(h0:∀t,t<n→g t=[]):za0 g n=[]:=by
 have:(List.range n).find? (fun y=> !(g y).isEmpty)=none:=by
  rw[List.find?_eq_none]
  intro t ht
  simp[h0 t (kn.1 ht)]
 rw[za0,this]
theorem zyn(g:Nat→List Int)(n:Nat):(za0 g n=[]∧∀t,t<n→g t=[])∨∃y,y<n∧(∀t,t<y→g t=[])∧g y≠[]∧za0 g n=g y:=by
 cases h:(List.range n).find? fun y=> !(g y).isEmpty with
 |none=>
  have h0:∀t,t<n→g t=[]:=fun t ht=>by
   have:=List.find?_eq_none.1 h t (kn.2 ht)
   simpa using this
  exact .inl ⟨zoV h0,h0⟩
 |some y=>
  rw[Zv]at h
  obtain⟨h1,h2,h3⟩:=h
  have h0:∀t,t<y→g t=[]:=fun t ht=>by simpa using h3 t ht
  exact .inr ⟨y,by simpa using h2,h0,by simpa using h1,zoW (by simpa using h2) h0 (by simpa using h1)⟩
def kh(chk:List Int→Int→Bool)(n:Nat):Nat→List Int→List Int
 |0,p=>p
 |m+1,p=>za0 (fun y=>if !p.contains (y:Int)&&chk p y then kh chk n m (p++[(y:Int)])else[]) n
def Gd(chk:List Int→Int→Bool)(q:List Int):Prop:=∀i,i<q.length→chk (q.take i) (q.getD i 0)=true
theorem Gd.next{chk:List Int→Int→Bool}{p s:List Int}{y:Int}(h:Gd chk (p++y::s)):chk p y=true:=by
 have:=h p.length (by simp)
 rwa [zij,zd,yn (zt _),jA]at this
theorem Gd.snoc{chk:List Int→Int→Bool}{p:List Int}{y:Int}(h:Gd chk p)(hy:chk p y=true):Gd chk (p++[y]):=fun i hi=>by
 rw[zk]at hi
 simp only[zi,zr]at hi
 by_cases e:i=p.length
 ·rw[e,zij,zd,yn (zt _),jA]
  exact hy
 ·have:=h i (by omega)
  rwa [List.take_append_of_le_length (by omega),zd,List.getElem?_append_left (by omega),←zd]
theorem zv5{n:Nat}{p:List Int}{y:Nat}(hd:p.Nodup)(hin:∀x∈p,0≤x∧x<n)(hy:y<n)(hyp:(y:Int)∉p):(p++[(y:Int)]).Nodup∧∀x∈p++[(y:Int)],0≤x∧x<n:=by
 refine⟨ze0.2 ⟨hd,by simp,fun a ha b hb=>?_⟩,fun x hx=>?_⟩
 ·simp only[yp]at hb
  subst hb
  exact fun e=>hyp (by rw[←e];exact ha)
 ·rcases yU.1 hx with hx|hx
  ·exact hin x hx
  ·simp only[yp]at hx
   omega
theorem zoH{chk:List Int→Int→Bool}{n:Nat}(hn:1≤n):∀(m:Nat) (p:List Int),p.length+m=n→p.Nodup→(∀x∈p,0≤x∧x<n)→Gd chk p→
 (kh chk n m p=[]→∀s,(p++s).Perm (yq n)→¬Gd chk (p++s))∧
 (kh chk n m p≠[]→∃s,kh chk n m p=p++s∧(p++s).Perm (yq n)∧Gd chk (p++s)∧∀s',(p++s').Perm (yq n)→Gd chk (p++s')→yo (p++s') (p++s)=false)
 |0,p,hl,hd,hin,hg=>by
  refine⟨fun h=>?_,fun _=>⟨[],by rw[kh,yw],by rw[yw];exact zrO hd hin (by omega),by rw[yw];exact hg,fun s' hs' _=>?_⟩⟩
  ·rw[kh]at h
   rw[h]at hl
   simp at hl
   omega
  ·have h1:=hs'.length_eq
   rw[zk,qd]at h1
   have:s'=[]:=yC (by omega)
   rw[this]
   exact Yf _
 |m+1,p,hl,hd,hin,hg=>by
  obtain⟨g,hgd⟩:∃g:Nat→List Int,g=fun(y:Nat)=>if !p.contains (y:Int)&&chk p y then kh chk n m (p++[(y:Int)])else[]:=⟨_,rfl⟩
  have hgy:∀y:Nat,y<n→(y:Int)∉p→chk p y=true→g y=kh chk n m (p++[(y:Int)])∧((kh chk n m (p++[(y:Int)])=[]→∀s,(p++[(y:Int)]++s).Perm (yq n)→¬Gd chk (p++[(y:Int)]++s))∧
   (kh chk n m (p++[(y:Int)])≠[]→∃s,kh chk n m (p++[(y:Int)])=p++[(y:Int)]++s∧(p++[(y:Int)]++s).Perm (yq n)∧Gd chk (p++[(y:Int)]++s)∧∀s',(p++[(y:Int)]++s').Perm (yq n)→Gd chk (p++[(y:Int)]++s')→yo (p++[(y:Int)]++s') (p++[(y:Int)]++s)=false)):=fun y hy hyp hc=>by
   obtain⟨o1,o2⟩:=zv5 hd hin hy hyp
   refine⟨by rw[hgd];simp[hyp,hc],zoH hn m _ (by rw[zk];simp;omega) o1 o2 (hg.snoc hc)⟩
  have hbad:∀t:Nat,t<n→g t=[]→∀s',(p++(t:Int)::s').Perm (yq n)→(t:Int)∉p→¬Gd chk (p++(t:Int)::s'):=fun t ht h0 s' hs' htp hG=>by
   obtain⟨k1,k2,_⟩:=hgy t ht htp hG.next
   rw[k1]at h0
   have e:p++(t:Int)::s'=p++[(t:Int)]++s':=by simp
   rw[e]at hs' hG
   exact k2 h0 s' hs' hG
  have hF:kh chk n (m+1) p=za0 g n:=by rw[hgd];rfl
  rcases zyn g n with⟨h1,h2⟩|⟨y,hy,h0,h1,h2⟩
  ·refine⟨fun _ s hs hG=>?_,fun h=>absurd (hF.trans h1) h⟩
   obtain⟨t,s',ht,rfl,htp⟩:=znq hs (by omega)
   exact hbad t ht (h2 t ht) s' hs htp hG
  ·refine⟨fun h=>absurd (by rw[←h2,←hF];exact h) h1,fun _=>?_⟩
   have hyp:(y:Int)∉p:=fun h=>h1 (by rw[hgd];simp[h])
   have hc:chk p y=true:=by
    cases hc:chk p y with
    |true=>rfl
    |false=>exact absurd (by rw[hgd];simp[hc]) h1
   obtain⟨k1,_,k3⟩:=hgy y hy hyp hc
   obtain⟨s,s1,s2,s3,s4⟩:=k3 (by rw[←k1];exact h1)
   have e:∀u,p++(y:Int)::u=p++[(y:Int)]++u:=fun u=>by simp
   refine⟨(y:Int)::s,by rw[hF,h2,k1,s1];exact(e s).symm,by rw[e];exact s2,by rw[e];exact s3,fun s' hs' hG=>?_⟩
   obtain⟨t,s'',ht,rfl,htp⟩:=znq hs' (by omega)
   rw[zg3,ztE]
   rintro(h3|⟨h3,h4⟩)
   ·exact hbad t ht (h0 t (by omega)) s'' hs' htp hG
   ·have e1:t=y:=by omega
    subst e1
    rw[e]at hs' hG
    have h5:=s4 s'' hs' hG
    rw[zg3]at h5
    rw[h5]at h4
    cases h4
def zc3(G:List Int→Prop)(n:Nat)(r:List Int):Prop:=
 (r=[]∧∀q,q.Perm (yq n)→¬G q)∨(r.Perm (yq n)∧G r∧∀q,q.Perm (yq n)→G q→yo q r=false)
theorem zc3.unique{G:List Int→Prop}{n:Nat}{r r':List Int}(h:zc3 G n r)(h':zc3 G n r'):r=r':=by
 rcases h with⟨e,h⟩|⟨h1,h2,h3⟩<;>rcases h' with⟨e',h'⟩|⟨h1',h2',h3'⟩
 ·rw[e,e']
 ·exact absurd h2' (h r' h1')
 ·exact absurd h2 (h' r h1)
 ·exact zcc r r' (h3' r h1 h2) (h3 r' h1' h2')
theorem zbo{chk:List Int→Int→Bool}{n:Nat}(hn:1≤n):zc3 (Gd chk) n (kh chk n n []):=by
 obtain⟨h1,h2⟩:=zoH hn (chk:=chk) n [] (by simp) .nil (fun x hx=>by cases hx) (fun i hi=>by simp at hi)
 by_cases h:kh chk n n []=[]
 ·exact .inl ⟨h,h1 h⟩
 ·obtain⟨s,s1,s2,s3,s4⟩:=h2 h
  rw[s1]
  exact .inr ⟨s2,s3,s4⟩
theorem zlx{n:Nat}{p:List Int}(h:p.Perm (yq n))(hb:Ky p=true):(uH p).Perm (yq n):=(zwm (h.nodup_iff.2 (zi7 n)) hb).1.trans h
theorem zlw{n:Nat}{p:List Int}(h:p.Perm (yq n))(hb:Ky p=true){q:List Int}(hq:q.Perm (yq n)):yo q (uH p)=true↔yo q p=true∨q=p:=by
 obtain⟨_,h2,h3⟩:=zwm (h.nodup_iff.2 (zi7 n)) hb
 constructor
 ·intro h1
  cases h4:yo q p with
  |true=>exact .inl rfl
  |false=>
   refine .inr ?_
   cases h5:yo p q with
   |true=>rw[h3 q (hq.trans h.symm) h5]at h1;cases h1
   |false=>exact zcc q p h4 h5
 ·rintro(h1|rfl)
  ·exact zbr _ _ _ h1 h2
  ·exact h2
theorem zwn{n:Nat}{p:List Int}(h:p.Perm (yq n))(hb:Ky p=false){q:List Int}(hq:q.Perm (yq n)):yo q p=true∨q=p:=by
 have h1:=zAP hb (hq.trans h.symm)
 cases h4:yo q p with
 |true=>exact .inl rfl
 |false=>exact .inr (zcc q p h4 h1)
def ziY(b:Nat):List Int→Nat
 |[]=>0
 |x::l=>x.toNat*b^l.length+ziY b l
theorem zp0{b:Nat}:∀l:List Int,(∀x∈l,0≤x∧x<b)→ziY b l<b^l.length
 |[],_=>by simp[ziY]
 |x::l,h=>by
  have h1:=zp0 l fun y hy=>h y (by simp[hy])
  obtain⟨h2,h3⟩:=h x (by simp)
  have h4:(x.toNat+1)*b^l.length≤b*b^l.length:=yZ _ (by omega)
  rw[Nat.succ_mul]at h4
  rw[ziY,zi,Nat.pow_succ,Nat.mul_comm (b^l.length) b]
  omega
theorem ztj{b:Nat}:∀p q:List Int,p.length=q.length→(∀x∈p,0≤x∧x<b)→(∀x∈q,0≤x∧x<b)→yo p q=true→ziY b p<ziY b q
 |[],[],_,_,_,h=>by cases h
 |[],_::_,h,_,_,_=>by simp at h
 |_::_,[],h,_,_,_=>by simp at h
 |x::p,y::q,hl,hp,hq,h=>by
  have hl':p.length=q.length:=by simpa using hl
  rw[QX]at h
  rw[ziY,ziY,hl']
  have hx:=hp x (by simp)
  have hy:=hq y (by simp)
  rcases h with h|⟨rfl,h⟩
  ·have h1:=zp0 p fun z hz=>hp z (by simp[hz])
   rw[hl']at h1
   have h4:(x.toNat+1)*b^q.length≤y.toNat*b^q.length:=yZ _ (by omega)
   rw[Nat.succ_mul]at h4
   omega
  ·have:=ztj p q hl' (fun z hz=>hp z (by simp[hz])) (fun z hz=>hq z (by simp[hz])) h
   omega
def zeb(n:Nat)(p:List Int):Nat:=n^n-ziY n p
theorem zrm{n:Nat}{p:List Int}(h:p.Perm (yq n))(hb:Ky p=true):zeb n (uH p)<zeb n p:=by
 have h2:=zlx h hb
 have m1:∀x∈p,0≤x∧x<n:=fun x hx=>Jl.1 (h.mem_iff.1 hx)
 have m2:∀x∈uH p,0≤x∧x<n:=fun x hx=>Jl.1 (h2.mem_iff.1 hx)
 have l1:p.length=n:=by rw[h.length_eq,qd]
 have l2:(uH p).length=n:=by rw[h2.length_eq,qd]
 have h3:=ztj p (uH p) (by omega) m1 m2 ((zlw h hb h).2 (.inr rfl))
 have h4:=zp0 (uH p) m2
 rw[l2]at h4
 rw[zeb,zeb]
 omega
end Go.Ax
namespace Go.Ax
open Go.Proofs
def zyF(es:List V):Prop:=∃xss,es=BB false xss∧xss.length≤2147483647∧∀xs∈xss,xs.length≤2147483647
theorem zvt(o:Bool)(n:Nat)(xs:List Int):BB o (List.replicate n xs)=List.replicate n (.agg [.slc o 2 (.int .i64 0) (I xs)]):=by simp[BB,List.map_replicate]
theorem zyF.isBB{es:List V}(h:zyF es):zEd false es:=by
 obtain⟨x,h,_⟩:=h
 exact⟨x,h⟩
end Go.Ax
