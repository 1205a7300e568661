import Derived.Test.YtnhfpgcicpfohaaGreatDoorB06p1
import Derived.Test.YtnhfpgcicpfohaaGreatDoorB05p1
import Derived.Test.YtnhfpgcicpfohaaGreatDoorB03p1
import Derived.Test.YtnhfpgcicpfohaaGreatDoorB02p1
import Derived.Shelf.Strconv.Itoa4
import Derived.Shelf.Strings.OnBuilder
import Derived.Test.YtnhfpgcicpfohaaGreatDoorProg
set_option linter.all false
set_option maxRecDepth 100000
set_option maxHeartbeats 4000000
open Bool renaming not_eq_true'→yG
open Int renaming le_refl→yN,natCast_add→Zz,natCast_nonneg→jG,tmod_eq_emod_of_nonneg→kL,toNat_natCast→zV
open List renaming all_eq_true→zZ,append_nil→yh,cons_append→zL,drop_eq_nil_of_le→jF,flatMap_append→js,getD_eq_getElem?_getD→zd,getElem?_eq_getElem→ze,getElem?_eq_none→zG,getElem?_map→zJ,getElem_mem→ye,length_append→zk,length_cons→zi,length_drop→zP,length_map→zy,length_nil→zq,length_range→kS,length_set→yP,length_take→zD,map_append→qD,map_congr_left→qU,map_drop→zbq,map_set→JL,mem_cons_of_mem→zp,mem_cons_self→yi,mem_flatMap→YT,mem_iff_getElem→ym,mem_map→yD,mem_of_mem_drop→ul,mem_range→yX,mem_singleton→zX,range_succ→ux,take_of_length_le→zu,take_succ_eq_append_getElem→zC
open Nat renaming add_assoc→kt,add_mod→Jj,dvd_of_mod_eq_zero→Ji,le_of_ble_eq_true→zh,le_refl→zn,le_trans→yI,mod_eq_of_lt→ug,mod_lt→kY,mod_mod→zg7,mod_mul→zg6,mul_le_mul→JK,mul_le_mul_left→Qc,mul_mod→Jg,mul_one→Jf,pow_succ→zcD,succ_mul→zkn
open Option renaming getD_some→qh
open Option.some renaming injEq→za
open Prod.mk renaming injEq→zb
/-
 Texts of curves:spec.l09Text. No conditions but those of the contracts.
-/
namespace Go.Ax
open Go.Proofs
theorem ziv(c:UInt8):∀(l:List By) (w:By),jC c (l++[w])=if l=[]then w else jC c l++c::w
 |[],w=>rfl
 |[x],w=>rfl
 |x::y::l,w=>by
  have ih:=ziv c (y::l) w
  rw[if_neg (List.cons_ne_nil _ _)]at ih ⊢
  rw[zL]at ih
  rw[zL,zL,jC,ih,jC]
  simp
def Zm(ms:List (List Int))(i k:Nat):List Int:=((List.range k).drop (i+1)).map fun j=>mm ms i j
def kU(ms:List (List Int))(n i:Nat):List Int:=(List.range i).flatMap fun a=>Zm ms a n
theorem zql(ms:List (List Int))(i:Nat):Zm ms i (i+1)=[]:=by
 rw[Zm,jF (by simp)];rfl
theorem zxP(ms:List (List Int)){i k:Nat}(h:i<k):Zm ms i (k+1)=Zm ms i k++[mm ms i k]:=by
 rw[Zm,Zm,ux,List.drop_append_of_le_length (by rw[kS];omega),qD]
 rfl
theorem QA(ms:List (List Int))(n i:Nat):kU ms n (i+1)=kU ms n i++Zm ms i n:=by
 rw[kU,kU,ux,js]
 simp
def QY(l:List Int):By:=jC 32 (l.map kC)
theorem zn6(n:Int):kC n≠[]:=by
 rw[kC,zfs]
 split<;>simp
theorem zyh{l:List By}(h:∀w∈l,w≠[]):jC 32 l=[]↔l=[]:=by
 cases l with
 |nil=>simp[jC]
 |cons w r=>
  have:=h w (yi ..)
  cases r with
  |nil=>simp[jC,this]
  |cons v r=>simp[jC]
theorem zbw(l:List Int):QY l=[]↔l=[]:=by
 rw[QY,zyh fun w hw=>by
  obtain⟨x,_,rfl⟩:=yD.1 hw
  exact zn6 x]
 simp
theorem zx6(l:List Int)(x:Int):QY (l++[x])=(if QY l=[]then[]else QY l++[32])++kC x:=by
 rw[QY,qD,List.map_singleton,ziv]
 by_cases h:l=[]
 ·rw[h];rfl
 ·rw[if_neg (by simpa using h),if_neg (fun e=>h ((zbw l).1 e)),QY];simp
def JJ(bs:List (List Int)):By:=jC 32 (bs.map uv)
theorem zyO(l:List (List Int))(x:List Int):JJ (l++[x])=(if l=[]then[]else JJ l++[32])++uv x:=by
 rw[JJ,qD,List.map_singleton,ziv]
 by_cases h:l=[]
 ·rw[h];rfl
 ·rw[if_neg (by simpa using h),if_neg h,JJ];simp
theorem KU(c:UInt8)(M:Nat):∀l:List By,(∀w∈l,w.length≤M)→(jC c l).length≤(M+1)*l.length
 |[],_=>by simp[jC]
 |[w],h=>by
  have:=h w (yi ..)
  simp only[jC,List.length_singleton];omega
 |w::v::r,h=>by
  have h1:=h w (yi ..)
  have h2:=KU c M (v::r) fun x hx=>h x (zp _ hx)
  rw[jC,zk,zi,zi (a:=w),Nat.mul_add]
  omega
theorem zpn{xs:List Int}(hne:xs≠[])(h:okN xs):(uv xs).length≤12+10*xs.length:=by
 cases xs with
 |nil=>exact absurd rfl hne
 |cons x l=>
  have h1:=Ki (h x (yi ..))
  have h2:=zmc 59 l fun y hy=>h y (zp _ hy)
  simp only[uv,List.getD_cons_zero,List.drop_succ_cons,List.drop_zero,zi,zk,zq]
  omega
theorem zrZ(ms:List (List Int))(i k:Nat):(Zm ms i k).length≤k:=by
 rw[Zm,zy,zP,kS];omega
theorem zeV(ms:List (List Int))(n:Nat):∀i,(kU ms n i).length≤n*i
 |0=>by simp[kU]
 |i+1=>by
  have h1:=zeV ms n i
  have h2:=zrZ ms i n
  rw[QA,zk,Nat.mul_succ];omega
theorem zio{l:List Int}(h:okN l):(QY l).length≤10*l.length:=by
 have:=KU 32 9 (l.map kC) fun w hw=>by
  obtain⟨x,hx,rfl⟩:=yD.1 hw
  exact Ki (h x hx)
 rw[zy]at this
 exact this
theorem zc7{xs:List Int}(h:qK xs=true):xs≠[]:=fun e=>by rw[e]at h;simp[qK]at h
theorem zbB{xs:List Int}(h:qK xs=true):okN xs:=fun x hx=>by have:=zhx h x hx;omega
def YI(bs ms:List (List Int)):By:=JJ bs++(if QY (kU ms bs.length bs.length)=[]then[]else 124::QY (kU ms bs.length bs.length))
def Jq(a b:List V):ByteArray:=T (YI (zcO a) (Ka b))
def zgj(a b:List V):Prop:=q_C a b∧ud a b=true∧∀xs∈zcO a,xs.length≤3000000
structure CvW (bs ms:List (List Int)):Prop where
 n1:1≤bs.length
 n6:bs.length≤6
 len:ms.length=bs.length
 row:∀k,k<bs.length→(ms.getD k []).length=bs.length
 ent:∀i k,i<bs.length→k<bs.length→0≤mm ms i k∧mm ms i k≤1000000
 br:∀k,k<bs.length→qK (bs.getD k [])=true
theorem CvP.w{bs ms:List (List Int)}(h:CvP bs ms):CvW bs ms:=⟨h.n1,h.n6,h.tab.len,fun k hk=>(h.tab.row k hk).1,fun i k hi hk=>by have:=h.tab.range hi hk;omega,h.br⟩
def zwG(a b:List V):Prop:=q_C a b∧CvW (zcO a) (Ka b)
def zdF(f:List V→List V→ByteArray)(q:List V→List V→Prop):zQ:=fun
 |[.agg [.slc false 46 (.agg [.slc false 2 (.int .i64 0) []]) a0,.slc false 44 (.slc false 2 (.int .i64 0) []) a1]]=>some ([q a0 a1],.str (f a0 a1))
 |_=>none
theorem zf6:yZ Tryz.prog 17 (zdF Jq zwG):=by
 intro args ps r h hp
 unfold zdF at h
 split at h
 ·rename_i a0 a1
  simp only[za,zb]at h
  obtain⟨rfl,rfl⟩:=h
  obtain⟨⟨⟨bs,hbs,hb1,hb2⟩,⟨ms,hms,hm1,hm2⟩⟩,hcv⟩:zwG a0 a1:=(zo.1 hp).1
  have hf0:Jq a0 a1=T (YI bs ms):=by rw[Jq,hbs,hms,ka,qC]
  rw[hbs,hms,ka,qC]at hcv
  have g1:V.frzs a0=a0:=by rw[hbs,jh]
  have g2:V.frzs a1=a1:=by rw[hms,jg]
  have hbl:a0.length=bs.length:=by rw[hbs,YL]
  have hml:a1.length=ms.length:=by rw[hms,yz]
  have gb:∀k,a0.getD k (.agg [.slc false 2 (.int .i64 0) []])=.agg [.slc false 2 (.int .i64 0) (I (bs.getD k []))]:=fun k=>by rw[hbs,zdw]
  have gm:∀k,a1.getD k (.slc false 2 (.int .i64 0) [])=.slc false 2 (.int .i64 0) (I (ms.getD k [])):=fun k=>by rw[hms,jf]
  obtain⟨n,hn⟩:∃n:Int,n=bs.length:=⟨_,rfl⟩
  have n1:=hcv.n1
  have n6:=hcv.n6
  have hmn:ms.length=bs.length:=hcv.len
  generalize JR:zbm=Kw
  generalize JP:zih=zb2
  generalize kf:YZ=Zd
  generalize ZQ:zgi=zaE
  refine zO (T:=tab) (B:=[(45,ziR Kw zb2),(46,Kk Zd zaE)]) (Bi:=[]) [0,1,2,3,4,5,6] Tryz.func17 rfl rfl (by kernel_rfl) (zh rfl) mixed yd (by subst JR JP kf ZQ;exact(zt zhj (zt zi9 zH))) (by subst JR JP kf ZQ;exact zE) (by kernel_rfl) ?_
  intro L lp rr hL hr hf hlp
  conv=>cbv
  refine hlp ((By×By)×Int) _ _ _ [1,3,4,5] (fun x=>[(1,none,.val (.box 27 (.agg [.slc false 46 (.agg [.slc false 2 (.int .i64 0) []]) a0,.slc false 44 (.slc false 2 (.int .i64 0) []) a1]))),(3,none,.val (.str (T x.1.1))),(4,none,.val (.str (T x.1.2))),(5,none,.val (.int .i64 x.2))])
   (fun x=>0≤x.2∧x.2≤n∧x.1.1=JJ (bs.take x.2.toNat)∧x.1.2=QY (kU ms bs.length x.2.toNat)) (fun x=>(n-x.2).toNat) ((([],[]),0)) (by subst hL;rfl) ?_ ?_
  ·exact⟨by simp,by simp only;omega,rfl,rfl⟩
  rintro⟨⟨tx,tn⟩,x⟩ ⟨x0,x1,hx,hy⟩ hfx ag hag
  simp only at x0 x1 hx hy
  obtain⟨tv,htv⟩:∃tv,tv=T tx:=⟨_,rfl⟩
  obtain⟨tw,htw⟩:∃tw,tw=T tn:=⟨_,rfl⟩
  simp only[←htv,←htw]
  conv=>cbv
  simp only[zr hL,sQ,g1,g2,hbl,hml,gb,gm,←hn,zcV,zcP,zc9,zN]
  have hbk:∀k,k<bs.length→qK (bs.getD k [])=true∧(bs.getD k []).length≤3000000:=fun k hk=>⟨hcv.br k hk,by have:=(Kl (hcv.br k hk)).len;omega⟩
  have Qb:∀k,k<bs.length→zb2 (I (bs.getD k [])):=fun k hk=>by
   rw[←JP]
   exact⟨_,rfl,zc7 (hbk k hk).1,(hbk k hk).2,zbB (hbk k hk).1⟩
  have Eb:∀k,Kw (I (bs.getD k []))=T (uv (bs.getD k [])):=fun k=>by rw[←JR,zbm,zB]
  have lb:∀k,k<bs.length→(uv (bs.getD k [])).length≤30000012:=fun k hk=>by
   have:=zpn (zc7 (hbk k hk).1) (zbB (hbk k hk).1)
   have:=(hbk k hk).2
   omega
  have lbs:∀k,k≤bs.length→(JJ (bs.take k)).length≤30000013*6:=fun k hk=>by
   have:=KU 32 30000012 ((bs.take k).map uv) fun w hw=>by
    obtain⟨y,hy,rfl⟩:=yD.1 hw
    obtain⟨t,ht,rfl⟩:=ym.1 hy
    rw[zD]at ht
    rw[List.getElem_take]
    have:=lb t (by omega)
    rwa [zd,ze (by omega)]at this
   rw[zy,zD]at this
   rw[JJ]
   refine yI this (Qc _ (by omega))
  have hbsn:∀h:x<n,JJ (bs.take (x+1).toNat)=(if x=0 then[]else tx++[32])++uv (bs.getD x.toNat []):=fun h=>by
   rw[yj x0,zC (by omega),zyO,←hx,zd,ze (by omega)]
   congr 1
   by_cases e:x=0
   ·rw[if_pos e,if_pos (by rw[e];rfl)]
   ·rw[if_neg e,if_neg (fun e2=>by
     have:=congrArg List.length e2
     rw[zD,zq]at this
     omega)]
  simp only[Eb]
  have txl:=lbs x.toNat (by omega)
  rw[←hx]at txl
  have tsz:(tv.size:Int)=tx.length:=by rw[htv,qy]
  have s32:(⟨⟨[32]⟩⟩:ByteArray).size=1:=rfl
  have eqA:x<n→x≤0→tv++T (uv (bs.getD x.toNat []))=T (JJ (bs.take (x+1).toNat)):=fun h2 h3=>by
   rw[hbsn h2,if_pos (by omega),htv,show tx=[]from by rw[hx,show x.toNat=0 by omega];rfl];exact Ju [] _
  have eqB:x<n→0<x→tv++(⟨⟨[32]⟩⟩:ByteArray)++T (uv (bs.getD x.toNat []))=T (JJ (bs.take (x+1).toNat)):=fun h2 h3=>by
   rw[hbsn h2,if_neg (by omega),htv,←Ju,←Ju];rfl
  have rl:∀k,k<bs.length→(ms.getD k []).length=bs.length:=hcv.row
  have mmr:∀i k,i<bs.length→k<bs.length→0≤mm ms i k∧mm ms i k≤1000000:=hcv.ent
  have okR:∀i k,i<bs.length→k≤bs.length→okN (Zm ms i k):=fun i k hi hk w hw=>by
   obtain⟨t,ht,rfl⟩:=yD.1 hw
   have:=yX.1 (ul ht)
   have:=mmr i t hi (by omega)
   omega
  have okU:∀i,i≤bs.length→okN (kU ms bs.length i):=fun i hi w hw=>by
   obtain⟨t,ht,hw2⟩:=YT.1 hw
   have:=yX.1 ht
   exact okR t bs.length (by omega) (zn _) w hw2
  have lenU:∀i,i≤bs.length→(kU ms bs.length i).length≤36:=fun i hi=>by
   have:=zeV ms bs.length i
   have h2:bs.length*i≤6*6:=JK n6 (by omega)
   omega
  have s124:(⟨⟨[124]⟩⟩:ByteArray).size=1:=rfl
  have tnE:∀(t:By) (v:ByteArray),v=T t→(v.toList=(⟨⟨[]⟩⟩:ByteArray).toList↔t=[]):=fun t v hv=>by
   rw[hv,show(⟨⟨[]⟩⟩:ByteArray)=T []from rfl,zhQ,zhQ]
  refine⟨fun h2=>⟨fun h3=>⟨by rw[tsz,s32];omega,x0,h2,Qb _ (by omega),?_,?_⟩,fun h3=>⟨x0,h2,Qb _ (by omega),?_,?_⟩⟩,fun h2=>?_⟩
  rotate_left 4
  ·have hxe:x.toNat=bs.length:=by omega
   rw[hxe]at hx hy
   rw[zu (zn _)]at hx
   have hnl:=zio (okU bs.length (zn _))
   have:=lenU bs.length (zn _)
   rw[←hy]at hnl
   have tws:(tw.size:Int)=tn.length:=by rw[htw,qy]
   rw[tnE tn tw htw]
   refine⟨fun h3=>⟨by rw[tsz,s124];omega,by rw[ByteArray.size_append,Zz,tsz,s124];omega,?_⟩,fun h3=>?_⟩
   ·rw[hr,hf0,YI,←hx,←hy,if_neg h3,htv,htw,show(⟨⟨[124]⟩⟩:ByteArray)=T [124]from rfl,Ju,Ju]
    simp
   ·rw[hr,hf0,YI,←hx,←hy,if_pos h3,htv,yh]
  ·have:=lb x.toNat (by omega)
   rw[ByteArray.size_append,s32,qy,Zz,tsz];omega
  rotate_left
  ·have:=lb x.toNat (by omega)
   rw[qy,tsz];omega
  all_goals
   rw[zl (n:=x+1) (by omega) (by omega)]
   first|rw[eqA h2 (by omega)]|rw[eqB h2 (by omega)]
   obtain⟨tq,htq⟩:∃tq,tq=T (JJ (bs.take (x+1).toNat)):=⟨_,rfl⟩
   rw[←htq]
   refine hlp (By×Int) _ _ _ [1,3,4,5,6] (fun y=>[(1,none,.val (.box 27 (.agg [.slc false 46 (.agg [.slc false 2 (.int .i64 0) []]) a0,.slc false 44 (.slc false 2 (.int .i64 0) []) a1]))),(3,none,.val (.str tq)),(4,none,.val (.str (T y.1))),(5,none,.val (.int .i64 x)),(6,none,.val (.int .i64 y.2))])
    (fun y=>x+1≤y.2∧y.2≤n∧y.1=QY (kU ms bs.length x.toNat++Zm ms x.toNat y.2.toNat)) (fun y=>(n-y.2).toNat) ((tn,x+1)) (by subst hL;simp only[←htw];rfl) ?_ ?_
   ·refine⟨by simp,by simp only;omega,?_⟩
    simp only[yj x0]
    rw[zql,yh,hy]
   rintro⟨tm,y⟩ ⟨y0,y1,hm⟩ hfx2 ag2 hag2
   simp only at y0 y1 hm
   obtain⟨tu,htu⟩:∃tu,tu=T tm:=⟨_,rfl⟩
   simp only[←htu]
   conv=>cbv
   simp only[zr hL,sQ,hml,hbl,gm,←hn]
   have tuE:=tnE tm tu htu
   rw[tuE]
   have tml:tm.length≤10*(36+6):=by
    have h1:=lenU x.toNat (by omega)
    have h4:=zrZ ms x.toNat y.toNat
    have h5:=zio (l:=kU ms bs.length x.toNat++Zm ms x.toNat y.toNat) fun w hw=>by
     rcases List.mem_append.1 hw with hw|hw
     ·exact okU _ (by omega) w hw
     ·exact okR _ _ (by omega) (by omega) w hw
    rw[zk]at h5
    rw[hm];omega
   have tus:(tu.size:Int)=tm.length:=by rw[htu,qy]
   have Ed:∀z,Zd z=T (kC z):=fun z=>by rw[←kf];rfl
   have hmy:y<n→0≤(ms.getD x.toNat []).getD y.toNat 0∧(ms.getD x.toNat []).getD y.toNat 0≤1000000:=fun h=>mmr x.toNat y.toNat (by omega) (by omega)
   have Qd:y<n→zaE ((ms.getD x.toNat []).getD y.toNat 0):=fun h=>by
    have:=hmy h
    rw[←ZQ]
    exact⟨by omega,by omega⟩
   have ld:y<n→(kC ((ms.getD x.toNat []).getD y.toNat 0)).length≤9:=fun h=>by
    have:=hmy h
    exact Ki ⟨by omega,by omega⟩
   have hrl:=rl x.toNat (by omega)
   have hsn:y<n→QY (kU ms bs.length x.toNat++Zm ms x.toNat (y+1).toNat)=(if tm=[]then[]else tm++[32])++kC ((ms.getD x.toNat []).getD y.toNat 0):=fun h=>by
    rw[yj (by omega),zxP ms (by omega),←List.append_assoc,zx6,←hm]
    rfl
   rw[Ed]
   refine⟨fun h4=>⟨fun h5=>⟨by rw[tus,s32];omega,x0,by omega,by omega,by omega,Qd h4,?_,?_⟩,fun h5=>⟨x0,by omega,by omega,by omega,Qd h4,?_,?_⟩⟩,fun h4=>?_⟩
   ·have:=ld h4
    rw[ByteArray.size_append,s32,qy,Zz,tus];omega
   ·rw[zl (n:=y+1) (by omega) (by omega),show tu++(⟨⟨[32]⟩⟩:ByteArray)++T (kC ((ms.getD x.toNat []).getD y.toNat 0))=T (QY (kU ms bs.length x.toNat++Zm ms x.toNat (y+1).toNat))from by rw[hsn h4,if_neg h5,htu,←Ju,←Ju];rfl]
    exact hag2 (_,y+1) ⟨by simp only;omega,by simp only;omega,rfl⟩ (by simp only;omega)
   ·have:=ld h4
    rw[qy,tus];omega
   ·rw[zl (n:=y+1) (by omega) (by omega),show tu++T (kC ((ms.getD x.toNat []).getD y.toNat 0))=T (QY (kU ms bs.length x.toNat++Zm ms x.toNat (y+1).toNat))from by rw[hsn h4,if_pos h5,htu,h5];exact Ju [] _]
    exact hag2 (_,y+1) ⟨by simp only;omega,by simp only;omega,rfl⟩ (by simp only;omega)
   ·rw[zl (n:=x+1) (by omega) (by omega),htq,htu]
    refine hag ((_,_),x+1) ⟨by simp only;omega,by simp only;omega,rfl,?_⟩ (by simp only;omega)
    simp only[yj x0]
    rw[QA,hm,show y.toNat=bs.length by omega]
 ·cases h
theorem zhf:yZ Tryz.prog 17 (zdF Jq zgj):=by
 intro args ps r h hp
 unfold zdF at h
 split at h
 ·rename_i a b
  simp only[za,zb]at h
  obtain⟨rfl,rfl⟩:=h
  obtain⟨hq,hcv,_⟩:zgj a b:=(zo.1 hp).1
  exact zf6 _ _ _ rfl (zo.2 ⟨⟨hq,(Jb.1 hcv).w⟩,fun q hq=>by cases hq⟩)
 ·cases h
end Go.Ax
namespace Go.Ax
open Go.Proofs
def CvO(A B:List V):Prop:=∃bs ms:List (List Int),A=BB false bs∧B=II true ms∧CvW bs ms
theorem zBQ{P S Q:List Int}(h:ClP P S Q){x:Int}(h0:0≤x)(h1:x<P.length)(hok:okX P S x=true):qK (zfv P S x)=true:=by
 have hl:=KN h (show-1≤x by omega) h1
 have hcl:(Kj P S x).length≤30:=by rw[Kj,zeP];omega
 obtain⟨⟨n,l,hs⟩,_⟩:=zmb hcl hok 0
 rw[List.replicate_zero,yh]at hs
 rw[zfv,ziP,zhO hs]
 exact zsF.2 hs.1
theorem zBG{a b c:List V}(h:(ZJ a b c).2.2=0):CvO (ZJ a b c).1 (ZJ a b c).2.1:=by
 simp only[ZJ,zbl]at h ⊢
 cases hh:ku a b c with
 |false=>rw[hh]at h;cases h
 |true=>
  rw[hh]at h
  cases h2:za6 a b c with
  |false=>rw[h2]at h;cases h
  |true=>
   rw[h2]at h
   have hc:ClP (yV a) (yV b) (yV c):=zc6.1 hh
   have hal:a.length=(yV a).length:=by rw[yV,zy]
   have hfo:=zo5 hc
   rw[hal]at h ⊢
   obtain⟨ps,hps⟩:∃ps,ps=zbv (KB (YO (yV a) (yV b) (yV c)) (yV a).length):=⟨_,rfl⟩
   simp only[cond_true,←hps,zmJ]at h ⊢
   by_cases hn:ps.length=0∨6<ps.length
   ·rw[if_pos hn]at h;cases h
   ·rw[if_neg hn]at h
    rw[if_neg hn]
    cases ha:ps.all (okX (yV a) (yV b))with
    |false=>rw[ha]at h;cases h
    |true=>
     rw[zZ]at ha
     have hpi:∀i,i<ps.length→0≤ps.getD i 0∧ps.getD i 0<(yV a).length:=fun i hi=>by
      rw[zd,ze hi]
      exact zkN hfo _ (by rw[←hps];exact ye hi)
     refine⟨ps.map (zfv (yV a) (yV b)),T2 ps.length (com (yV a) ps),by simp only[cond_true];rw[jh],rfl,⟨by rw[zy];omega,by rw[zy];omega,by rw[zy,T2,yA],fun i hi=>?_,fun i k hi hk=>?_,fun i hi=>?_⟩⟩
     ·rw[zy]at hi ⊢
      rw[T2,uA _ _ _ _ hi,yA]
     ·rw[zy]at hi hk
      rw[mm,ztQ _ hi hk,com]
      split
      ·omega
      ·have h3:=zxK (yH (yV a) (ps.getD i 0)) (yH (yV a) (ps.getD k 0))
       have h4:=KN hc (show-1≤ps.getD i 0 by have:=(hpi i hi).1;omega) (hpi i hi).2
       omega
     ·rw[zy]at hi
      rw[zd,zJ,ze hi]
      have hm:=ye hi
      have:=zkN hfo _ (by rw[←hps];exact hm)
      exact zBQ hc this.1 this.2 (ha _ hm)
theorem zDD{es:List V}{P S:List Int}{σ:Int×Int}{r:List V×List V}(h:(dwU es P S σ).1=some r):CvO r.1 r.2:=by
 unfold dwU at h
 simp only at h
 split at h
 ·split at h
  ·rename_i h2
   simp only[za]at h
   subst h
   exact zBG h2.2
  ·cases h
 ·cases h
theorem zDE{es:List V}{σ:Int×Int}(h:yg es σ.1 σ.2):CvO (dwE es σ).1 (dwE es σ).2.1:=by
 have h1:=(zhe (most:=8) (term:=40) ⟨h,by omega,by omega⟩).1
 have h2:=jd (n:=2) h1
 have hb:=zn5 (smF es σ.1 σ.2 8 40).1
 have hn:=zaY (n:=3) h2 (by omega)
 have hl:=zuR hb
 unfold dwE
 simp only
 obtain⟨b,hbb⟩:∃b,b=dwB (smF es σ.1 σ.2 8 40).1:=⟨_,rfl⟩
 rw[←hbb]at hb hl ⊢
 split
 ·refine⟨_,_,rfl,rfl,⟨by simp,by simp,rfl,fun i hi=>?_,fun i k hi hk=>?_,fun i hi=>?_⟩⟩
  ·simp only[zi,zq]at hi
   obtain rfl:i=0:=by omega
   rfl
  ·simp only[zi,zq]at hi hk
   obtain rfl:i=0:=by omega
   obtain rfl:k=0:=by omega
   exact⟨by decide,by decide⟩
  ·simp only[zi,zq]at hi
   obtain rfl:i=0:=by omega
   exact hb.is
 ·obtain⟨w,hw⟩:∃w,w=W ((sq1 b).length+jl es (yB es (smF es σ.1 σ.2 8 40).2 2) 3):=⟨_,rfl⟩
  have hw2:0≤w∧w≤1000000:=by
   rw[hw,show W ((sq1 b).length+jl es (yB es (smF es σ.1 σ.2 8 40).2 2) 3)=_ from zl (by omega) (by omega)]
   omega
  rw[←hw]
  refine⟨_,_,rfl,rfl,⟨by simp,by simp,rfl,fun i hi=>?_,fun i k hi hk=>?_,fun i hi=>?_⟩⟩
  ·simp only[zi,zq]at hi
   rcases (show i=0∨i=1 by omega)with rfl|rfl<;>rfl
  ·simp only[zi,zq]at hi hk
   rcases (show i=0∨i=1 by omega)with rfl|rfl<;>rcases (show k=0∨k=1 by omega)with rfl|rfl
   ·exact(show(0:Int)≤0∧(0:Int)≤1000000 by decide)
   ·exact hw2
   ·exact hw2
   ·exact(show(0:Int)≤0∧(0:Int)≤1000000 by decide)
  ·simp only[zi,zq]at hi
   rcases (show i=0∨i=1 by omega)with rfl|rfl
   ·exact hb.is
   ·exact hb.is
theorem zAU{es:List V}:∀(k:Nat) {σ:Int×Int},yg es σ.1 σ.2→CvO (dwN es k σ).1 (dwN es k σ).2.1
 |0,σ,h=>zDE h
 |k+1,σ,h=>by
  have h1:=zvv h
  rw[dwN]
  split
  ·rename_i r hr
   exact zDD hr
  ·exact zAU k h1
theorem zvq{es:List V}{a h:Int}(hq:yg es a h):CvO (Yl es a h).1 (Yl es a h).2.1:=zAU 4 (σ:=(a,h)) hq
end Go.Ax
namespace Go.Ax
def lcg(x:Nat):Nat:=(x*6364136223846793005+1442695040888963407)%18446744073709551616
def KH(f:Nat→Nat):Nat→Nat→Nat
 |0,x=>x
 |k+1,x=>KH f k (f x)
theorem zqA(f:Nat→Nat):∀(j k x:Nat),KH f (j+k) x=KH f k (KH f j x)
 |0,k,x=>by rw[Nat.zero_add];rfl
 |j+1,k,x=>by rw[show j+1+k=(j+k)+1 by omega];exact zqA f j k (f x)
theorem zw2(f:Nat→Nat)(x:Nat):KH f 0 x=x:=rfl
theorem zyi(f:Nat→Nat)(x:Nat):KH f 1 x=f x:=rfl
theorem zqz(f:Nat→Nat)(x:Nat):KH f 2 x=f (f x):=rfl
def ji:Nat→Nat→Nat:=KH lcg
theorem Yx(j k x:Nat):ji (j+k) x=ji k (ji j x):=zqA lcg j k x
theorem zdQ(x:Nat):ji 0 x=x:=zw2 lcg x
theorem zkI{m r:Nat}(hr:r<268435456):(268435456*m+r)%18446744073709551616/268435456%536870912=m%536870912∧(268435456*m+r)%18446744073709551616%134217728=r%134217728:=by omega
def zD3:List (Nat×Nat):=[(6364136223846793005,1442695040888963407),(7520897724310334953,1876011003808476466),(18108194425815612945,7401132627792533940),(13086856194709077281,6566661184467396264),(10186629832379121217,3646985772805368400),(10828933358287359105,982119659650238624),(4910590176156014849,10607473198416945472),(9908147928152388097,6914523672464851584),(146241703003251713,4689171378020353280),(7321387688379467777,8103286608563669504),(12255457568021647361,7710372194127975424),(9867978473775767553,16043993925053589504),(5088048636545613825,1993901509916512256),(2150478223927705601,13175896319671181312),(9196835419631190017,1993366741509554176),(5957860013156466689,7241871532530761728),(10389140232424652801,9829074100562493440),(13023643825678581761,7211655632440131584),(288945459443007489,14014807304630960128),(13413133364217511937,15586959662575517696),(8991946233350193153,5614651135149211648),(1986842707489718273,10449321915693662208),(13772462672974970881,17778722412968280064),(11399802156803424257,4631015078550831104),(13559343778149433345,14683519683525607424),(8604389488178757633,14159509325327892480),(16938562998715285505,4382386631181598720),(14349518013152100353,5251965553014210560),(5928836310318972929,14899444342342025216)]
def jmp(b:Nat):Nat×Nat:=zD3.getD b (0,0)
theorem zCM:∀b,b<28→(jmp (b+1)).1=(jmp b).1*(jmp b).1%18446744073709551616∧(jmp (b+1)).2=(jmp b).2*((jmp b).1+1)%18446744073709551616:=by decide+kernel
theorem zB1(x A C M:Nat):((x*A+C)%M*A+C)%M=(x*(A*A%M)+C*(A+1)%M)%M:=by
 have h1:((x*A+C)%M*A+C)%M=((x*A+C)*A+C)%M:=by
  rw[Jj,Jg,zg7,←Jg,←Jj]
 have h2:(x*(A*A%M)+C*(A+1)%M)%M=(x*(A*A)+C*(A+1))%M:=by
  rw[Jj,Jg,zg7,zg7,←Jg,←Jj]
 rw[h1,h2]
 congr 1
 rw[Nat.add_mul,Nat.mul_assoc,Nat.mul_add,Jf,kt]
theorem zc3:∀(b x:Nat),b≤28→ji (2^b) x=(x*(jmp b).1+(jmp b).2)%18446744073709551616
 |0,x,_=>zyi lcg x
 |b+1,x,h=>by
  obtain⟨e1,e2⟩:=zCM b (by omega)
  rw[zcD,Nat.mul_two,Yx,zc3 b x (by omega),zc3 b _ (by omega),e1,e2,zB1]
theorem zBv:∀b,b<27→(jmp b).1%2^(b+1)=1%2^(b+1)∧(jmp b).2%2^(b+1)=2^b∧18446744073709551616%2^(b+1)=0:=by decide+kernel
theorem zzM{b:Nat}(hb:b<27)(x:Nat):ji (2^b) x%2^(b+1)=(x+2^b)%2^(b+1):=by
 obtain⟨h1,h2,h3⟩:=zBv b hb
 rw[zc3 b x (by omega),Nat.mod_mod_of_dvd _ (Ji h3),Jj,Jg,h1,h2,←Jg,Jf]
 conv=>rhs;rw[Jj]
 congr 2
 exact(ug (Nat.pow_lt_pow_right (by omega) (by omega))).symm
theorem zjL(x l:Nat)(hxl:x%2=l%2):∀b,1≤b→b≤27→∃j,j%2=0∧j≤2^b∧ji j x%2^b=l%2^b
 |0,h,_=>by omega
 |1,_,_=>⟨0,rfl,by omega,by rw[zdQ];exact hxl⟩
 |b+2,_,h2=>by
  obtain⟨j,j1,j2,j3⟩:=zjL x l hxl (b+1) (by omega) (by omega)
  have hst:=zzM (b:=b+1) (by omega) (ji j x)
  have hP2:2^(b+2)=2^(b+1)*2:=zcD ..
  have hPe:2^(b+1)%2=0:=by rw[zcD];omega
  have hPp:0<2^(b+1):=Nat.pow_pos (by omega)
  generalize hy:ji j x=y at j3 hst
  rw[hP2]at hst ⊢
  by_cases hd:y/2^(b+1)%2=l/2^(b+1)%2
  ·refine⟨j,j1,by omega,?_⟩
   rw[zg6,zg6,hy,j3,hd]
  ·refine⟨j+2^(b+1),by omega,by omega,?_⟩
   rw[Yx,hy,hst,zg6,zg6,Nat.add_mod_right,j3,Nat.add_div_right _ hPp]
   congr 2
   omega
theorem zkU(y:Nat):lcg y%134217728=(y%134217728*6364136223846793005+1442695040888963407)%134217728:=by
 rw[lcg,Nat.mod_mod_of_dvd _ (Ji (by decide)),Jj,Jg]
 conv=>rhs;rw[Jj,Jg,zg7]
def vv(x:Nat):Nat:=x/8589934592%16777216
def VV(x:Nat):Nat:=x/268435456%536870912
theorem zAY(x:Nat):VV x<536870912:=kY _ (by omega)
theorem zq7(x:Nat):vv x=VV x/32:=by
 rw[vv,VV,show 8589934592=268435456*32 by decide,←Nat.div_div_eq_div_mul]
 generalize x/268435456=y
 omega
theorem zrj:jmp 28=(5928836310318972929,14899444342342025216):=by decide+kernel
theorem sjG(V:Nat→Nat)(G:Nat→Nat→Nat)(N M:Nat)(hV:∀y,V y<N)(hz:∀y,G 0 y=y)(hadd:∀a b y,G (a+b) y=G b (G a y))(J l d e:Nat)(ha:∀y,y%M=l→V (G J y)=(V y+d)%N∧G J y%M=l)(hb:∀y,y%M=l→V (G J (G 2 y))=(V (G 2 y)+e)%N){x:Nat}(h:x%M=l):∀j:Nat,G (j*J) x%M=l∧V (G (j*J) x)=(V x+j*d)%N∧V (G (j*J+2) x)=(V (G 2 x)+j*e)%N
 |0=>by
  simp only[Nat.zero_mul,Nat.zero_add,Nat.add_zero]
  rw[hz]
  exact⟨h,(ug (hV x)).symm,(ug (hV _)).symm⟩
 |j+1=>by
  obtain⟨i1,i2,i3⟩:=sjG V G N M hV hz hadd J l d e ha hb h j
  obtain⟨k1,k2⟩:=ha _ i1
  have m1:=hb _ i1
  rw[←hadd (j*J) 2 x]at m1
  have e1:G ((j+1)*J) x=G J (G (j*J) x):=by rw[zkn,hadd]
  have e2:G ((j+1)*J+2) x=G J (G (j*J+2) x):=by rw[zkn,kt,Nat.add_comm J 2,←kt,hadd]
  have e3:∀a b:Nat,((a+j*b)%N+b)%N=(a+(j+1)*b)%N:=fun a b=>by rw[Nat.mod_add_mod,kt,←zkn]
  rw[e1,e2]
  exact⟨k2,by rw[k1,i2,e3],by rw[m1,i3,e3]⟩
theorem zDX{x:Nat}(h:x%134217728=664):VV (ji 268435456 x)=(VV x+30910053)%536870912∧ji 268435456 x%134217728=664:=by
 have e:=zc3 28 x (zn _)
 rw[show(2:Nat)^28=268435456 by decide,zrj]at e
 obtain⟨q,hq⟩:∃q,x=134217728*q+664:=⟨x/134217728,by omega⟩
 obtain⟨s,r,hs,hr⟩:∃s r,x=268435456*s+r∧r<268435456:=⟨x/268435456,x%268435456,by omega,by omega⟩
 obtain⟨m,hm⟩:∃m,m=s+22086636388*x+55504755461:=⟨_,rfl⟩
 have h1:x*5928836310318972929+14899444342342025216=268435456*m+r:=by rw[hm];omega
 have h2:ji 268435456 x=(268435456*m+r)%18446744073709551616:=by rw[e,←h1]
 have h3:x/268435456=s:=by omega
 have h4:m%536870912=(s%536870912+30910053)%536870912:=by rw[hm,hq];omega
 rw[h2,VV,VV,h3]
 obtain⟨k1,k2⟩:=zkI (m:=m) hr
 rw[k1,k2]
 exact⟨h4,by omega⟩
theorem zDW{x:Nat}(h:x%134217728=23429514):VV (ji 268435456 x)=(VV x+2339565)%536870912∧ji 268435456 x%134217728=23429514:=by
 have e:=zc3 28 x (zn _)
 rw[show(2:Nat)^28=268435456 by decide,zrj]at e
 obtain⟨q,hq⟩:∃q,x=134217728*q+23429514:=⟨x/134217728,by omega⟩
 obtain⟨s,r,hs,hr⟩:∃s r,x=268435456*s+r∧r<268435456:=⟨x/268435456,x%268435456,by omega,by omega⟩
 obtain⟨m,hm⟩:∃m,m=s+22086636388*x+55504755461:=⟨_,rfl⟩
 have h1:x*5928836310318972929+14899444342342025216=268435456*m+r:=by rw[hm];omega
 have h2:ji 268435456 x=(268435456*m+r)%18446744073709551616:=by rw[e,←h1]
 have h3:x/268435456=s:=by omega
 have h4:m%536870912=(s%536870912+2339565)%536870912:=by rw[hm,hq];omega
 rw[h2,VV,VV,h3]
 obtain⟨k1,k2⟩:=zkI (m:=m) hr
 rw[k1,k2]
 exact⟨h4,by omega⟩
theorem zDR{x:Nat}(h:x%134217728=664):ji 2 x%134217728=23429514:=by
 rw[ji,zqz,zkU,zkU,h]
theorem zEa:((List.range 96).all fun a=>(List.range 96).all fun b=>(List.range 4).any fun j=> !((a+j*69)%96/32==0)&& !((b+j*45)%96/32==0))=true:=by decide+kernel
theorem zD2{y z:Nat}:∃j,j<4∧(y+j*30910053)/32%3≠0∧(z+j*2339565)/32%3≠0:=by
 have h:=zZ.1 (zZ.1 zEa (y%96) (yX.2 (kY _ (by omega)))) (z%96) (yX.2 (kY _ (by omega)))
 obtain⟨j,j1,j2⟩:=List.any_eq_true.1 h
 rw[yX]at j1
 rw[Bool.and_eq_true,yG,yG,beq_eq_false_iff_ne,beq_eq_false_iff_ne]at j2
 refine⟨j,j1,?_⟩
 rcases (by omega:j=0∨j=1∨j=2∨j=3)with rfl|rfl|rfl|rfl<;>exact⟨by have:=j2.1;omega,by have:=j2.2;omega⟩
theorem zDt{v w:Nat}:∃j,j<12∧(v+j*30910053)%536870912/32%3≠0∧(w+j*2339565)%536870912/32%3≠0:=by
 have grp:∀b:Nat,(v+b*30910053)%536870912+3*30910053<536870912→(w+b*2339565)%536870912+3*2339565<536870912→b≤8→∃j,j<12∧(v+j*30910053)%536870912/32%3≠0∧(w+j*2339565)%536870912/32%3≠0:=fun b hb1 hb2 hb=>by
  obtain⟨j,j1,j2,j3⟩:=zD2 (y:=(v+b*30910053)%536870912) (z:=(w+b*2339565)%536870912)
  refine⟨b+j,by omega,?_,?_⟩
  ·rw[show(v+(b+j)*30910053)%536870912=(v+b*30910053)%536870912+j*30910053 by omega]
   exact j2
  ·rw[show(w+(b+j)*2339565)%536870912=(w+b*2339565)%536870912+j*2339565 by omega]
   exact j3
 by_cases g0:(v+0*30910053)%536870912+3*30910053<536870912∧(w+0*2339565)%536870912+3*2339565<536870912
 ·exact grp 0 g0.1 g0.2 (by omega)
 ·by_cases g3:(v+4*30910053)%536870912+3*30910053<536870912∧(w+4*2339565)%536870912+3*2339565<536870912
  ·exact grp 4 g3.1 g3.2 (by omega)
  ·exact grp 8 (by omega) (by omega) (by omega)
theorem sj0{x:Nat}(h:x%134217728=664)(j:Nat):VV (ji (j*268435456) x)=(VV x+j*30910053)%536870912∧VV (ji (j*268435456+2) x)=(VV (ji 2 x)+j*2339565)%536870912:=
 (sjG VV ji 536870912 134217728 zAY zdQ Yx 268435456 664 30910053 2339565 (fun y hy=>zDX hy) (fun y hy=>(zDW (zDR hy)).1) h j).2
theorem zDV{x:Nat}(h:x%134217728=10817):VV (ji 268435456 x)=(VV x+38924137)%536870912∧ji 268435456 x%134217728=10817:=by
 have e:=zc3 28 x (zn _)
 rw[show(2:Nat)^28=268435456 by decide,zrj]at e
 obtain⟨q,hq⟩:∃q,x=134217728*q+10817:=⟨x/134217728,by omega⟩
 obtain⟨s,r,hs,hr⟩:∃s r,x=268435456*s+r∧r<268435456:=⟨x/268435456,x%268435456,by omega,by omega⟩
 obtain⟨m,hm⟩:∃m,m=s+22086636388*x+55504755461:=⟨_,rfl⟩
 have h1:x*5928836310318972929+14899444342342025216=268435456*m+r:=by rw[hm];omega
 have h2:ji 268435456 x=(268435456*m+r)%18446744073709551616:=by rw[e,←h1]
 have h3:x/268435456=s:=by omega
 have h4:m%536870912=(s%536870912+38924137)%536870912:=by rw[hm,hq];omega
 rw[h2,VV,VV,h3]
 obtain⟨k1,k2⟩:=zkI (m:=m) hr
 rw[k1,k2]
 exact⟨h4,by omega⟩
theorem zDU{x:Nat}(h:x%134217728=79548251):VV (ji 268435456 x)=(VV x+252817)%536870912∧ji 268435456 x%134217728=79548251:=by
 have e:=zc3 28 x (zn _)
 rw[show(2:Nat)^28=268435456 by decide,zrj]at e
 obtain⟨q,hq⟩:∃q,x=134217728*q+79548251:=⟨x/134217728,by omega⟩
 obtain⟨s,r,hs,hr⟩:∃s r,x=268435456*s+r∧r<268435456:=⟨x/268435456,x%268435456,by omega,by omega⟩
 obtain⟨m,hm⟩:∃m,m=s+22086636388*x+55504755461:=⟨_,rfl⟩
 have h1:x*5928836310318972929+14899444342342025216=268435456*m+r:=by rw[hm];omega
 have h2:ji 268435456 x=(268435456*m+r)%18446744073709551616:=by rw[e,←h1]
 have h3:x/268435456=s:=by omega
 have h4:m%536870912=(s%536870912+252817)%536870912:=by rw[hm,hq];omega
 rw[h2,VV,VV,h3]
 obtain⟨k1,k2⟩:=zkI (m:=m) hr
 rw[k1,k2]
 exact⟨h4,by omega⟩
theorem zDQ{x:Nat}(h:x%134217728=10817):ji 2 x%134217728=79548251:=by
 rw[ji,zqz,zkU,zkU,h]
theorem zD9:((List.range 96).all fun a=>(List.range 96).all fun b=>(List.range 4).any fun j=> !((a+j*73)%96/32==0)&& !((b+j*49)%96/32==0))=true:=by decide+kernel
theorem zD1{y z:Nat}:∃j,j<4∧(y+j*38924137)/32%3≠0∧(z+j*252817)/32%3≠0:=by
 have h:=zZ.1 (zZ.1 zD9 (y%96) (yX.2 (kY _ (by omega)))) (z%96) (yX.2 (kY _ (by omega)))
 obtain⟨j,j1,j2⟩:=List.any_eq_true.1 h
 rw[yX]at j1
 rw[Bool.and_eq_true,yG,yG,beq_eq_false_iff_ne,beq_eq_false_iff_ne]at j2
 refine⟨j,j1,?_⟩
 rcases (by omega:j=0∨j=1∨j=2∨j=3)with rfl|rfl|rfl|rfl<;>exact⟨by have:=j2.1;omega,by have:=j2.2;omega⟩
theorem zDs{v w:Nat}:∃j,j<12∧(v+j*38924137)%536870912/32%3≠0∧(w+j*252817)%536870912/32%3≠0:=by
 have grp:∀b:Nat,(v+b*38924137)%536870912+3*38924137<536870912→(w+b*252817)%536870912+3*252817<536870912→b≤8→∃j,j<12∧(v+j*38924137)%536870912/32%3≠0∧(w+j*252817)%536870912/32%3≠0:=fun b hb1 hb2 hb=>by
  obtain⟨j,j1,j2,j3⟩:=zD1 (y:=(v+b*38924137)%536870912) (z:=(w+b*252817)%536870912)
  refine⟨b+j,by omega,?_,?_⟩
  ·rw[show(v+(b+j)*38924137)%536870912=(v+b*38924137)%536870912+j*38924137 by omega]
   exact j2
  ·rw[show(w+(b+j)*252817)%536870912=(w+b*252817)%536870912+j*252817 by omega]
   exact j3
 by_cases g0:(v+0*38924137)%536870912+3*38924137<536870912∧(w+0*252817)%536870912+3*252817<536870912
 ·exact grp 0 g0.1 g0.2 (by omega)
 ·by_cases g3:(v+4*38924137)%536870912+3*38924137<536870912∧(w+4*252817)%536870912+3*252817<536870912
  ·exact grp 4 g3.1 g3.2 (by omega)
  ·exact grp 8 (by omega) (by omega) (by omega)
theorem sj1{x:Nat}(h:x%134217728=10817)(j:Nat):VV (ji (j*268435456) x)=(VV x+j*38924137)%536870912∧VV (ji (j*268435456+2) x)=(VV (ji 2 x)+j*252817)%536870912:=
 (sjG VV ji 536870912 134217728 zAY zdQ Yx 268435456 10817 38924137 252817 (fun y hy=>zDV hy) (fun y hy=>(zDU (zDQ hy)).1) h j).2
theorem zBr(x:Nat):∃q,q%2=0∧q≤3100000000∧vv (ji q x)%3≠0∧vv (ji (q+2) x)%3≠0:=by
 rcases Nat.mod_two_eq_zero_or_one x with h|h
 ·obtain⟨j,j1,j2,j3⟩:=zjL x 664 h 27 (by omega) (by omega)
  rw[show(2:Nat)^27=134217728 by decide]at j2 j3
  obtain⟨t,t1,t2,t3⟩:=zDt (v:=VV (ji j x)) (w:=VV (ji 2 (ji j x)))
  obtain⟨s1,s2⟩:=sj0 j3 t
  refine⟨j+t*268435456,by omega,by omega,?_,?_⟩
  ·rw[Yx,zq7,s1];exact t2
  ·rw[kt,Yx,zq7,s2];exact t3
 ·obtain⟨j,j1,j2,j3⟩:=zjL x 10817 h 27 (by omega) (by omega)
  rw[show(2:Nat)^27=134217728 by decide]at j2 j3
  obtain⟨t,t1,t2,t3⟩:=zDs (v:=VV (ji j x)) (w:=VV (ji 2 (ji j x)))
  obtain⟨s1,s2⟩:=sj1 j3 t
  refine⟨j+t*268435456,by omega,by omega,?_,?_⟩
  ·rw[Yx,zq7,s1];exact t2
  ·rw[kt,Yx,zq7,s2];exact t3
end Go.Ax
namespace Go.Ax
open Go.Proofs
def hN(h:Int):Nat:=(h%18446744073709551616).toNat
theorem zl3(n:Int):IntKind.wrap .u64 n=n%18446744073709551616:=by
 simp[IntKind.wrap,IntKind.bits,IntKind.signed]
theorem zu7(h:Int):nxH h=(lcg (hN h):Int):=by
 rw[nxH,zl3,zl3,hN,lcg]
 obtain⟨x,hx⟩:∃x:Nat,(x:Int)=h%18446744073709551616:=⟨(h%18446744073709551616).toNat,by omega⟩
 rw[←hx,zV]
 have:h*6364136223846793005%18446744073709551616=(x:Int)*6364136223846793005%18446744073709551616:=by rw[hx];omega
 rw[this]
 omega
theorem zye(x:Nat):lcg x<18446744073709551616:=kY _ (by omega)
theorem zCR(h:Int):hN (nxH h)=lcg (hN h):=by
 have:=zye (hN h)
 rw[zu7,hN]
 omega
theorem zCH(h:Int):nxX h=(vv (lcg (hN h)):Int):=by
 have h1:=zqU (zaW .u64 (nxH h) 33)
 rw[nxX,IntWalk.i64_in _ ⟨by omega,by omega⟩,zu7]
 have hlt:=zye (hN h)
 generalize lcg (hN h)=x at hlt
 have hs:zaW .u64 (x:Int) 33=((x/8589934592:Nat):Int):=by
  rw[zaW,show(2:Int)^min (33:Int).toNat IntKind.u64.bits=8589934592 by decide,Int.fdiv_eq_ediv_of_nonneg _ (by omega)]
  omega
 rw[hs,za7,zl3,BitVec.toNat_and,BitVec.toNat_ofInt,BitVec.toNat_ofInt,vv]
 have e1:(((x/8589934592:Nat):Int)%((2^IntKind.u64.bits:Nat):Int)).toNat=x/8589934592:=by
  rw[show((2^IntKind.u64.bits:Nat):Int)=18446744073709551616 by decide]
  omega
 have e2:((16777215:Int)%((2^IntKind.u64.bits:Nat):Int)).toNat=2^24-1:=by decide
 rw[e1,e2,Nat.and_two_pow_sub_one_eq_mod]
 omega
theorem zu5{es:List V}{a h n:Int}(ha:¬a<es.length)(hn:1≤n):jp es a h n=((vv (lcg (hN h)):Nat):Int)%n∧jo es a h n=a∧jD es a h n=nxH h:=by
 have hn1:¬n<1:=by omega
 rw[jp,jo,jD,if_neg hn1,if_neg hn1,if_neg hn1,if_neg ha,if_neg ha,zCH,kL (by omega)]
 exact⟨rfl,rfl,rfl⟩
def sgD:List By:=[[48],[49],[50],[51],[53],[57],[45],[43],[47],[40],[41],[91],[93],[44],[59],[58],[32],[97],[102],[115],[120],[10]]
theorem zuT:∀i,(sgD.getD i []).length≤1:=fun i=>by
 by_cases h:i<22
 ·exact(show ∀i,i<22→(sgD.getD i []).length≤1 by decide) i h
 ·rw[zd,zG (show sgD.length≤i by show 22≤i;omega)]
  exact Nat.zero_le _
def KX(es:List V)(σ:Int×Int)(t:By):By×Int×Int:=
 if t.length=0 then(sgD.getD (jl es σ 22).toNat [],yB es σ 22)
 else
  let τ:=yB es (yB es σ 22) t.length
  let k:=(jl es (yB es σ 22) t.length).toNat
  (if jl es τ 3=0 then t.take k++sgD.getD (jl es σ 22).toNat []++t.drop (k+1)else if jl es τ 3=1 then t.take k++t.drop (k+1)else t.take k++sgD.getD (jl es σ 22).toNat []++t.drop k,yB es τ 3)
def zgu(es:List V)(a h:Int)(t:ByteArray):ByteArray×Int×Int:=(T (KX es (a,h) t.data.toList).1,(KX es (a,h) t.data.toList).2)
def zwF(es:List V)(a h:Int)(t:ByteArray):Prop:=yg es a h∧t.size≤2000000000
def zsL(f:List V→Int→Int→ByteArray→ByteArray×Int×Int)(q:List V→Int→Int→ByteArray→Prop):kF:=fun
 |[.box 61 (.agg [.slc false 5 (.int .u8 0) a0,.int .i64 a1,.int .u64 a2]),.str a3]=>some ([q a0 a1 a2 a3],.str (f a0 a1 a2 a3).1,.box 61 (.agg [.slc false 5 (.int .u8 0) a0,.int .i64 (f a0 a1 a2 a3).2.1,.int .u64 (f a0 a1 a2 a3).2.2]))
 |_=>none
theorem zmi:zfF Tryz.prog 27 1000 (zsL zgu zwF):=by
 intro args ps r y h hp
 unfold zsL at h
 split at h
 ·rename_i a0 a1 a2 t
  simp only[za,zb]at h
  obtain⟨rfl,rfl,rfl⟩:=h
  obtain⟨hq,hts⟩:zwF a0 a1 a2 t:=(zo.1 hp).1
  obtain⟨l,hl⟩:∃l,l=t.data.toList:=⟨_,rfl⟩
  have htl:t=T l:=by rw[hl];exact zg5 t
  have hsz:t.size=l.length:=by rw[htl,qy]
  generalize yU:jp=jL
  generalize yT:jo=jK
  generalize yS:jD=jJ
  generalize qV:zgV=Zc
  refine zhy (T:=tab) (B:=[]) (Bi:=[(26,0,false,zcp jL jK jJ Zc)]) 0 [0,1,4,5,6,7,25] Tryz.func27 rfl rfl (by kernel_rfl) (zh rfl) mixed yd (by subst yU yT yS qV;exact zH) (by subst yU yT yS qV;exact(qX uj zE)) (by kernel_rfl) rfl rfl zb9 rfl ?_
  intro L lp rr yy hL hr hy hf hlp
  conv=>cbv
  subst yU yT yS qV
  obtain⟨sg,hsg⟩:∃sg:List V,sg=Zs sgD:=⟨_,rfl⟩
  have hsl:sg.length=22:=by rw[hsg];rfl
  have hsgd:∀k,sg.getD k (.str ⟨⟨[]⟩⟩)=.str (T (sgD.getD k [])):=fun k=>by rw[hsg];exact zb0 _ _
  simp only[zr hL,sQ,zci,zau,hsz]
  rw[show([V.str ⟨⟨[48]⟩⟩,V.str ⟨⟨[49]⟩⟩,V.str ⟨⟨[50]⟩⟩,V.str ⟨⟨[51]⟩⟩,V.str ⟨⟨[53]⟩⟩,V.str ⟨⟨[57]⟩⟩,V.str ⟨⟨[45]⟩⟩,V.str ⟨⟨[43]⟩⟩,V.str ⟨⟨[47]⟩⟩,V.str ⟨⟨[40]⟩⟩,V.str ⟨⟨[41]⟩⟩,V.str ⟨⟨[91]⟩⟩,V.str ⟨⟨[93]⟩⟩,V.str ⟨⟨[44]⟩⟩,V.str ⟨⟨[59]⟩⟩,V.str ⟨⟨[58]⟩⟩,V.str ⟨⟨[32]⟩⟩,V.str ⟨⟨[97]⟩⟩,V.str ⟨⟨[102]⟩⟩,V.str ⟨⟨[115]⟩⟩,V.str ⟨⟨[120]⟩⟩,V.str ⟨⟨[10]⟩⟩]:List V)=sg from by rw[hsg];rfl]
  simp only[hsl,hsgd,zci,zau,show((22:Nat):Int)=22 from rfl]
  obtain⟨h1,h2,h3⟩:=id hq
  obtain⟨v0,hv0⟩:∃v,v=jp a0 a1 a2 22:=⟨_,rfl⟩
  obtain⟨A1,hA1⟩:∃v,v=jo a0 a1 a2 22:=⟨_,rfl⟩
  obtain⟨H1,hH1⟩:∃v,v=jD a0 a1 a2 22:=⟨_,rfl⟩
  have b0:=YA (n:=22) hq (by omega)
  have s1:yg a0 A1 H1:=by rw[hA1,hH1];exact kX hq
  rw[←hv0]at b0
  obtain⟨c,hc⟩:∃c,c=sgD.getD v0.toNat []:=⟨_,rfl⟩
  have hcl:c.length≤1:=by rw[hc];exact zuT _
  simp only[←hv0,←hA1,←hH1,←hc]
  obtain⟨k,hk⟩:∃v,v=jp a0 A1 H1 l.length:=⟨_,rfl⟩
  obtain⟨A2,hA2⟩:∃v,v=jo a0 A1 H1 l.length:=⟨_,rfl⟩
  obtain⟨H2,hH2⟩:∃v,v=jD a0 A1 H1 l.length:=⟨_,rfl⟩
  have s2:yg a0 A2 H2:=by rw[hA2,hH2];exact kX s1
  simp only[←hk,←hA2,←hH2]
  obtain⟨w,hw⟩:∃v,v=jp a0 A2 H2 3:=⟨_,rfl⟩
  obtain⟨A3,hA3⟩:∃v,v=jo a0 A2 H2 3:=⟨_,rfl⟩
  obtain⟨H3,hH3⟩:∃v,v=jD a0 A2 H2 3:=⟨_,rfl⟩
  simp only[←hw,←hA3,←hH3]
  have hD1:l.length=0→zgu a0 a1 a2 t=(T c,A1,H1):=fun h=>by
   rw[zgu,←hl,KX,if_pos h,hc,hv0,hA1,hH1]
  have hD2:¬l.length=0→zgu a0 a1 a2 t=(T (if w=0 then l.take k.toNat++c++l.drop (k.toNat+1)else if w=1 then l.take k.toNat++l.drop (k.toNat+1)else l.take k.toNat++c++l.drop k.toNat),A3,H3):=fun h=>by
   rw[zgu,←hl,KX,if_neg h,hc,hv0,hw,hA3,hH3,hk,hA2,hH2,hA1,hH1]
  have bk:¬l.length=0→0≤k∧k<l.length:=fun h=>by rw[hk];exact YA s1 (by omega)
  have x1:t.extract 0 k.toNat=T (l.take k.toNat):=by rw[htl,zgG,List.drop_zero]
  have x2:∀j:Nat,t.extract j l.length=T (l.drop j):=fun j=>by rw[htl,zgG,List.take_length]
  have ll:(l.length:Int)≤2000000000:=by have h5:t.size≤2000000000:=hts;omega
  have hw1:¬l.length=0→IntKind.wrap .i64 (k+1)=k+1∧(k+1).toNat=k.toNat+1:=fun h=>by
   have:=bk h
   exact⟨zl (by omega) (by omega),by omega⟩
  simp only[x1,zV]
  refine⟨hq,b0.1,b0.2,by omega,trivial,fun h=>?_,fun h=>?_⟩
  ·rw[hr,hy,hD1 (by omega)]
   exact⟨rfl,rfl⟩
  ·have hl0:¬l.length=0:=by omega
   obtain⟨k0,k1⟩:=bk hl0
   obtain⟨w1,w2⟩:=hw1 hl0
   have lt:=List.length_take_le k.toNat l
   have ld:=zP (i:=k.toNat+1) (l:=l)
   have ld2:=zP (i:=k.toNat) (l:=l)
   rw[w1,w2,x2,x2]
   simp only[Ju,qy,zk]
   refine⟨s1,s2,fun h4=>?_,fun h4=>⟨fun h5=>?_,fun h5=>?_⟩⟩
   ·refine⟨by omega,k0,by omega,by omega,by omega,by omega,yN _,by omega,?_⟩
    rw[hr,hy,hD2 hl0,if_pos h4]
    exact⟨rfl,rfl⟩
   ·refine⟨by omega,k0,by omega,by omega,by omega,yN _,by omega,?_⟩
    rw[hr,hy,hD2 hl0,if_neg h4,if_pos h5]
    exact⟨rfl,rfl⟩
   ·refine⟨by omega,k0,by omega,by omega,k0,by omega,yN _,by omega,?_⟩
    rw[hr,hy,hD2 hl0,if_neg h4,if_neg h5]
    exact⟨rfl,rfl⟩
 ·cases h
end Go.Ax
namespace Go.Ax
open Go.Proofs
def zbu(es:List V)(σ:Int×Int)(l:By):By×Int×Int:=KX es (yB es σ 3) l
theorem zD4(f:Nat→Nat)(x:Nat):KH f 1 x=f x∧KH f 3 x=f (f (f x))∧KH f 1 (f x)=KH f 2 x∧KH f 3 (f x)=KH f 4 x:=⟨rfl,rfl,rfl,rfl⟩
theorem znO(x:Nat):ji 1 x=lcg x∧ji 3 x=lcg (lcg (lcg x))∧ji 1 (lcg x)=ji 2 x∧ji 3 (lcg x)=ji 4 x:=zD4 lcg x
def DpN(es:List V):Nat→Int×Int→By→By→Prop
 |0,σ,l,r=>jl es σ 3≠0∧r=l∧l.length≤2000000000
 |n+1,σ,l,r=>jl es σ 3=0∧l.length≤2000000000∧DpN es n (zbu es σ l).2 (zbu es σ l).1 r
theorem zvy(es:List V)(σ:Int×Int)(l:By)(hq:yg es σ.1 σ.2):(KX es σ l).1.length≤l.length+1:=by
 have hs:=zuT (jl es σ 22).toNat
 unfold KX
 split
 ·show(sgD.getD (jl es σ 22).toNat []).length≤_
  omega
 ·rename_i h0
  have h2:=jd (σ:=σ) (n:=22) hq
  have hk:=zaY (n:=l.length) h2 (by omega)
  simp only
  split
  ·simp only[zk,zD,zP];omega
  ·split
   ·simp only[zk,zD,zP];omega
   ·simp only[zk,zD,zP];omega
theorem zin{es:List V}{σ:Int×Int}{n:Int}(hn:1≤n):σ.1≤(yB es σ n).1∧(σ.1<es.length→σ.1+1=(yB es σ n).1):=by
 rw[yB,jo,if_neg (by omega)]
 split
 ·exact⟨by simp only;omega,fun _=>rfl⟩
 ·rename_i h;exact⟨yN _,fun h2=>absurd h2 h⟩
theorem zo9{es:List V}{σ:Int×Int}(l:By)(hq:yg es σ.1 σ.2):yg es (KX es σ l).2.1 (KX es σ l).2.2∧σ.1≤(KX es σ l).2.1:=by
 have h1:=jd (σ:=σ) (n:=22) hq
 have m1:=(zin (es:=es) (σ:=σ) (n:=22) (by omega)).1
 unfold KX
 split
 ·exact⟨h1,m1⟩
 ·rename_i h0
  have h2:=jd (n:=(l.length:Int)) h1
  have m2:=(zin (es:=es) (σ:=yB es σ 22) (n:=l.length) (by omega)).1
  have h3:=jd (n:=3) h2
  have m3:=(zin (es:=es) (σ:=yB es (yB es σ 22) l.length) (n:=3) (by omega)).1
  exact⟨h3,Int.le_trans m1 (Int.le_trans m2 m3)⟩
theorem zkS{es:List V}{σ:Int×Int}{n:Int}(ha:¬σ.1<es.length)(hn:1≤n):(yB es σ n).1=σ.1∧hN (yB es σ n).2=lcg (hN σ.2):=by
 obtain⟨_,h2,h3⟩:=zu5 (h:=σ.2) ha hn
 exact⟨h2,by show hN (jD es σ.1 σ.2 n)=_;rw[h3,zCR]⟩
theorem zBM{es:List V}{σ:Int×Int}(l:By)(ha:¬σ.1<es.length):(KX es σ l).2.1=σ.1∧(hN (KX es σ l).2.2=ji 1 (hN σ.2)∨hN (KX es σ l).2.2=ji 3 (hN σ.2)):=by
 obtain⟨a1,b1⟩:=zkS (es:=es) (σ:=σ) (n:=22) ha (by omega)
 unfold KX
 split
 ·exact⟨a1,.inl (by rw[(znO _).1];exact b1)⟩
 ·rename_i h0
  obtain⟨a2,b2⟩:=zkS (es:=es) (σ:=yB es σ 22) (n:=l.length) (by rw[a1];exact ha) (by omega)
  obtain⟨a3,b3⟩:=zkS (es:=es) (σ:=yB es (yB es σ 22) l.length) (n:=3) (by rw[a2,a1];exact ha) (by omega)
  refine⟨by rw[←a1,←a2,←a3],.inr ?_⟩
  show hN (yB es (yB es (yB es σ 22) l.length) 3).2=_
  rw[b3,b2,b1,(znO _).2.1]
def Zt(x0 q:Nat):Prop:=vv (ji (q+1) x0)%3=0
theorem zAN{x0 T:Nat}(H:∀q,q%2=0→q+2<T→Zt x0 q∨Zt x0 (q+2)):T≤3100000002:=by
 obtain⟨q,h1,h2,h3,h4⟩:=zBr (ji 1 x0)
 rw[←Yx]at h3 h4
 refine Classical.byContradiction fun hc=>?_
 rcases H q h1 (by omega)with h|h
 ·rw[Zt,Nat.add_comm q 1]at h
  exact h3 h
 ·rw[Zt,show q+2+1=1+(q+2) by omega]at h
  exact h4 h
theorem zx0{es:List V}{x0:Nat}{K B:Nat}(hK:K≤400000000)(hB:B=3100000010):∀(m T:Nat) (σ:Int×Int) (l:By),B-T≤m→yg es σ.1 σ.2→¬σ.1<es.length→hN σ.2=ji T x0→T%2=0→(∀q,q%2=0→q+2<T→Zt x0 q∨Zt x0 (q+2))→l.length≤K+T/2→∃n r,DpN es n σ l r∧r.length≤2000000000:=by
 intro m
 induction m with
 |zero=>
  intro T σ l hm _ _ _ _ H _
  have:=zAN H
  omega
 |succ m ih=>
  intro T σ l hm hq ha hh hT H hl
  have hT2:=zAN H
  obtain⟨v1,_,_⟩:=zu5 (h:=σ.2) (n:=3) ha (by omega)
  by_cases hv:jl es σ 3=0
  ·have hz:Zt x0 T:=by
    have h1:((vv (lcg (hN σ.2)):Nat):Int)%3=0:=by rw[←v1];exact hv
    rw[Zt,Yx,←hh,(znO _).1]
    omega
   obtain⟨a1,b1⟩:=zkS (es:=es) (σ:=σ) (n:=3) ha (by omega)
   have h1:=jd (σ:=σ) (n:=3) hq
   obtain⟨a2,b2⟩:=zBM (σ:=yB es σ 3) l (by rw[a1];exact ha)
   have hl2:=zvy es (yB es σ 3) l h1
   have hs2:=(zo9 (σ:=yB es σ 3) l h1).1
   obtain⟨T',t1,t2,t3⟩:∃T',(T'=T+2∨T'=T+4)∧hN (zbu es σ l).2.2=ji T' x0∧T'%2=0:=by
    rcases b2 with b2|b2
    ·refine⟨T+2,.inl rfl,?_,by omega⟩
     show hN (KX es (yB es σ 3) l).2.2=_
     rw[b2,b1,hh,Yx,(znO _).2.2.1]
    ·refine⟨T+4,.inr rfl,?_,by omega⟩
     show hN (KX es (yB es σ 3) l).2.2=_
     rw[b2,b1,hh,Yx,(znO _).2.2.2]
   obtain⟨n,r,d1,d2⟩:=ih T' (zbu es σ l).2 (zbu es σ l).1 (by omega) hs2 (by rw[show(zbu es σ l).2.1=σ.1 from a2.trans a1];exact ha) t2 t3 (fun q q1 q2=>by
    by_cases hqT:q+2<T
    ·exact H q q1 hqT
    ·rcases (show q=T∨q+2=T by omega)with rfl|e
     ·exact .inl hz
     ·exact .inr (by rw[e];exact hz)) (by
    have:(zbu es σ l).1.length≤l.length+1:=hl2
    omega)
   exact⟨n+1,r,⟨hv,by omega,d1⟩,d2⟩
  ·exact⟨0,l,⟨hv,rfl,by omega⟩,by omega⟩
theorem zCD{es:List V}{L:Nat}(hL:L≤300000000):∀(m:Nat) (σ:Int×Int) (l:By),(es.length-σ.1).toNat≤m→yg es σ.1 σ.2→(l.length:Int)≤L+σ.1→∃n r,DpN es n σ l r∧r.length≤2000000000:=by
 intro m
 induction m with
 |zero=>
  intro σ l hm hq hl
  obtain⟨xs,hx,_,hx2⟩:=hq.1
  have hel:es.length≤4096:=by rw[hx,U8,zy];exact hx2
  have h1:=hq.2.2
  exact zx0 (x0:=hN σ.2) (K:=400000000) (B:=3100000010) (zn _) rfl 3100000010 0 σ l (by omega) hq (by omega) (zdQ _).symm rfl (fun q _ h=>by omega) (by omega)
 |succ m ih=>
  intro σ l hm hq hl
  obtain⟨xs,hx,_,hx2⟩:=hq.1
  have hel:es.length≤4096:=by rw[hx,U8,zy];exact hx2
  have h1:=hq.2.2
  by_cases ha:σ.1<es.length
  ·by_cases hv:jl es σ 3=0
   ·have hs:=jd (σ:=σ) (n:=3) hq
    have hm1:=(zin (es:=es) (σ:=σ) (n:=3) (by omega)).2 ha
    have hl2:=zvy es (yB es σ 3) l hs
    obtain⟨hs2,hm2⟩:=zo9 (σ:=yB es σ 3) l hs
    have e1:(zbu es σ l).1.length≤l.length+1:=hl2
    have e2:(yB es σ 3).1≤(zbu es σ l).2.1:=hm2
    obtain⟨n,r,d1,d2⟩:=ih (zbu es σ l).2 (zbu es σ l).1 (by omega) hs2 (by omega)
    exact⟨n+1,r,⟨hv,by omega,d1⟩,d2⟩
   ·exact⟨0,l,⟨hv,rfl,by omega⟩,by omega⟩
  ·exact zx0 (x0:=hN σ.2) (K:=400000000) (B:=3100000010) (zn _) rfl 3100000010 0 σ l (by omega) hq ha (zdQ _).symm rfl (fun q _ h=>by omega) (by omega)
theorem zBL{es:List V}{σ:Int×Int}{l:By}(hq:yg es σ.1 σ.2)(hl:l.length≤300000000):∃n r,DpN es n σ l r∧r.length≤2000000000:=
 zCD (L:=300000000) (zn _) _ σ l (zn _) hq (by have:=hq.2.1;omega)
end Go.Ax
namespace Go.Ax
open Go.Proofs
theorem zmO:∀xs:List Int,V.frzs (U8 xs)=U8 xs
 |[]=>rfl
 |x::xs=>by
  have:=zmO xs
  simp only[U8]at this
  simp only[U8,List.map_cons,V.frzs,V.frz,this]
end Go.Ax
namespace Go.Ax
open Go.Proofs
def ze1(ms:List (List Int))(i k x:Int):List (List Int):=ms.set i.toNat ((ms.getD i.toNat []).set k.toNat x)
abbrev CvS:Type:=List (List Int)×List (List Int)×Int×Int
def spC(es:List V)(bs ms:List (List Int))(τ:Int×Int):CvS:=
 let r:Int:=bs.length
 let v:=jl es τ 30
 let τ1:=yB es τ 30
 let i:=jl es τ1 r
 let τ2:=yB es τ1 r
 let k:=jl es τ2 r
 let τ3:=yB es τ2 r
 if v=0 then(bs,ze1 ms i k (YB es τ3 [0,1,2,201,-1]),KO es τ3 [0,1,2,201,-1])
 else if v=1 then(bs.set i.toNat (spF es τ2.1 τ2.2).1,ms,(spF es τ2.1 τ2.2).2)
 else if v=2 then(bs,ms.drop 1,τ1)
 else if v=3 then
  (if i=k then(bs,ms,yB es τ3 4)else(bs,ze1 (ze1 ms i k (1+jl es τ3 4)) k i (1+jl es τ3 4),yB es τ3 4))
 else(bs,ms,τ1)
structure CvD (es:List V) (z:CvS):Prop where
 n1:1≤z.1.length
 n6:z.1.length≤6
 row:∀x∈z.1,x.length≤3000
 m6:z.2.1.length≤6
 mrow:∀x∈z.2.1,x.length≤6
 src:yg es z.2.2.1 z.2.2.2
theorem zoz{ms:List (List Int)}{i k x:Int}(h6:ms.length≤6)(h:∀x∈ms,x.length≤6):(ze1 ms i k x).length≤6∧∀y∈ze1 ms i k x,y.length≤6:=by
 refine⟨by rw[ze1,yP];exact h6,fun y hy=>?_⟩
 rw[ze1]at hy
 rcases List.mem_or_eq_of_mem_set hy with hy|rfl
 ·exact h y hy
 ·rw[yP,zd]
  by_cases hi:i.toNat<ms.length
  ·rw[ze hi];exact h _ (ye hi)
  ·rw[zG (by omega)];simp
theorem zCr{es:List V}{bs ms:List (List Int)}{τ:Int×Int}(hs:yg es τ.1 τ.2)(h1:1≤bs.length)(h6:bs.length≤6)(hr:∀x∈bs,x.length≤3000)(hm:ms.length≤6)(hmr:∀x∈ms,x.length≤6):CvD es (spC es bs ms τ):=by
 have s1:=jd (n:=30) hs
 have s2:=jd (n:=bs.length) s1
 have s3:=jd (n:=bs.length) s2
 unfold spC
 simp only
 split
 ·obtain⟨a,b⟩:=zoz (i:=jl es (yB es τ 30) bs.length) (k:=jl es (yB es (yB es τ 30) bs.length) bs.length) (x:=YB es (yB es (yB es (yB es τ 30) bs.length) bs.length) [0,1,2,201,-1]) hm hmr
  exact⟨h1,h6,hr,a,b,zbN s3⟩
 ·split
  ·obtain⟨a,b⟩:=zBa s2
   refine⟨by simpa using h1,by simpa using h6,fun x hx=>?_,hm,hmr,a⟩
   rcases List.mem_or_eq_of_mem_set hx with hx|rfl
   ·exact hr x hx
   ·exact yI b (by decide)
  ·split
   ·exact⟨h1,h6,hr,by simp only[zP];omega,fun x hx=>hmr x (ul hx),s1⟩
   ·split
    ·split
     ·exact⟨h1,h6,hr,hm,hmr,jd s3⟩
     ·obtain⟨a,b⟩:=zoz (i:=jl es (yB es τ 30) bs.length) (k:=jl es (yB es (yB es τ 30) bs.length) bs.length) (x:=1+jl es (yB es (yB es (yB es τ 30) bs.length) bs.length) 4) hm hmr
      obtain⟨a,b⟩:=zoz (k:=jl es (yB es τ 30) bs.length) (i:=jl es (yB es (yB es τ 30) bs.length) bs.length) (x:=1+jl es (yB es (yB es (yB es τ 30) bs.length) bs.length) 4) a b
      exact⟨h1,h6,hr,a,b,jd s3⟩
    ·exact⟨h1,h6,hr,hm,hmr,s1⟩
noncomputable def zaN(es:List V)(a h:Int):CvS:=spC es (zcO (Yl es a h).1) (Ka (Yl es a h).2.1) (Yl es a h).2.2
theorem zA9{es:List V}{a h:Int}(hq:yg es a h):CvD es (zaN es a h):=by
 obtain⟨⟨bs,ms,e1,e2,h1,h6,hm,hb,hr⟩,hs⟩:=ziL hq
 rw[zaN,e1,e2,ka,qC]
 refine zCr hs h1 h6 (fun x hx=>?_) (by omega) (fun x hx=>?_)
 ·obtain⟨i,hi,rfl⟩:=ym.1 hx
  have:=hb i hi
  rwa [zd,ze hi]at this
 ·obtain⟨i,hi,rfl⟩:=ym.1 hx
  have:=hr i (by omega)
  rw[zd,ze hi]at this
  simp only[qh]at this
  omega
noncomputable def zrm(es:List V)(a h:Int):List V×List V×Int×Int:=(BB false (zaN es a h).1,II false (zaN es a h).2.1,(zaN es a h).2.2)
def zsJ(f:List V→Int→Int→List V×List V×Int×Int)(q:List V→Int→Int→Prop):kF:=fun
 |[.box 61 (.agg [.slc false 5 (.int .u8 0) a0,.int .i64 a1,.int .u64 a2])]=>some ([q a0 a1 a2],.agg [.slc false 46 (.agg [.slc false 2 (.int .i64 0) []]) (f a0 a1 a2).1,.slc false 44 (.slc false 2 (.int .i64 0) []) (f a0 a1 a2).2.1],.box 61 (.agg [.slc false 5 (.int .u8 0) a0,.int .i64 (f a0 a1 a2).2.2.1,.int .u64 (f a0 a1 a2).2.2.2]))
 |_=>none
theorem znh:zfF Tryz.prog 12 1000 (zsJ zrm yg):=by
 intro args ps r y h hp
 unfold zsJ at h
 split at h
 ·rename_i a0 a1 a2
  simp only[za,zb]at h
  obtain⟨rfl,rfl,rfl⟩:=h
  have hq:yg a0 a1 a2:=(zo.1 hp).1
  obtain⟨⟨bs,ms,hb,hm,h1,h6,hml,hbl,hrl⟩,hs⟩:=ziL hq
  obtain⟨⟨vb,vm,A,H⟩,hd⟩:∃d,d=Yl a0 a1 a2:=⟨_,rfl⟩
  rw[←hd]at hb hm hs
  simp only at hb hm hs
  have hS:zaN a0 a1 a2=spC a0 bs ms (A,H):=by rw[zaN,←hd];simp only[hb,hm,ka,qC]
  obtain⟨r,hr0⟩:∃r:Int,r=bs.length:=⟨_,rfl⟩
  have hvb:vb.length=bs.length:=by rw[hb,YL]
  have hvm:vm.length=ms.length:=by rw[hm,yz]
  have gm:∀k,vm.getD k (.slc true 2 (.int .i64 0) [])=.slc true 2 (.int .i64 0) (I (ms.getD k [])):=fun k=>by rw[hm,jf]
  generalize yU:jp=jL
  generalize yT:jo=jK
  generalize yS:jD=jJ
  generalize qV:zgV=Zc
  generalize ki:QL=Yt
  generalize kh:Js=Ys
  generalize kg:Jr=Yr
  generalize ub:zgU=QS
  generalize zds:Yl=zp9
  generalize ZP:yg=zb1
  generalize ztV:zsY=zDe
  refine zBD (T:=tab) (B:=[]) (Bi:=[(26,0,false,zcp jL jK jJ Zc),(31,0,false,zgp Yt Ys Yr QS),(25,1000,false,znS zp9 zb1),(32,1000,false,zw4 zDe zb1)]) 0 [1000010003,2000005800,2000005820,2000005821,2000005824,2000005995,2000006832,2000008800,2000008837,2000008838,2000008841,2000008843,2000008995,2000015069,2000015074,3000008005,3000015007,0,2,3,4,5,6,7,8,9,10,17] Tryz.func12 rfl rfl (by kernel_rfl) (zh rfl) mixed yd (by subst yU yT yS qV ki kh kg ub zds ZP ztV;exact zH) (by subst yU yT yS qV ki kh kg ub zds ZP ztV;exact(qX uj (qX YM (qX zhg (qX znk zE))))) (by kernel_rfl) rfl rfl zb9 rfl ?_
  intro L lp rr yy hL hr hy hf hlp
  conv=>cbv
  subst yU yT yS qV ki kh kg ub zds ZP ztV
  obtain⟨v,hv⟩:∃v,v=jp a0 A H 30:=⟨_,rfl⟩
  obtain⟨A1,hA1⟩:∃A1,A1=jo a0 A H 30:=⟨_,rfl⟩
  obtain⟨H1,hH1⟩:∃H1,H1=jD a0 A H 30:=⟨_,rfl⟩
  obtain⟨i,hi⟩:∃i,i=jp a0 A1 H1 r:=⟨_,rfl⟩
  obtain⟨A2,hA2⟩:∃A2,A2=jo a0 A1 H1 r:=⟨_,rfl⟩
  obtain⟨H2,hH2⟩:∃H2,H2=jD a0 A1 H1 r:=⟨_,rfl⟩
  obtain⟨k,hk⟩:∃k,k=jp a0 A2 H2 r:=⟨_,rfl⟩
  obtain⟨A3,hA3⟩:∃A3,A3=jo a0 A2 H2 r:=⟨_,rfl⟩
  obtain⟨H3,hH3⟩:∃H3,H3=jD a0 A2 H2 r:=⟨_,rfl⟩
  have s1:yg a0 A1 H1:=by rw[hA1,hH1];exact kX hs
  have s2:yg a0 A2 H2:=by rw[hA2,hH2];exact kX s1
  have s3:yg a0 A3 H3:=by rw[hA3,hH3];exact kX s2
  have i1:=YA (n:=r) s1 (by omega)
  have k1:=YA (n:=r) s2 (by omega)
  rw[←hi]at i1
  rw[←hk]at k1
  obtain⟨x,hx⟩:∃x,x=QL a0 A3 H3 (I [0,1,2,201,-1]):=⟨_,rfl⟩
  obtain⟨A4,hA4⟩:∃A4,A4=Js a0 A3 H3 (I [0,1,2,201,-1]):=⟨_,rfl⟩
  obtain⟨H4,hH4⟩:∃H4,H4=Jr a0 A3 H3 (I [0,1,2,201,-1]):=⟨_,rfl⟩
  obtain⟨n,hn⟩:∃n,n=1+jp a0 A3 H3 4:=⟨_,rfl⟩
  obtain⟨A5,hA5⟩:∃A5,A5=jo a0 A3 H3 4:=⟨_,rfl⟩
  obtain⟨H5,hH5⟩:∃H5,H5=jD a0 A3 H3 4:=⟨_,rfl⟩
  have n1:=YA (n:=4) s3 (by omega)
  obtain⟨⟨sl,A6,H6⟩,hsp⟩:∃z,z=spF a0 A2 H2:=⟨_,rfl⟩
  have hS2:zaN a0 a1 a2=if v=0 then(bs,ze1 ms i k x,A4,H4)else if v=1 then(bs.set i.toNat sl,ms,A6,H6)else if v=2 then(bs,ms.drop 1,A1,H1)
   else if v=3 then(if i=k then(bs,ms,A5,H5)else(bs,ze1 (ze1 ms i k n) k i n,A5,H5))else(bs,ms,A1,H1):=by
   have e1:sl=(spF a0 A2 H2).1:=by rw[←hsp]
   have e2:(A6,H6)=(spF a0 A2 H2).2:=by rw[←hsp]
   rw[hS,e1,e2,hn,hA5,hH5,hx,hA4,hH4,hk,hA3,hH3,hi,hA2,hH2,hv,hA1,hH1,hr0]
   rfl
  have fin:∀(xs ys:List (List Int)) (B G:Int),zaN a0 a1 a2=(xs,ys,B,G)→V.agg [V.slc false 46 (V.agg [V.slc false 2 (V.int IntKind.i64 0) []]) (BB false xs),V.slc false 44 (V.slc false 2 (V.int IntKind.i64 0) []) (II false ys)]=rr∧
   V.box 61 (V.agg [V.slc false 5 (V.int IntKind.u8 0) a0,V.int IntKind.i64 B,V.int IntKind.u64 G])=yy:=by
   intro xs ys B G e
   rw[hr,hy,zrm,e]
   exact⟨rfl,rfl⟩
  have hset:∀(j:Nat) (l:List Int),vm.set j (.slc true 2 (.int .i64 0) (I l))=II true (ms.set j l):=fun j l=>by rw[hm,II,II,JL]
  have hbset:∀(j:Nat) (l:List Int),vb.set j (.agg [.slc false 2 (.int .i64 0) (I l)])=BB false (bs.set j l):=fun j l=>by rw[hb,BB,BB,JL]
  have gb:∀j,vb.getD j (.agg [.slc false 2 (.int .i64 0) []])=.agg [.slc false 2 (.int .i64 0) (I (bs.getD j []))]:=fun j=>by rw[hb,zdw]
  have gset:∀j l,(II true l).getD j (.slc true 2 (.int .i64 0) [])=.slc true 2 (.int .i64 0) (I (l.getD j [])):=fun j l=>jf true l j
  have fvb:V.frzs vb=BB false bs:=by rw[hb,jh]
  have fvm:V.frzs vm=II false ms:=by rw[hm,jg]
  have fpk:∀l,l=I [0,1,2,201,-1]→QL a0 A3 H3 l=x∧Js a0 A3 H3 l=A4∧Jr a0 A3 H3 l=H4:=fun l hl=>by rw[hl,hx,hA4,hH4];exact⟨rfl,rfl,rfl⟩
  obtain⟨p0,p1,p2⟩:=fpk (V.frzs (V.frzs [V.int IntKind.i64 0,V.int IntKind.i64 1,V.int IntKind.i64 2,V.int IntKind.i64 201,V.int IntKind.i64 (-1)])) rfl
  have fsp:zsY a0 A2 H2=(I sl,A6,H6):=by rw[zsY,←hsp]
  have hn2:jp a0 A3 H3 4=n-1:=by omega
  have wn:IntKind.wrap .i64 (1+(n-1))=n:=by rw[show 1+(n-1)=n by omega];exact zl (by omega) (by omega)
  simp only[zr hL,sQ,←hd,hvb,←hr0,hvm,gm,←hv,←hA1,←hH1,←hi,←hA2,←hH2,←hk,←hA3,←hH3,hn2,←hA5,←hH5,p0,p1,p2,fsp,hset,hbset,gb,gset,Jz,zcV,fvb,fvm,jh,jg,wn,yz,yP]
  have hri:=hrl i.toNat (by omega)
  have hrk:=hrl k.toNat (by omega)
  have hgk:i≠k→∀l,(ms.set i.toNat l).getD k.toNat []=ms.getD k.toNat []:=fun hne l=>by
   rw[zd,List.getElem?_set_ne (by omega),←zd]
  refine⟨hq,hs,fun h=>?_,fun h=>⟨fun h2=>?_,fun h2=>⟨fun h3=>?_,fun h3=>⟨fun h4=>⟨s1,s2,s3,fun h5=>?_,fun h5=>?_⟩,fun h4=>?_⟩⟩⟩⟩
  ·rw[if_pos h]at hS2
   exact⟨s1,i1.1,by omega,by omega,s2,⟨s3,⟨[0,1,2,201,-1],rfl⟩,by decide,by decide⟩,by omega,k1.1,by omega,by omega,by omega,fin _ _ _ _ hS2⟩
  ·rw[if_neg h,if_pos h2]at hS2
   exact⟨s1,s2,i1.1,i1.2,by omega,fin _ _ _ _ hS2⟩
  ·rw[if_neg h,if_neg h2,if_pos h3]at hS2
   refine⟨by omega,by omega,yN _,?_⟩
   have e:V.frzs (List.drop 1 (List.take ((ms.length:Int)).toNat (II false ms)))=II false (ms.drop 1):=by
    rw[zV,zu (by rw[yz];exact zn _),show List.drop 1 (II false ms)=II false (ms.drop 1) by rw[II,II,zbq],jg]
   rw[e]
   exact fin _ _ _ _ hS2
  ·rw[if_neg h,if_neg h2,if_neg h3,if_pos h4,if_neg h5]at hS2
   simp only[hgk h5]
   iterate 20 try refine⟨by omega,?_⟩
   have hset2:∀(X:List (List Int)) (j:Nat) (l:List Int),(II true X).set j (.slc true 2 (.int .i64 0) (I l))=II true (X.set j l):=fun X j l=>by rw[II,II,JL]
   simp only[ze1,hgk h5]at hS2
   rw[hset2,jg]
   exact fin _ _ _ _ hS2
  ·rw[if_neg h,if_neg h2,if_neg h3,if_pos h4,if_pos h5]at hS2
   exact fin _ _ _ _ hS2
  ·rw[if_neg h,if_neg h2,if_neg h3,if_neg h4]at hS2
   exact fin _ _ _ _ hS2
 ·cases h
end Go.Ax
namespace Go.Ax
open Go.Proofs
noncomputable def zxa(a:List V):List V×List V:=(BB false (zaN a 0 (kc a)).1,II false (zaN a 0 (kc a)).2.1)
def zxf(f:List V→List V×List V)(q:List V→Prop):zQ:=fun
 |[.slc false 5 (.int .u8 0) a0]=>some ([q a0],.agg [.slc false 46 (.agg [.slc false 2 (.int .i64 0) []]) ((f a0).1),.slc false 44 (.slc false 2 (.int .i64 0) []) ((f a0).2)])
 |_=>none
theorem zia:yZ Tryz.prog 5 (zxf zxa IsU):=by
 intro args ps r h hp
 unfold zxf at h
 split at h
 ·rename_i a0
  simp only[za,zb]at h
  obtain⟨rfl,rfl⟩:=h
  have hq:IsU a0:=(zo.1 hp).1
  have hfr:V.frzs a0=a0:=by
   obtain⟨xs,hxs,_⟩:=hq
   rw[hxs,zmO]
  have s0:yg a0 0 (kc a0):=⟨hq,yN _,jG _⟩
  generalize zaq:kc=zkF
  generalize zcG:IsU=zi4
  generalize zpE:zrm=zCb
  generalize ZP:yg=zb1
  refine zc8 (T:=tab) (B:=[(13,zoe zkF zi4)]) (Bi:=[(12,1000,false,zsJ zCb zb1)]) [0,2] Tryz.func5 rfl rfl (by kernel_rfl) (zh rfl) mixed yd (by subst zaq zcG zpE ZP;exact(zt zhl zH)) (by subst zaq zcG zpE ZP;exact(qX znh zE)) (by kernel_rfl) ?_
  intro L lp rr hL hr hf hlp
  conv=>cbv
  subst zaq zcG zpE ZP
  have Es:zrm a0 0 (kc a0)=(BB false (zaN a0 0 (kc a0)).1,II false (zaN a0 0 (kc a0)).2.1,(zaN a0 0 (kc a0)).2.2):=rfl
  simp only[zr hL,sQ,hfr,Es,jh,jg]
  exact⟨hq,s0,hr.symm⟩
 ·cases h
noncomputable def tx0(a:List V):By:=YI (zcO (Yl a 0 (kc a)).1) (Ka (V.frzs (Yl a 0 (kc a)).2.1))
noncomputable def ztc(a:List V):By:=Classical.epsilon fun r=>r.length≤2000000000∧∃n,DpN a n (Yl a 0 (kc a)).2.2 (tx0 a) r
noncomputable def zrq(a:List V):ByteArray:=T (ztc a)
theorem zvC{bs ms:List (List Int)}(h:CvW bs ms):(YI bs ms).length≤300000000:=by
 have n6:=h.n6
 have l1:=KU 32 700 (bs.map uv) fun w hw=>by
  obtain⟨y,hy,rfl⟩:=yD.1 hw
  obtain⟨t,ht,rfl⟩:=ym.1 hy
  have h1:=h.br t ht
  rw[zd,ze ht,qh]at h1
  have:=zpn (zc7 h1) (zbB h1)
  have:=(Kl h1).len
  omega
 have hok:okN (kU ms bs.length bs.length):=fun y hy=>by
  rw[kU]at hy
  obtain⟨a,ha,hy⟩:=YT.1 hy
  rw[yX]at ha
  rw[Zm]at hy
  obtain⟨b,hb,rfl⟩:=yD.1 hy
  have:=h.ent a b ha (yX.1 (ul hb))
  omega
 have l2:=zio hok
 have l3:=zeV ms bs.length bs.length
 have l4:=JK n6 n6
 rw[zy,←JJ]at l1
 have l5:=Qc 701 n6
 rw[YI,zk]
 split
 ·simp only[zq];omega
 ·simp only[zi];omega
theorem zA4{a:List V}(hq:IsU a):(tx0 a).length≤300000000:=by
 obtain⟨bs,ms,e1,e2,h⟩:=zvq (a:=0) (h:=kc a) ⟨hq,yN _,jG _⟩
 rw[tx0,e1,e2,jg,ka,qC]
 exact zvC h
theorem ztb{a:List V}(hq:IsU a):(ztc a).length≤2000000000∧∃n,DpN a n (Yl a 0 (kc a)).2.2 (tx0 a) (ztc a):=by
 have hs:=(ziL (a:=0) (h:=kc a) (es:=a) ⟨hq,yN _,jG _⟩).2
 obtain⟨n,r,h1,h2⟩:=zBL hs (zA4 hq)
 exact Classical.epsilon_spec (p:=fun r=>r.length≤2000000000∧∃n,DpN a n (Yl a 0 (kc a)).2.2 (tx0 a) r) ⟨r,h2,n,h1⟩
def zxe(f:List V→ByteArray)(q:List V→Prop):zQ:=fun
 |[.slc false 5 (.int .u8 0) a0]=>some ([q a0],.str (f a0))
 |_=>none
theorem zhm:yZ Tryz.prog 10 (zxe zrq IsU):=by
 intro args ps r h hp
 unfold zxe at h
 split at h
 ·rename_i a0
  simp only[za,zb]at h
  obtain⟨rfl,rfl⟩:=h
  have hq:IsU a0:=(zo.1 hp).1
  have hfr:V.frzs a0=a0:=by
   obtain⟨xs,hxs,_⟩:=hq
   rw[hxs,zmO]
  have s0:yg a0 0 (kc a0):=⟨hq,yN _,jG _⟩
  obtain⟨hdl,n0,hdn⟩:=ztb hq
  have hs1:=(ziL s0).2
  obtain⟨bs,ms,e1,e2,hw⟩:=zvq s0
  obtain⟨h0,hh0⟩:∃h0,h0=kc a0:=⟨_,rfl⟩
  obtain⟨⟨vb,vm,A,H⟩,hd⟩:∃d,d=Yl a0 0 (kc a0):=⟨_,rfl⟩
  rw[tx0,←hd]at hdn
  rw[←hd]at hs1 e1 e2
  simp only at hs1 e1 e2 hdn
  obtain⟨r,hrr⟩:∃r,r=ztc a0:=⟨_,rfl⟩
  rw[←hrr]at hdn hdl
  obtain⟨l0,hl0⟩:∃l,l=YI (zcO vb) (Ka (V.frzs vm)):=⟨_,rfl⟩
  rw[←hl0]at hdn
  generalize zaq:kc=zkF
  generalize zcG:IsU=zi4
  generalize zds:Yl=zp9
  generalize ZP:yg=zb1
  generalize ZR:Jq=zaH
  generalize zpy:zwG=zB7
  generalize yU:jp=jL
  generalize yT:jo=jK
  generalize yS:jD=jJ
  generalize qV:zgV=Zc
  generalize zpR:zgu=zCe
  generalize zpx:zwF=zB6
  refine zO (T:=tab) (B:=[(13,zoe zkF zi4),(17,zdF zaH zB7)]) (Bi:=[(25,1000,false,znS zp9 zb1),(26,0,false,zcp jL jK jJ Zc),(27,1000,false,zsL zCe zB6)]) [0,2,3,4] Tryz.func10 rfl rfl (by kernel_rfl) (zh rfl) mixed yd (by subst zaq zcG zds ZP ZR zpy yU yT yS qV zpR zpx;exact(zt zhl (zt zf6 zH))) (by subst zaq zcG zds ZP ZR zpy yU yT yS qV zpR zpx;exact(qX zhg (qX uj (qX zmi zE)))) (by kernel_rfl) ?_
  intro L lp rr hL hr hf hlp
  conv=>cbv
  subst zaq zcG zds ZP
  simp only[zr hL,sQ,hfr,←hd]
  have fb:V.frzs vb=vb:=by rw[e1,jh]
  have Et:zaH (V.frzs vb) (V.frzs vm)=T l0:=by rw[←ZR,Jq,fb,hl0]
  refine⟨hq,s0,?_,?_⟩
  ·rw[←zpy,e1,e2,jh,jg]
   have hmr:∀x∈ms,x.length≤2147483647:=fun x hx=>by
    obtain⟨t,ht,rfl⟩:=ym.1 hx
    have h5:=hw.len
    have:=hw.row t (by omega)
    rw[zd,ze ht]at this
    have:=hw.n6
    simp only[qh]at*
    omega
   have hbr:∀x∈bs,x.length≤2147483647:=fun x hx=>by
    obtain⟨t,ht,rfl⟩:=ym.1 hx
    have:=hw.br t ht
    rw[zd,ze ht]at this
    have:=(Kl this).len
    simp only[qh]at*
    omega
   have h5:=hw.len
   have h6:=hw.n6
   exact⟨⟨⟨bs,rfl,by omega,hbr⟩,⟨ms,rfl,by omega,hmr⟩⟩,by rw[ka,qC];exact hw⟩
  rw[Et]
  obtain⟨vt0,hvt0⟩:∃v,v=T l0:=⟨_,rfl⟩
  rw[←hvt0]
  refine hlp ((Int×Int)×By×Nat) _ _ _ [3,4] (fun x=>[(3,none,.val (.box 61 (.agg [.slc false 5 (.int .u8 0) a0,.int .i64 x.1.1,.int .u64 x.1.2]))),(4,none,.val (.str (T x.2.1)))])
   (fun x=>yg a0 x.1.1 x.1.2∧DpN a0 x.2.2 x.1 x.2.1 r) (fun x=>x.2.2) (((A,H),l0,n0)) (by subst hL;rw[hvt0];rfl) ?_ ?_
  ·exact⟨hs1,hdn⟩
  rintro⟨⟨a,h⟩,l,n⟩ ⟨hs,hD⟩ hfx ag hag
  simp only at hs hD
  obtain⟨tv,htv⟩:∃tv,tv=T l:=⟨_,rfl⟩
  simp only[←htv]
  conv=>cbv
  simp only[zr hL]
  subst yU yT yS qV zpR zpx
  refine⟨hs,fun h5=>?_,fun h5=>?_⟩
  ·have hz:jl a0 (a,h) 3=0:=beq_iff_eq.1 h5
   cases n with
   |zero=>exact absurd hz hD.1
   |succ n=>
    obtain⟨d1,d2,d3⟩:=hD
    have s1:yg a0 (jo a0 a h 3) (jD a0 a h 3):=kX hs
    have E:zgu a0 (jo a0 a h 3) (jD a0 a h 3) tv=(T (zbu a0 (a,h) l).1,(zbu a0 (a,h) l).2):=by rw[zgu,htv,zkk];rfl
    have hs2:=(zo9 (σ:=yB a0 (a,h) 3) l s1).1
    refine⟨⟨s1,by rw[htv,qy];exact d2⟩,?_⟩
    simp only[E]
    exact hag ((zbu a0 (a,h) l).2,(zbu a0 (a,h) l).1,n) ⟨hs2,d3⟩ (Nat.lt_succ_self n)
  ·have hz:jl a0 (a,h) 3≠0:=beq_eq_false_iff_ne.1 h5
   cases n with
   |zero=>rw[hr,zrq,←hrr,htv,hD.2.1]
   |succ n=>exact absurd hD.1 hz
 ·cases h
end Go.Ax
namespace Go.Proofs
open Go.Shelf
def zzO:Go.Shelf.Ren:=⟨fun|173=>85|246=>103|283=>112|284=>113|285=>114|286=>115|129=>119|317=>118|318=>120|319=>121|320=>122|337=>123|338=>124|n=>n,fun|2=>2|3=>3|9=>9|4=>4|171=>134|0=>0|53=>59|37=>22|5=>5|173=>137|212=>142|51=>143|20=>20|213=>144|46=>85|232=>148|233=>149|n=>n,fun|17=>1|18=>2|19=>3|n=>n⟩
theorem zD0:Go.Proofs.LaysM.n173 Tryz.prog zzO:={
 mixed:=by kernel_rfl
 f129:=Tryz.func119.trans (congrArg some (by kernel_rfl))
 f173:=Tryz.func85.trans (congrArg some (by kernel_rfl))
 f246:=Tryz.func103.trans (congrArg some (by kernel_rfl))
 f283:=Tryz.func112.trans (congrArg some (by kernel_rfl))
 f284:=Tryz.func113.trans (congrArg some (by kernel_rfl))
 f285:=Tryz.func114.trans (congrArg some (by kernel_rfl))
 f286:=Tryz.func115.trans (congrArg some (by kernel_rfl))
 f317:=Tryz.func118.trans (congrArg some (by kernel_rfl))
 f318:=Tryz.func120.trans (congrArg some (by kernel_rfl))
 f319:=Tryz.func121.trans (congrArg some (by kernel_rfl))
 f320:=Tryz.func122.trans (congrArg some (by kernel_rfl))
 f337:=Tryz.func123.trans (congrArg some (by kernel_rfl))
 f338:=Tryz.func124.trans (congrArg some (by kernel_rfl))
 t0:=Tryz.underlying0
 a0:=Tryz.isAgg0
 z0:=Tryz.sizeOf0
 v0:=Tryz.zeroValue0
 t2:=Tryz.underlying2
 a2:=Tryz.isAgg2
 z2:=Tryz.sizeOf2
 v2:=Tryz.zeroValue2
 t3:=Tryz.underlying3
 a3:=Tryz.isAgg3
 z3:=Tryz.sizeOf3
 v3:=Tryz.zeroValue3
 t4:=Tryz.underlying4
 a4:=Tryz.isAgg4
 z4:=Tryz.sizeOf4
 v4:=Tryz.zeroValue4
 t5:=Tryz.underlying5
 a5:=Tryz.isAgg5
 z5:=Tryz.sizeOf5
 v5:=Tryz.zeroValue5
 t9:=Tryz.underlying9
 a9:=Tryz.isAgg9
 z9:=Tryz.sizeOf9
 v9:=Tryz.zeroValue9
 t20:=Tryz.underlying20
 a20:=Tryz.isAgg20
 z20:=Tryz.sizeOf20
 v20:=Tryz.zeroValue20
 t37:=Tryz.underlying22
 a37:=Tryz.isAgg22
 z37:=Tryz.sizeOf22
 v37:=Tryz.zeroValue22
 t46:=Tryz.underlying85
 a46:=Tryz.isAgg85
 z46:=Tryz.sizeOf85
 v46:=Tryz.zeroValue85
 t51:=Tryz.underlying143
 a51:=Tryz.isAgg143
 z51:=Tryz.sizeOf143
 v51:=Tryz.zeroValue143
 t53:=Tryz.underlying59
 a53:=Tryz.isAgg59
 z53:=Tryz.sizeOf59
 v53:=Tryz.zeroValue59
 t171:=Tryz.underlying134
 a171:=Tryz.isAgg134
 z171:=Tryz.sizeOf134
 v171:=Tryz.zeroValue134
 t173:=Tryz.underlying137
 a173:=Tryz.isAgg137
 z173:=Tryz.sizeOf137
 v173:=Tryz.zeroValue137
 t212:=Tryz.underlying142
 a212:=Tryz.isAgg142
 z212:=Tryz.sizeOf142
 v212:=Tryz.zeroValue142
 t213:=Tryz.underlying144
 a213:=Tryz.isAgg144
 z213:=Tryz.sizeOf144
 t232:=Tryz.underlying148
 a232:=Tryz.isAgg148
 z232:=Tryz.sizeOf148
 v232:=Tryz.zeroValue148
 t233:=Tryz.underlying149
 a233:=Tryz.isAgg149
 z233:=Tryz.sizeOf149
 v233:=Tryz.zeroValue149
 g17:=by kernel_rfl
 g18:=by kernel_rfl
 g19:=by kernel_rfl
 i0:=by kernel_rfl
 i2:=by kernel_rfl
 i3:=by kernel_rfl
 i4:=by kernel_rfl
 i5:=by kernel_rfl
 i9:=by kernel_rfl
 i20:=by kernel_rfl
 i37:=by kernel_rfl
 i46:=by kernel_rfl
 i51:=by kernel_rfl
 i53:=by kernel_rfl
 i171:=by kernel_rfl
 i173:=by kernel_rfl
 i212:=by kernel_rfl
 i232:=by kernel_rfl
 i233:=by kernel_rfl
 m17:=by kernel_rfl
 m18:=by kernel_rfl
 m19:=by kernel_rfl}
def zqy:Go.Shelf.Ren:=⟨fun|156=>39|165=>64|166=>65|169=>66|240=>86|241=>87|276=>104|277=>105|n=>n,fun|31=>42|9=>9|3=>3|4=>4|0=>0|20=>20|72=>92|76=>96|70=>90|37=>22|75=>95|127=>115|164=>125|5=>5|80=>98|n=>n,fun|n=>n⟩
theorem zAO:Go.Proofs.Lays.n156 Tryz.prog zqy:={
 mixed:=by kernel_rfl
 f156:=Tryz.func39.trans (congrArg some (by kernel_rfl))
 f165:=Tryz.func64.trans (congrArg some (by kernel_rfl))
 f166:=Tryz.func65.trans (congrArg some (by kernel_rfl))
 f169:=Tryz.func66.trans (congrArg some (by kernel_rfl))
 f240:=Tryz.func86.trans (congrArg some (by kernel_rfl))
 f241:=Tryz.func87.trans (congrArg some (by kernel_rfl))
 f276:=Tryz.func104.trans (congrArg some (by kernel_rfl))
 f277:=Tryz.func105.trans (congrArg some (by kernel_rfl))
 t0:=Tryz.underlying0
 a0:=Tryz.isAgg0
 z0:=Tryz.sizeOf0
 v0:=Tryz.zeroValue0
 t3:=Tryz.underlying3
 a3:=Tryz.isAgg3
 z3:=Tryz.sizeOf3
 v3:=Tryz.zeroValue3
 t4:=Tryz.underlying4
 a4:=Tryz.isAgg4
 z4:=Tryz.sizeOf4
 v4:=Tryz.zeroValue4
 t9:=Tryz.underlying9
 a9:=Tryz.isAgg9
 z9:=Tryz.sizeOf9
 v9:=Tryz.zeroValue9
 t20:=Tryz.underlying20
 a20:=Tryz.isAgg20
 z20:=Tryz.sizeOf20
 v20:=Tryz.zeroValue20
 t31:=Tryz.underlying42
 a31:=Tryz.isAgg42
 z31:=Tryz.sizeOf42
 v31:=Tryz.zeroValue42
 t37:=Tryz.underlying22
 a37:=Tryz.isAgg22
 z37:=Tryz.sizeOf22
 v37:=Tryz.zeroValue22
 t70:=Tryz.underlying90
 a70:=Tryz.isAgg90
 z70:=Tryz.sizeOf90
 v70:=Tryz.zeroValue90
 t72:=Tryz.underlying92
 a72:=Tryz.isAgg92
 z72:=Tryz.sizeOf92
 v72:=Tryz.zeroValue92
 t75:=Tryz.underlying95
 a75:=Tryz.isAgg95
 z75:=Tryz.sizeOf95
 v75:=Tryz.zeroValue95
 t76:=Tryz.underlying96
 a76:=Tryz.isAgg96
 z76:=Tryz.sizeOf96
 v76:=Tryz.zeroValue96
 t127:=Tryz.underlying115
 a127:=Tryz.isAgg115
 z127:=Tryz.sizeOf115
 v127:=Tryz.zeroValue115
 t164:=Tryz.underlying125
 a164:=Tryz.isAgg125
 z164:=Tryz.sizeOf125
 v164:=Tryz.zeroValue125}
theorem zyd:Builder.Extra Tryz.prog zqy:={
 sizeBuilder:=by kernel_rfl
 liesBuilder:=by kernel_rfl
 t5:=Tryz.underlying5
 a5:=Tryz.isAgg5
 z5:=Tryz.sizeOf5
 v5:=Tryz.zeroValue5
 infoByte:=by kernel_rfl
 cellsByte:=by kernel_rfl
 sizeByte:=by kernel_rfl
 neB5:=by decide}
end Go.Proofs
namespace Go.Ax
open Go.Proofs Go.Sort Go.RowKit
theorem zvz:∀(f u:Nat),u<10^f→0<f→zfs f (u:Int)=Lib.decDigits u
 |0,u,_,h=>by omega
 |f+1,u,h,_=>by
  rw[zfs,Lib.decDigits]
  by_cases hu:u<10
  ·rw[if_pos (by omega),dif_pos hu,show(48+(u:Int)).toNat=48+u by omega]
  ·rw[if_neg (by omega),dif_neg hu]
   have h1:((u:Int).tdiv 10)=((u/10:Nat):Int):=by rw[Int.tdiv_eq_ediv_of_nonneg (by omega)];omega
   have h2:(48+(u:Int).tmod 10).toNat=48+u%10:=by rw[kL (by omega)];omega
   have hf:0<f:=by
    cases f with
    |zero=>simp at h;omega
    |succ f=>omega
   rw[h1,h2,zvz f (u/10) (by rw[zcD]at h;omega) hf]
theorem zzU{n:Int}(h0:0≤n)(h1:n<1000000000):Lib.itoa n=kC n:=by
 obtain⟨u,rfl⟩:∃u:Nat,n=u:=⟨n.toNat,by omega⟩
 rw[Lib.itoa,if_neg (by omega),zV,kC]
 refine(zvz 20 u ?_ (by omega)).symm
 have:(10:Nat)^20=100000000000000000000:=by decide
 omega
theorem znP(c:UInt8):∀l:List By,Lib.join l [c]=jC c l
 |[]=>rfl
 |[x]=>Lib.join_one x [c]
 |x::y::l=>by
  have ih:=znP c (y::l)
  rw[Lib.join_cons]at ih ⊢
  rw[jC,←ih]
  simp[Lib.joinTail]
def zAR(n _b:Int):ByteArray:=T (kC n)
def zwE(n b:Int):Prop:=b=10∧0≤n∧n<1000000000
def ztw(f:Int→Int→ByteArray)(q:Int→Int→Prop):zQ:=fun
 |[.int .i64 a0,.int .i64 a1]=>some ([q a0 a1],.str (f a0 a1))
 |_=>none
theorem zDn:yZ Tryz.prog 85 (ztw zAR zwE):=by
 intro args ps r h hp
 unfold ztw at h
 split at h
 ·rename_i n b
  simp only[za,zb]at h
  obtain⟨rfl,rfl⟩:=h
  obtain⟨rfl,h0,h1⟩:zwE n b:=(zo.1 hp).1
  refine⟨⟨_,Tryz.func85,by kernel_rfl,rfl⟩,fun yf w F hsz hv hF hG=>?_⟩
  have e0:yf.getD 0 undef=.int .i64 n:=by
   obtain⟨cs,k1,k2⟩:=hv 0 _ rfl
   cases k2
   exact k1
  have e1:yf.getD 1 undef=.int .i64 10:=by
   obtain⟨cs,k1,k2⟩:=hv 1 _ rfl
   cases k2
   exact k1
  have hs2:yf.size=2:=hsz
  have hvs:yf= #[.int .i64 n,.int .i64 10]:=by
   rw[←e0,←e1]
   apply Array.ext
   ·simpa using hs2
   ·intro i h1 h2
    rcases (by omega:i=0∨i=1)with rfl|rfl<;>simp[Array.getD,hs2]
  rw[hvs]
  have htab:Lib.TabIs Tryz.prog w zcQ .u64 Lib.pow10Tab:=(hG w fun _ _=>rfl).resolve_left (by
   have h:(Tryz.prog.globalNamed zcQ).isNone=false:=by kernel_rfl
   intro e
   rw[e]at h
   cases h)
  refine(Any.strconv_FormatInt_10 zD0 n (by omega) (by omega) w htab).mono ?_
  rintro e w' ⟨rfl,k,os,rfl⟩
  rw[zzU h0 h1]
  exact⟨_,[_],fun _=>False,fun _=>False,rfl,rfl,.str _ _,fun b hb=>hb.elim False.elim False.elim,fun b hb=>hb.elim,⟨rfl,rfl,⟨rfl,zta (Nat.le_add_right _ _)⟩,by rw[size_grow];exact Nat.le_add_right _ _,fun k hk=>heap_grow_old _ _ hk⟩⟩
 ·cases h
def zs2(es:List V)(s:ByteArray):ByteArray:=T (jC (s.data.toList.getD 0 0) (es.map fun x=>match x with| .str t=>t.data.toList|_=>[]))
def zwD(es:List V)(s:ByteArray):Prop:=∃ws c,es=Zs ws∧s=T [c]∧ws.length≤2147483647∧(jC c ws).length≤2147483647
theorem zo7(ws:List By)(c:UInt8):zs2 (Zs ws) (T [c])=T (jC c ws):=by
 rw[zs2,Zs,List.map_map]
 have:(ws.map ((fun x=>match x with|V.str t=>t.data.toList|_=>[])∘fun w=>V.str (T w)))=ws:=by
  conv=>rhs;rw[←List.map_id ws]
  exact qU fun w _=>by simp[T]
 rw[this]
 rfl
def zn9(f:List V→ByteArray→ByteArray)(q:List V→ByteArray→Prop):zQ:=fun
 |[.slc false 9 _ a0,.str a1]=>some ([q a0 a1],.str (f a0 a1))
 |_=>none
theorem zxO:yZ Tryz.prog 39 (zn9 zs2 zwD):=by
 intro args ps r h hp
 unfold zn9 at h
 split at h
 ·rename_i d0 es s
  simp only[za,zb]at h
  obtain⟨rfl,rfl⟩:=h
  obtain⟨ws,c,rfl,rfl,h0,h1⟩:zwD es s:=(zo.1 hp).1
  rw[zo7]
  refine⟨⟨_,Tryz.func39,by kernel_rfl,rfl⟩,fun yf w F hsz hv hF hG=>?_⟩
  have e1:yf.getD 1 undef=.string (T [c]):=by
   obtain⟨cs,k1,k2⟩:=hv 1 _ rfl
   cases k2
   exact k1
  have hs2:yf.size=2:=hsz
  have hvs:∀v,yf.getD 0 undef=v→yf= #[v,.string (T [c])]:=fun v hv=>by
   rw[←e1,←hv]
   apply Array.ext
   ·simpa using hs2
   ·intro i h1 h2
    rcases (by omega:i=0∨i=1)with rfl|rfl<;>simp[Array.getD,hs2]
  have fin:∀(e:Ending) (w':World),(e=.returned (.string (T (jC c ws)))∧Below w.heap.size w w')→∃(v:Value) (cs:List Value) (On Fr:Nat→Prop),e=.returned v∧(V.str (T (jC c ws))).reg cs v∧Rep Tryz.prog.cellsOf w' (fun b=>F b∨Fr b) (.str (T (jC c ws))) cs On∧(∀b,On b∨Fr b→w.heap.size≤b∧b<w'.heap.size)∧(∀b,On b→¬Fr b)∧BelowD w.heap.size w w':=by
   rintro e w' ⟨rfl,hb⟩
   exact⟨_,[_],fun _=>False,fun _=>False,rfl,rfl,.str _ _,fun b hb=>hb.elim False.elim False.elim,fun b hb=>hb.elim,⟨hb.os,hb.tape,⟨hb.output,zn 0⟩,hb.size,hb.block⟩⟩
  obtain⟨cs,k1,k2⟩:=hv 0 _ rfl
  have hT:∀w:By,(T w).data.toList=w:=fun w=>by simp[T]
  have hmm:(ws.map T).map (·.data.toList)=ws:=by
   rw[List.map_map]
   conv=>rhs;rw[←List.map_id ws]
   exact qU fun w _=>hT w
  have hj:Lib.join ((ws.map T).map (·.data.toList)) (T [c]).data.toList=jC c ws:=by
   rw[hmm,hT,znP]
  generalize hzs:Zs ws=zs at k2
  cases k2 with
  |fz0 e d a cap O=>
   have hw:ws=[]:=by
    cases ws with
    |nil=>rfl
    |cons x l=>simp[Zs]at hzs
   rw[hvs _ k1]
   refine(Any.strings_Join_none zAO zyd a cap (T [c]) w).mono fun e w' hw2=>fin e w' ⟨?_,?_⟩
   ·rw[hw2.1,hw];rfl
   ·rw[hw2.2];exact Below.refl _ _
  |fz e d es b off len cap cs0 O hl hc hm hFb hcs hr=>
   subst hzs
   rw[uw]at hl hc hcs
   rw[hvs _ k1]
   have hcz: Tryz.prog.cellsOf 9 =1:=by kernel_rfl
   have hx:(ws.map T).length=len:=by rw[zy,hl]
   have hcells:∀(j:Nat) (x:ByteArray),(ws.map T)[j]? =some x→w.cell? ⟨b,off+j,none⟩=some (.string x):=fun j x hx=>by
    rw[zJ]at hx
    cases hwj:ws[j]? with
    |none=>rw[hwj]at hx;cases hx
    |some y=>
     rw[hwj]at hx
     simp only[Option.map_some,za]at hx
     subst hx
     have hjl:=(List.getElem?_eq_some_iff.1 hwj).1
     have hrep:=hr j (.str (T y)) (by rw[Zs,zJ,hwj];rfl)
     have hcj:cs0 j=[.string (T y)]:=by
      generalize cs0 j=z at hrep
      cases hrep
      rfl
     have h2:=(hcs j hjl).2 0 (.string (T y)) (by rw[hcj];rfl)
     rw[hcz,Jf,Nat.add_zero]at h2
     exact h2
   have key:=Any.strings_Join zAO zyd b off cap (ws.map T) (T [c]) w hcells (hF b hFb) (by rw[zy];omega) (by rw[zy];exact hc) (by rw[hj];omega)
   rw[hx,hj]at key
   exact key.mono fun e w' h=>fin e w' ⟨h.1,h.2⟩
 ·cases h
end Go.Ax
namespace Go.Ax
open Go.Proofs
theorem zhq:yZ Tryz.prog 63 (Kk YZ zgi):=by
 intro args ps r h hp
 unfold Kk at h
 split at h
 ·rename_i n
  simp only[za,zb]at h
  obtain⟨rfl,rfl⟩:=h
  obtain⟨h0,h1⟩:zgi n:=(zo.1 hp).1
  generalize zpP:zAR=zCd
  generalize zpw:zwE=zB5
  refine zO (T:=tab) (B:=[(85,ztw zCd zB5)]) (Bi:=[]) [0,2] Tryz.func63 rfl rfl (by kernel_rfl) (zh rfl) mixed yd (by subst zpP zpw;exact(zt zDn zH)) (by subst zpP zpw;exact zE) (by kernel_rfl) ?_
  intro L lp rr hL hr hf hlp
  conv=>cbv
  exact⟨by rw[←zpw];exact⟨rfl,h0,h1⟩,by rw[hr,←zpP];rfl⟩
 ·cases h
def ziJ(es:List V)(s:ByteArray):ByteArray:=T (jC (s.data.toList.getD 0 0) ((yV es).map kC))
def zre(es:List V)(s:ByteArray):Prop:=∃xs c,es=I xs∧s=T [c]∧xs.length≤3000000∧okN xs
def zod(f:List V→ByteArray→ByteArray)(q:List V→ByteArray→Prop):zQ:=fun
 |[.slc false 2 (.int .i64 0) a0,.str a1]=>some ([q a0 a1],.str (f a0 a1))
 |_=>none
theorem zce:yZ Tryz.prog 40 (zod ziJ zre):=by
 intro args ps r h hp
 unfold zod at h
 split at h
 ·rename_i a0 s
  simp only[za,zb]at h
  obtain⟨rfl,rfl⟩:=h
  obtain⟨xs,c,hxs,hs,hxl,hok⟩:zre a0 s:=(zo.1 hp).1
  obtain⟨n,hn⟩:∃n:Int,n=xs.length:=⟨_,rfl⟩
  have hal:(a0.length:Int)=n:=by rw[hxs,zm,hn]
  have hg:∀t:Nat,a0.getD t (.int .i64 0)=.int .i64 (xs.getD t 0):=fun t=>by rw[hxs,zT]
  have hf0:ziJ a0 s=T (jC c (xs.map kC)):=by rw[ziJ,hxs,zB,hs];rfl
  generalize kf:YZ=Zd
  generalize ZQ:zgi=zaE
  generalize zfR:zs2=zot
  generalize zfO:zwD=zt3
  refine zO (T:=tab) (B:=[(63,Kk Zd zaE),(39,zn9 zot zt3)]) (Bi:=[]) [0,1,4,5,7,9,10,11] Tryz.func40 rfl rfl (by kernel_rfl) (zh rfl) mixed yd (by subst kf ZQ zfR zfO;exact(zt zhq (zt zxO zH))) (by subst kf ZQ zfR zfO;exact zE) (by kernel_rfl) ?_
  intro L lp rr hL hr hf hlp
  conv=>cbv
  refine hlp (List V×Int) _ _ _ [1,5,9,10,11] (fun x=>[(1,none,.val (.str s)),(5,none,.val (.slc true 9 (.str ⟨#[]⟩) x.1)),(9,none,.val (.slc false 2 (.int .i64 0) a0)),(10,none,.val (.int .i64 n)),(11,none,.val (.int .i64 x.2))])
   (fun x=>0≤x.2∧x.2≤n∧x.1=Zs ((xs.take x.2.toNat).map kC)) (fun x=>(n-x.2).toNat) (([],0)) (by subst hL;rw[←hal];rfl) ?_ ?_
  ·exact⟨by simp,by simp only;omega,rfl⟩
  rintro⟨vw,x⟩ ⟨x0,x1,hv⟩ hfx ag hag
  simp only at x0 x1 hv
  have hvl:vw.length=x.toNat:=by rw[hv,uw,zy,zD];omega
  have Ed:∀z,Zd z=T (kC z):=fun z=>by rw[←kf];rfl
  conv=>cbv
  simp only[zr hL,sQ,hal,hg,hvl,Ed]
  refine⟨fun h=>?_,fun h=>?_⟩
  ·have htk:Zs ((xs.take (x+1).toNat).map kC)=vw++[V.str (T (kC (xs.getD x.toNat 0)))]:=by
    rw[hv,yj x0,zC (by omega),zd,ze (by omega),qD,←zgF]
    rfl
   have hq:=hok (xs.getD x.toNat 0) (by
    rw[zd,ze (by omega)]
    exact ye _)
   rw[zl (n:=x+1) (by omega) (by omega),←htk]
   refine⟨x0,h,by rw[←ZQ];exact hq,rfl,by simp only[zi,zq];omega,fun z hz=>by(simp only[zX]at hz;subst hz;rfl),?_⟩
   exact hag (_,x+1) ⟨by simp only;omega,by simp only;omega,rfl⟩ (by simp only;omega)
  ·have hxe:x.toNat=xs.length:=by omega
   rw[hxe,zu (zn _)]at hv
   have hfz:V.frzs vw=Zs (xs.map kC):=by rw[hv,zvK]
   rw[hfz,hs]
   have hlen:=KU c 9 (xs.map kC) fun w hw=>by
    obtain⟨z,hz,rfl⟩:=yD.1 hw
    exact Ki (hok z hz)
   rw[zy]at hlen
   refine⟨by rw[←zfO];exact⟨_,c,rfl,rfl,by rw[zy];omega,by omega⟩,?_⟩
   rw[hr,hf0,←zfR,zo7]
 ·cases h
theorem zlu:yZ Tryz.prog 38 (ziR zbm zih):=by
 intro args ps r h hp
 unfold ziR at h
 split at h
 ·rename_i a0
  simp only[za,zb]at h
  obtain⟨rfl,rfl⟩:=h
  obtain⟨xs,hxs,hne,hxl,hok⟩:zih a0:=(zo.1 hp).1
  obtain⟨n,hn⟩:∃n:Int,n=xs.length:=⟨_,rfl⟩
  have hal:a0.length=xs.length:=by rw[hxs,zm]
  have hpos:0<xs.length:=List.length_pos_iff.2 hne
  have hf0:zbm a0=T (uv xs):=by rw[zbm,hxs,zB]
  have hg:∀t:Nat,a0.getD t (.int .i64 0)=.int .i64 (xs.getD t 0):=fun t=>by rw[hxs,zT]
  have hdr:a0.drop 1=I (xs.drop 1):=by rw[hxs,I,I,zbq]
  have h0:=hok (xs.getD 0 0) (by
   rw[zd,ze hpos]
   exact ye _)
  generalize kf:YZ=Zd
  generalize ZQ:zgi=zaE
  generalize zdq:ziJ=zh0
  generalize zdi:zre=zp6
  refine zO (T:=tab) (B:=[(63,Kk Zd zaE),(40,zod zh0 zp6)]) (Bi:=[]) [0,1,2,3] Tryz.func38 rfl rfl (by kernel_rfl) (zh rfl) mixed yd (by subst kf ZQ zdq zdi;exact(zt zhq (zt zce zH))) (by subst kf ZQ zdq zdi;exact zE) (by kernel_rfl) ?_
  intro L lp rr hL hr hf hlp
  have Ed:∀z,Zd z=T (kC z):=fun z=>by rw[←kf];rfl
  conv=>cbv
  simp only[zr hL,sQ,hal,hg,hdr,Ed,←hn]
  have htk:(a0.take n.toNat).drop 1=I (xs.drop 1):=by rw[zu (by omega),hdr]
  have Ej:zh0 (I (xs.drop 1)) ⟨⟨[44]⟩⟩=T (jC 44 ((xs.drop 1).map kC)):=by rw[←zdq,ziJ,zB];rfl
  have hokd:okN (xs.drop 1):=fun y hy=>hok y (ul hy)
  have hd0:=Ki h0
  have hjl:=KU 44 9 ((xs.drop 1).map kC) fun w hw=>by
   obtain⟨z,hz,rfl⟩:=yD.1 hw
   exact Ki (hokd z hz)
  rw[zy,zP]at hjl
  rw[htk,zN,Ej,show(⟨⟨[40]⟩⟩:ByteArray)=T [40]from rfl,show(⟨⟨[59]⟩⟩:ByteArray)=T [59]from rfl,show(⟨⟨[41]⟩⟩:ByteArray)=T [41]from rfl]
  simp only[Ju,qy,zk,zi,zq]
  refine⟨yN _,by omega,by rw[←ZQ];exact h0,by omega,fun h=>⟨by omega,by omega,by omega,by rw[←zdi];exact⟨_,44,rfl,rfl,by rw[zP];omega,hokd⟩,by omega,by omega,by omega,?_⟩,fun h=>⟨by omega,?_⟩⟩
  ·rw[hr,hf0,uv]
   have:∃y r,xs.drop 1=y::r:=by
    cases e:xs.drop 1 with
    |nil=>
     have:=congrArg List.length e
     rw[zP,zq]at this
     omega
    |cons y r=>exact⟨y,r,rfl⟩
   obtain⟨y,r,e⟩:=this
   rw[e,zf5]
   simp
  ·have e:xs.drop 1=[]:=jF (by omega)
   rw[hr,hf0,uv,e,ZH]
   simp
 ·cases h
def zaV(ms:List (List Int))(n:Nat):List Int:=(List.range n).flatMap fun i=>(ms.getD i []).drop (i+1)
theorem zlx(ms:List (List Int))(n:Nat):zaV ms (n+1)=zaV ms n++(ms.getD n []).drop (n+1):=by
 rw[zaV,zaV,ux,js]
 simp
theorem zh4{ms:List (List Int)}{n:Nat}(h:TabP ms n):∀i,i≤n→zaV ms i=kU ms n i
 |0,_=>by simp[zaV,kU]
 |i+1,hi=>by
  rw[zlx,QA,zh4 h i (by omega)]
  congr 1
  have hl:=(h.row i (by omega)).1
  have he:=zmt (ms.getD i []) 0
  rw[hl]at he
  rw[Zm,zbq]
  congr 1
def zhz(a:List V):List V:=I (zaV (Ka a) (Ka a).length)
def zoN(a:List V):Prop:=∃ms,a=II false ms∧TabP ms ms.length∧ms.length≤6
theorem zrU:yZ Tryz.prog 41 (zlb zhz zoN):=by
 intro args ps r h hp
 unfold zlb at h
 split at h
 ·rename_i a0
  simp only[za,zb]at h
  obtain⟨rfl,rfl⟩:=h
  obtain⟨ms,hms,htab,hl6⟩:zoN a0:=(zo.1 hp).1
  obtain⟨n,hn⟩:∃n:Int,n=ms.length:=⟨_,rfl⟩
  have hal:(a0.length:Int)=n:=by rw[hms,yz,hn]
  have gm:∀k,a0.getD k (.slc false 2 (.int .i64 0) [])=.slc false 2 (.int .i64 0) (I (ms.getD k [])):=fun k=>by rw[hms,jf]
  have hf0:zhz a0=I (zaV ms ms.length):=by rw[zhz,hms,qC]
  refine zO (T:=tab) (B:=[]) (Bi:=[]) [0,2,3,4,5,7,8,9] Tryz.func41 rfl rfl (by kernel_rfl) (zh rfl) mixed yd (by exact zH) (by exact zE) (by kernel_rfl) ?_
  intro L lp rr hL hr hf hlp
  conv=>cbv
  refine hlp (List V×Int) _ _ _ [3,7,8,9] (fun x=>[(3,none,.val (.slc true 2 (.int .i64 0) x.1)),(7,none,.val (.slc false 44 (.slc false 2 (.int .i64 0) []) a0)),(8,none,.val (.int .i64 n)),(9,none,.val (.int .i64 x.2))])
   (fun x=>0≤x.2∧x.2≤n∧x.1=I (zaV ms x.2.toNat)) (fun x=>(n-x.2).toNat) (([],0)) (by subst hL;rw[←hal];rfl) ?_ ?_
  ·exact⟨by simp,by simp only;omega,rfl⟩
  rintro⟨vl,x⟩ ⟨x0,x1,hv⟩ hfx ag hag
  simp only at x0 x1 hv
  obtain⟨row,hrow⟩:∃row,row=ms.getD x.toNat []:=⟨_,rfl⟩
  obtain⟨vr,hvr⟩:∃vr,vr=I row:=⟨_,rfl⟩
  have gm2:a0.getD x.toNat (.slc false 2 (.int .i64 0) [])=.slc false 2 (.int .i64 0) vr:=by rw[gm,hvr,hrow]
  conv=>cbv
  simp only[zr hL,sQ,hal,gm2]
  have hul:∀i,i≤ms.length→(zaV ms i).length≤ms.length*i:=fun i hi=>by rw[zh4 htab i hi];exact zeV _ _ i
  refine⟨fun h=>?_,fun h=>?_⟩
  ·have hw1:=zl (n:=x+1) (by omega) (by omega)
   have hrl:row.length=ms.length:=by rw[hrow];exact(htab.row _ (by omega)).1
   have hvl:vr.length=row.length:=by rw[hvr,zm]
   have hdr:(vr.take ((vr.length:Int)).toNat).drop (x+1).toNat=I (row.drop (x+1).toNat):=by
    rw[zV,List.take_length,hvr,I,I,zbq]
   have hll:vl.length≤36:=by
    rw[hv,zm]
    have:=hul x.toNat (by omega)
    have:=JK hl6 (show x.toNat≤6 by omega)
    omega
   rw[hw1,hdr]
   refine⟨x0,h,by rw[hvr];exact zkQ false false row,by omega,by omega,yN _,zfM _,by rw[zm,zP];omega,zhS _,?_⟩
   refine hag (_,x+1) ⟨by simp only;omega,by simp only;omega,?_⟩ (by simp only;omega)
   simp only[yj x0]
   rw[zlx,hv,hrow,I,I,I,qD]
  ·rw[hr,hf0,hv,show x.toNat=ms.length by omega]
 ·cases h
theorem zrE(ms:List (List Int)){n:Nat}(h:2≤n):∀i,1≤i→kU ms n i≠[]
 |0,h1=>by omega
 |i+1,_=>by
  rw[QA]
  intro e
  obtain⟨e1,e2⟩:=List.append_eq_nil_iff.1 e
  cases i with
  |zero=>
   have:=congrArg List.length e2
   rw[Zm,zy,zP,kS]at this
   simp at this
   omega
  |succ i=>exact zrE ms h (i+1) (by omega) e1
theorem zml:yZ Tryz.prog 15 (zdF Jq zgj):=by
 intro args ps r h hp
 unfold zdF at h
 split at h
 ·rename_i a0 a1
  simp only[za,zb]at h
  obtain⟨rfl,rfl⟩:=h
  obtain⟨⟨⟨bs,hbs,hb1,hb2⟩,⟨ms,hms,hm1,hm2⟩⟩,hcv,hlen⟩:zgj a0 a1:=(zo.1 hp).1
  have hf0:Jq a0 a1=T (YI bs ms):=by rw[Jq,hbs,hms,ka,qC]
  rw[hbs,ka]at hlen
  rw[ud,hbs,hms,ka,qC]at hcv
  have hcv:=Jb.1 hcv
  have g1:V.frzs a0=a0:=by rw[hbs,jh]
  have g2:V.frzs a1=a1:=by rw[hms,jg]
  have hbl:a0.length=bs.length:=by rw[hbs,YL]
  have hml:a1.length=ms.length:=by rw[hms,yz]
  have gb:∀k,a0.getD k (.agg [.slc false 2 (.int .i64 0) []])=.agg [.slc false 2 (.int .i64 0) (I (bs.getD k []))]:=fun k=>by rw[hbs,zdw]
  obtain⟨n,hn⟩:∃n:Int,n=bs.length:=⟨_,rfl⟩
  have n1:=hcv.n1
  have n6:=hcv.n6
  have hmn:ms.length=bs.length:=hcv.tab.len
  have hbk:∀k,k<bs.length→qK (bs.getD k [])=true∧(bs.getD k []).length≤3000000:=fun k hk=>⟨hcv.br k hk,hlen _ (by
   rw[zd,ze hk]
   exact ye _)⟩
  have lb:∀w∈bs.map uv,w.length≤30000012:=fun w hw=>by
   obtain⟨y,hy,rfl⟩:=yD.1 hw
   obtain⟨t,ht,rfl⟩:=ym.1 hy
   have h1:=hbk t ht
   rw[zd,ze ht,qh]at h1
   have:=zpn (zc7 h1.1) (zbB h1.1)
   omega
  generalize JR:zbm=Kw
  generalize JP:zih=zb2
  generalize zky:zhz=zqV
  generalize zkt:zoN=zyY
  generalize zdq:ziJ=zh0
  generalize zdi:zre=zp6
  generalize zfR:zs2=zot
  generalize zfO:zwD=zt3
  refine zO (T:=tab) (B:=[(38,ziR Kw zb2),(41,zlb zqV zyY),(40,zod zh0 zp6),(39,zn9 zot zt3)]) (Bi:=[]) [0,1,2,3,5,6,9,10,11] Tryz.func15 rfl rfl (by kernel_rfl) (zh rfl) mixed yd (by subst JR JP zky zkt zdq zdi zfR zfO;exact(zt zlu (zt zrU (zt zce (zt zxO zH))))) (by subst JR JP zky zkt zdq zdi zfR zfO;exact zE) (by kernel_rfl) ?_
  intro L lp rr hL hr hf hlp
  conv=>cbv
  refine hlp (List V×Int) _ _ _ [1,3,9,10,11] (fun x=>[(1,none,.val (.box 27 (.agg [.slc false 46 (.agg [.slc false 2 (.int .i64 0) []]) a0,.slc false 44 (.slc false 2 (.int .i64 0) []) a1]))),(3,none,.val (.slc true 9 (.str ⟨#[]⟩) x.1)),(9,none,.val (.slc false 46 (.agg [.slc false 2 (.int .i64 0) []]) a0)),(10,none,.val (.int .i64 n)),(11,none,.val (.int .i64 x.2))])
   (fun x=>0≤x.2∧x.2≤n∧x.1=Zs ((bs.take x.2.toNat).map uv)) (fun x=>(n-x.2).toNat) (([],0)) (by subst hL;rw[hn,←hbl];rfl) ?_ ?_
  ·exact⟨by simp,by simp only;omega,rfl⟩
  rintro⟨vw,x⟩ ⟨x0,x1,hv⟩ hfx ag hag
  simp only at x0 x1 hv
  have hvl:vw.length=x.toNat:=by rw[hv,uw,zy,zD];omega
  conv=>cbv
  simp only[zr hL,sQ,g1,g2,hbl,hml,gb,←hn,zcV,zcP,zc9,zN,hvl]
  have Eb:∀k,Kw (I (bs.getD k []))=T (uv (bs.getD k [])):=fun k=>by rw[←JR,zbm,zB]
  have Qb:∀k,k<bs.length→zb2 (I (bs.getD k [])):=fun k hk=>by
   rw[←JP]
   exact⟨_,rfl,zc7 (hbk k hk).1,(hbk k hk).2,zbB (hbk k hk).1⟩
  refine⟨fun h=>?_,fun h=>?_⟩
  ·rw[zl (n:=x+1) (by omega) (by omega),Eb]
   refine⟨x0,h,Qb _ (by omega),rfl,by simp only[zi,zq];omega,fun z hz=>by(simp only[zX]at hz;subst hz;rfl),?_⟩
   refine hag (_,x+1) ⟨by simp only;omega,by simp only;omega,?_⟩ (by simp only;omega)
   simp only[yj x0]
   rw[hv,zC (by omega),zd,ze (by omega),qD,←zgF]
   rfl
  have hxe:x.toNat=bs.length:=by omega
  rw[hxe,zu (zn _)]at hv
  have hfz:V.frzs vw=Zs (bs.map uv):=by rw[hv,zvK]
  obtain⟨us,hus⟩:∃us,us=kU ms bs.length bs.length:=⟨_,rfl⟩
  have Eu:zqV a1=I us:=by
   rw[←zky,zhz,hms,qC,hmn,zh4 hcv.tab _ (zn _),hus]
  have E1:zot (Zs (bs.map uv)) ⟨⟨[32]⟩⟩=T (JJ bs):=by rw[←zfR];exact zo7 _ _
  have E2:zh0 (I us) ⟨⟨[32]⟩⟩=T (QY us):=by rw[←zdq,ziJ,zB];rfl
  have hok:okN us:=fun y hy=>by
   rw[hus,kU]at hy
   obtain⟨a,ha,hy⟩:=YT.1 hy
   rw[yX]at ha
   rw[Zm]at hy
   obtain⟨b,hb,rfl⟩:=yD.1 hy
   have hb:=yX.1 (ul hb)
   have hE:=(hcv.tab.row a ha).2 b hb
   by_cases hab:a=b
   ·rw[hE.1 hab];omega
   ·have:=hE.2 hab;omega
  have l1:=KU 32 30000012 (bs.map uv) lb
  have l2:=zio hok
  have l3:us.length≤36:=by
   rw[hus]
   have:=zeV ms bs.length bs.length
   have:=JK n6 n6
   omega
  rw[zy]at l1
  have l1':(JJ bs).length≤30000013*6:=yI l1 (Qc _ n6)
  rw[hfz,Eu,zN,E1,E2,hxe,show(⟨⟨[124]⟩⟩:ByteArray)=T [124]from rfl]
  simp only[Ju,qy,zk,zi,zq]
  refine⟨by rw[←zfO];exact⟨_,32,rfl,rfl,by rw[zy];omega,by show(JJ bs).length≤_;omega⟩,fun h2=>⟨by rw[←zkt];exact⟨ms,hms,by rw[hmn];exact hcv.tab,by omega⟩,by rw[←zdi];exact⟨us,32,rfl,rfl,by omega,hok⟩,by omega,by omega,?_⟩,fun h2=>?_⟩
  ·rw[hr,hf0,YI,←hus,if_neg (fun e=>zrE ms (n:=bs.length) (by omega) bs.length (by omega) (by rw[←hus];exact(zbw us).1 e))]
   rfl
  ·have hb1:bs.length=1:=by omega
   have hu0:us=[]:=by
    rw[hus,hb1,QA,zql]
    simp[kU]
   rw[hr,hf0,YI,←hus,if_pos ((zbw us).2 hu0),yh]
 ·cases h
noncomputable def zfp(a b:List V):ByteArray×Int:=bif ud a b then(Jq a b,0)else(⟨⟨[]⟩⟩,1)
def zhL(f:List V→List V→ByteArray×Int)(q:List V→List V→Prop):zQ:=fun
 |[.agg [.slc false 46 (.agg [.slc false 2 (.int .i64 0) []]) a0,.slc false 44 (.slc false 2 (.int .i64 0) []) a1]]=>some ([q a0 a1],.tup [.str ((f a0 a1).1),.int .i64 ((f a0 a1).2)])
 |_=>none
theorem zr7{a b:List V}(hq:q_C a b)(h:ud a b=true):zgj a b:=by
 obtain⟨⟨bs,hbs,hb1,hb2⟩,⟨ms,hms,hm1,hm2⟩⟩:=id hq
 refine⟨hq,h,fun xs hx=>?_⟩
 rw[hbs,ka]at hx
 rw[ud,hbs,hms,ka,qC]at h
 obtain⟨t,ht,rfl⟩:=ym.1 hx
 have:=(Jb.1 h).br t ht
 rw[zd,ze ht]at this
 have:=(Kl this).len
 simp only[qh]at this
 omega
theorem zmm:yZ Tryz.prog 6 (zhL zfp q_C):=by
 intro args ps r h hp
 unfold zhL at h
 split at h
 ·rename_i a0 a1
  simp only[za,zb]at h
  obtain⟨rfl,rfl⟩:=h
  have hq:q_C a0 a1:=(zo.1 hp).1
  obtain⟨⟨bs,hbs,hb1,hb2⟩,⟨ms,hms,hm1,hm2⟩⟩:=id hq
  have g1:V.frzs a0=a0:=by rw[hbs,jh]
  have g2:V.frzs a1=a1:=by rw[hms,jg]
  generalize uV:ud=Kn
  generalize Yp:q_C=zaF
  generalize ZR:Jq=zaH
  generalize JO:zgj=zeR
  refine zO (T:=tab) (B:=[(14,zgz Kn zaF),(15,zdF zaH zeR)]) (Bi:=[]) [0,1,2,3] Tryz.func6 rfl rfl (by kernel_rfl) (zh rfl) mixed yd (by subst uV Yp ZR JO;exact(zt zhr (zt zml zH))) (by subst uV Yp ZR JO;exact zE) (by kernel_rfl) ?_
  intro L lp rr hL hr hf hlp
  conv=>cbv
  simp only[zr hL,sQ,g1,g2]
  subst uV Yp ZR JO
  refine⟨hq,fun h=>?_,fun h=>⟨zr7 hq h,?_⟩⟩
  ·rw[hr,zfp,h];rfl
  ·rw[hr,zfp,h];rfl
 ·cases h
theorem zmj:yZ Tryz.prog 7 (zhL zfp q_C):=by
 intro args ps r h hp
 unfold zhL at h
 split at h
 ·rename_i a0 a1
  simp only[za,zb]at h
  obtain⟨rfl,rfl⟩:=h
  have hq:q_C a0 a1:=(zo.1 hp).1
  obtain⟨⟨bs,hbs,hb1,hb2⟩,⟨ms,hms,hm1,hm2⟩⟩:=id hq
  have g1:V.frzs a0=a0:=by rw[hbs,jh]
  have g2:V.frzs a1=a1:=by rw[hms,jg]
  generalize uV:ud=Kn
  generalize Yp:q_C=zaF
  generalize ZR:Jq=zaH
  generalize JO:zgj=zeR
  refine zO (T:=tab) (B:=[(16,zgz Kn zaF),(17,zdF zaH zeR)]) (Bi:=[]) [0,1,2,3] Tryz.func7 rfl rfl (by kernel_rfl) (zh rfl) mixed yd (by subst uV Yp ZR JO;exact(zt zjv (zt zhf zH))) (by subst uV Yp ZR JO;exact zE) (by kernel_rfl) ?_
  intro L lp rr hL hr hf hlp
  conv=>cbv
  simp only[zr hL,sQ,g1,g2]
  subst uV Yp ZR JO
  refine⟨hq,fun h=>?_,fun h=>⟨zr7 hq h,?_⟩⟩
  ·rw[hr,zfp,h];rfl
  ·rw[hr,zfp,h];rfl
 ·cases h
end Go.Ax
