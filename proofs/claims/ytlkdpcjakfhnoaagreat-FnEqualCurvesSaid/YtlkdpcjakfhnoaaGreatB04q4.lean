import Derived.Test.YtlkdpcjakfhnoaaGreatB03q4
import Derived.Shelf.SortM.Plain
import Derived.Shelf.SortM.SortNone
import Derived.Test.YtlkdpcjakfhnoaaGreatB02q4
import Derived.Test.YtlkdpcjakfhnoaaGreatB01q4
set_option linter.all false
set_option maxRecDepth 100000
set_option maxHeartbeats 4000000
open Bool renaming and_eq_false_iff→jT,and_eq_true→zh,false_eq_true→yX
open Int renaming le_refl→Zi,natCast_nonneg→ka,toNat_natCast→zC
open List renaming all_eq_true→yI,append_assoc→yf,append_nil→yw,cons_append→zV,drop_drop→uZ,drop_of_length_le→kd,drop_zero→uz,eq_nil_of_length_eq_zero→yC,ext_getElem?→yS,find?_range_eq_some→Zv,getD_cons_succ→qG,getD_cons_zero→jb,getD_eq_getElem?_getD→zd,getElem?_append_left→yM,getElem?_append_right→yn,getElem?_drop→ye,getElem?_eq_getElem→ze,getElem?_eq_none→zI,getElem?_eq_some_iff→zn,getElem?_map→zH,getElem?_replicate→jV,getElem?_set→Jy,getElem_mem→ya,idxOf_append→ze1,idxOf_lt_length_iff→zax,length_append→zk,length_cons→zi,length_drop→yx,length_nil→zr,length_pos_iff→QG,length_replicate→zT,length_reverse→QF,length_set→yj,length_singleton→qn,length_tail→YZ,length_take→zL,map_cons→qv,mem_append→yU,mem_cons→zE,mem_cons_of_mem→zA,mem_iff_getElem→qk,mem_map→jO,mem_range→kn,mem_singleton→yp,nil_append→qQ,nodup_nil→zik,not_mem_nil→Kr,replicate_append_replicate→jq,replicate_succ→yE,replicate_succ'→jo,replicate_zero→QE,set_append_right→uY,sum_cons→KE,take_append_drop→qK,take_succ_cons→uJ
open List.cons renaming injEq→ku
open Nat renaming add_comm→Yl,add_div_right→zbf,add_mod_right→zbe,add_mul→jn,add_sub_cancel→qU,add_zero→yr,div_add_mod→Zs,div_eq_of_lt→zgw,dvd_refl→zgv,gcd_add_mul_right_right→JZ,gcd_comm→uO,gcd_dvd_left→Kq,gcd_pos_of_pos_left→uC,gcd_self_add_right→Jq,le_of_ble_eq_true→zg,le_refl→zt,lt_or_ge→zcZ,mod_eq_of_lt→YY,mul_comm→kX,mul_le_mul_right→yZ,sub_self→jA,sub_zero→Zr,zero_le→Jp
open Option.some renaming injEq→za
open Prod.mk renaming injEq→zb
/-
 slices.Sort at lists of numbers,out of the shelf's contract. No conditions but those of the contract.
-/
namespace Go.Ax
open Go.Proofs Go.Sort Go.RowKit
def srt(xs:List Int):List Int:=xs.mergeSort fun x y=>decide (x≤y)
def zjh(es:List V):List V:=I (srt (qb es))
def zp7(f1:List V→List V)(q:List V→Prop):jz:=fun
 |[.slc true 2 (.int .i64 0) a0]=>some ([q a0],.tup [],.slc true 2 (.int .i64 0) (f1 a0))
 |_=>none
theorem zln(xs:List Int):(srt xs).length=xs.length:=List.length_mergeSort _
theorem zDB:zcY Tryz.prog 76 0 (zp7 zjh jU):=by
 intro args ps r y h hp
 unfold zp7 at h
 split at h
 ·rename_i a0
  simp only[za,zb]at h
  obtain⟨rfl,rfl,rfl⟩:=h
  obtain⟨⟨xs,hxs⟩,hl⟩:jU a0:=(zl.1 hp).1
  have hxl:a0.length=xs.length:=by rw[hxs,zj]
  refine⟨⟨_,Tryz.func76,by kernel_rfl,rfl⟩,⟨_,rfl,by rw[hxs,zjh,zq];exact Sh.ints (zln xs).symm,fun h=>absurd h (by decide)⟩,fun yg w F Oj css hsz hv hF hO=>?_⟩
  obtain⟨hreg,hrep⟩:=hv 0 _ rfl
  rw[if_pos rfl]at hrep
  have hvs:yg= #[yg.getD 0 undef]:=by
   apply Array.ext
   ·simpa using hsz
   ·intro i h1 h2
    have:i=0:=by simp at h2;omega
    subst this
    simp[Array.getD,show 0<yg.size by omega]
  have hreg':yg.getD 0 undef=(css 0).headD undef:=hreg
  generalize css 0=cs0 at*
  generalize yg.getD 0 undef=v0 at*
  cases hrep with
  |own0=>
   have hxn:xs=[]:=by
    cases xs with
    |nil=>rfl
    |cons x l=>simp[I]at hxs
   have hv0:v0=.slice none 0 0:=hreg'
   rw[hvs,hv0]
   intro cs
   obtain⟨e,w',fr,⟨k1,k2⟩,k3⟩:=AnyM.slices_Sort_int_none zBY none 0 w cs
   refine⟨e,w',fr,⟨.tuple #[],[.tuple #[]],fun _=>False,fun _=>False,fun _=>False,k1,rfl,.tup [] #[] (fun _=>[]) (fun _ _=>False) _ rfl (fun _ _ h=>h) (fun _ _ _ _ h=>h.elim) (fun i x h=>by simp at h) (fun i x h=>by simp at h),by rw[hv0]at hreg;rw[zjh,hxs,zq,hxn];exact hreg,?_,?_⟩,k3⟩
   ·rw[zjh,hxs,zq,hxn]
    have hn:I (srt [])=[]:=by simp[srt]
    rw[hn]
    exact .own0 _ _ _
   ·rw[k2]
    exact⟨zt _,rfl,rfl,⟨rfl,zt _⟩,fun _ _ _=>rfl,fun b hb=>hb.elim False.elim False.elim,fun b hb=>hb.elim,fun b hb=>hb.elim,fun b hb=>hb.elim,fun _ _ _ _ _ _ h=>h⟩
  |own e d es b len cap cur cs Os O hb hcz hln hc hm hOb hOs hdis hcs hr=>
   have hv0:v0=.slice (some ⟨b,0,none⟩) len cap:=hreg'
   have hbs:b<w.heap.size:=(Array.getElem?_eq_some_iff.1 hb).1
   have hce: Tryz.prog.cellsOf 2 =1:=cz1
   have hcell:∀i,i<xs.length→cs i=[.int .i64 (xs.getD i 0)]:=fun i hi=>by
    refine zv9 (hr i _ ?_)
    rw[hxs,I,zH,ze hi,zd,ze hi]
    rfl
   have hH:Go.Sort.Holds (Value.int .i64) w b 0 xs.toArray:=fun j hj=>by
    have hj':j<xs.length:=by simpa using hj
    refine⟨?_,?_⟩
    ·have h1:=(hcs j (by omega)).2 0 (.int .i64 (xs.getD j 0)) (by rw[hcell j hj'];rfl)
     rw[hce]at h1
     rw[show(0:Nat)+j=j*1+0 by omega,h1]
     refine congrArg (fun z=>some (Value.int .i64 z)) ?_
     exact(zsa hj').symm
    ·simp[World.frozen?,hb]
   have hsz2:xs.length<4611686018427387904:=by omega
   have hlx:len=xs.length:=by rw[hln,hxl]
   rw[hvs,hv0,hlx]
   intro cs1
   obtain⟨e1,w',fr,⟨k1,n,os,k2⟩,k3⟩:=AnyM.slices_Sort_int zBY b 0 cap xs w hH hbs hsz2 cs1
   have hH1:Go.Sort.Holds (Value.int .i64) (Sort.ahead w n) b 0 xs.toArray:=hH
   obtain⟨ys,hys⟩:∃ys,ys=srt xs:=⟨_,rfl⟩
   have hyl:ys.length=xs.length:=by rw[hys,zln]
   have hyd:(xs.mergeSort fun x y=>decide (x≤y))=ys:=hys.symm
   rw[hyd]at k2
   have hH2:=holds_putRow (Value.int .i64) (Sort.ahead w n) b 0 xs.toArray ys.toArray hH1 (by simp[hyl])
   have hb2:w'.heap[b]? =some (.cells (putCells (Value.int .i64) 0 ys.toArray cur) 2 (0,0)):=by
    rw[k2,heap_grow_old _ _ (by rw[size_putRow];exact hbs)]
    exact zmy (w:=Sort.ahead w n) hb _
   refine⟨e1,w',fr,⟨.tuple #[],[.tuple #[]],fun _=>False,fun _=>False,fun x=>x=b,k1,rfl,.tup [] #[] (fun _=>[]) (fun _ _=>False) _ rfl (fun _ _ h=>h) (fun _ _ _ _ h=>h.elim) (fun i x h=>by simp at h) (fun i x h=>by simp at h),?_,?_,?_⟩,k3⟩
   ·exact rfl
   ·rw[zjh,hxs,zq,←hys]
    refine .own _ _ _ b _ cap (putCells (Value.int .i64) 0 ys.toArray cur) (fun i=>[.int .i64 (ys.getD i 0)]) (fun _ _=>False) _ hb2 ?_ (by rw[zj];omega) (by rw[zj];omega) hm rfl (fun _ _ h=>h.elim) (fun _ _ _ _ h=>h.elim) (fun i hi=>?_) (fun i x hx=>?_) (fun h=>by cases h)
    ·rw[putCells,Array.size_mapIdx];exact hcz
    ·rw[zj]at hi
     refine⟨by rw[hce];rfl,fun k v hk=>?_⟩
     cases k with
     |succ k=>simp at hk
     |zero=>
      simp only[List.getElem?_cons_zero,za]at hk
      subst hk
      have h1:=(hH2 i (by simpa using hi)).1
      rw[hce,k2,cell?_grow _ _ _ (by rw[size_putRow];exact hbs),show i*1+0=0+i by omega,h1]
      refine congrArg (fun z=>some (Value.int .i64 z)) ?_
      exact zsa hi
    ·rw[I,zH]at hx
     cases hyi:ys[i]? with
     |none=>rw[hyi]at hx;cases hx
     |some z=>
      rw[hyi]at hx
      simp only[Option.map_some,za]at hx
      subst hx
      rw[zd,hyi]
      exact .int _ _ _
   ·refine⟨by rw[k2,size_grow,size_putRow];exact Nat.le_add_right _ _,by rw[k2];rfl,by rw[k2];rfl,by rw[k2];exact⟨rfl,Nat.le_add_right _ _⟩,fun k hk hx=>?_,fun b hb=>hb.elim False.elim False.elim,fun x hx=>.inl (by rw[hx];exact hOb),fun b hb=>hb.elim,fun b hb=>⟨fun h=>h,fun h=>h⟩,fun _ k off u hx hu hcu=>?_⟩
    ·rw[k2,heap_grow_old _ _ (by rw[size_putRow];exact hk),zh3 (fun h=>hx (by rw[h];exact hOb))]
     rfl
    ·have hks:=hO k hx
     rw[k2,cell?_grow _ _ _ (by rw[size_putRow];exact hks.1),cell?_putRow_other]
     ·exact hcu
     ·by_cases hkb:k=b
      ·by_cases hof:off<xs.length
       ·exfalso
        have h1:=(hH off (by simpa using hof)).1
        rw[hkb]at hcu
        rw[show(0:Nat)+off=off by omega]at h1
        rw[h1]at hcu
        simp only[za]at hcu
        rw[←hcu]at hu
        simp[QA]at hu
       ·refine .inr (.inr ?_)
        simp only[List.size_toArray]
        omega
      ·exact .inl hkb
 ·cases h
end Go.Ax
namespace Go.Ax
open Go.Proofs
theorem zDv{xs ys:List Int}(hp:xs.Perm ys)(hs:ys.Pairwise (·< ·)):srt xs=ys:=by
 refine List.Perm.eq_of_pairwise (le:=fun x y=>x≤y) (fun a b _ _ h1 h2=>by omega) ?_ (hs.imp fun h=>by omega) ((List.mergeSort_perm _ _).trans hp)
 have h:=List.pairwise_mergeSort (le:=fun x y:Int=>decide (x≤y)) (fun a b c h1 h2=>by simp only[decide_eq_true_eq]at*;omega) (fun a b=>by simp only[Bool.or_eq_true,decide_eq_true_eq];omega) xs
 exact h.imp fun h=>by simpa using h
theorem zCz{xs:List Int}{x:Int}:x∈srt xs↔x∈xs:=(List.mergeSort_perm _ _).mem_iff
theorem KC.srt{ls:List Int}(h:KC ls):srt ls=yq ls.length:=zDv h.perm.symm (zep _)
theorem zy7{ls:List Int}(h:∀t:Nat,t<ls.length→(Go.Ax.srt ls).getD t 0=t):KC ls:=fun t ht=>by
 have h1:=h t ht
 rw[←zCz,←h1]
 rw[zd,ze (by rw[zln];exact ht)]
 exact ya _
end Go.Ax
namespace Go.Ax
open Go.Proofs
theorem ClP.low{P S Q:List Int}(h:ClP P S Q){i:Nat}(hi:i<P.length): -1≤P.getD i 0∧P.getD i 0<i∧-1≤S.getD i 0∧(0<i→S.getD i 0<i)∧(0<i→0≤P.getD i 0)∧(i=0→P.getD i 0= -1∧S.getD i 0= -1):=by
 obtain⟨h1,h2,h3,h4⟩:=zrw (i:=i) (fun t ht=>h.place t (by omega)) i (zt _)
 refine⟨h1,h2,h3,h4,fun h0=>?_,fun h0=>?_⟩
 ·exact((zfX (by omega)).1 (h.place i hi)).1.1
 ·subst h0;exact zfY.1 (h.place 0 hi)
def zeK(a b c:List V):Prop:=q_K a b c∧ClP (qb a) (qb b) (qb c)
theorem zwf{a b c:List V}(h:q_K a b c)(h2:kD a b c=true):zeK a b c:=⟨h,zgb.1 h2⟩
def zlr(P S:List Int)(i:Nat):List Int:=if i=0 then[]else(if 0≤S.getD i 0 then[S.getD i 0]else[])++[P.getD i 0]
def cpx(P S:List Int)(k n:Nat):List (List Int):=qD (fun i=>if i<k then zlr P S i else[]) n
def zyA(f:List V→List V→List V→List V)(q:List V→List V→List V→Prop):zN:=fun
 |[.agg [.slc false 2 (.int .i64 0) a0,.slc false 2 (.int .i64 0) a1,.slc false 2 (.int .i64 0) a2]]=>some ([q a0 a1 a2],.slc true 30 (.slc true 2 (.int .i64 0) []) (f a0 a1 a2))
 |_=>none
def T2(n:Nat)(f:Nat→Nat→Int):List (List Int):=qD (fun i=>qD (f i) n) n
theorem zze{P S Q:List Int}(h:ClP P S Q){k b:Nat}(hk:k<P.length):(b:Int)∈zlr P S k↔P.getD k 0=b∨S.getD k 0=b:=by
 obtain⟨l1,l2,l3,l4,l5,l6⟩:=h.low hk
 rw[zlr]
 by_cases h0:k=0
 ·rw[if_pos h0]
  obtain⟨h1,h2⟩:=l6 h0
  simp only[Kr,false_iff]
  omega
 ·rw[if_neg h0]
  by_cases h1:0≤S.getD k 0
  ·rw[if_pos h1]
   simp only[zV,qQ,zE,Kr,or_false]
   omega
  ·rw[if_neg h1]
   simp only[qQ,zE,Kr,or_false]
   omega
end Go.Ax
namespace Go.Ax
open Go.Proofs
def zmQ(o:List Int)(p x:Int):List Int:=o.set p.toNat (W (o.getD p.toNat 0+x))
def zmP(P S:List Int):Nat→List Int→List Int
 |0,o=>o
 |n+1,o=>
  let o1:=zmQ o (P.getD (n+1) 0) (o.getD (n+1) 0)
  zmP P S n (if 0≤S.getD (n+1) 0 then zmQ o1 (S.getD (n+1) 0) (o1.getD (n+1) 0)else o1)
def zmO(P S:List Int)(i:Nat):List Int:=zmP P S i ((List.replicate P.length 0).set i 1)
theorem zAl(o:List Int)(p x:Int):(zmQ o p x).length=o.length:=yj
theorem zsN(P S:List Int):∀(n:Nat) (o:List Int),(zmP P S n o).length=o.length
 |0,_=>rfl
 |n+1,o=>by
  rw[zmP,zsN P S n]
  split<;>simp only[zAl]
def zuD(f:List V→List V→List V→Int→List V)(q:List V→List V→List V→Int→Prop):zN:=fun
 |[.agg [.slc false 2 (.int .i64 0) a0,.slc false 2 (.int .i64 0) a1,.slc false 2 (.int .i64 0) a2],.int .i64 a3]=>some ([q a0 a1 a2 a3],.slc true 2 (.int .i64 0) (f a0 a1 a2 a3))
 |_=>none
def zoX(a b _:List V)(i:Int):List V:=I (zmO (qb a) (qb b) i.toNat)
def zxI(a b c:List V)(i:Int):Prop:=zeK a b c∧0≤i∧i<a.length
theorem zmS:yT Tryz.prog 88 (zuD zoX zxI):=by
 intro args ps r h hp
 unfold zuD at h
 split at h
 ·rename_i a0 a1 a2 a3
  simp only[za,zb]at h
  obtain⟨rfl,rfl⟩:=h
  obtain⟨hqv,i0,i1⟩:zxI a0 a1 a2 a3:=(zl.1 hp).1
  obtain⟨⟨⟨P,hP⟩,⟨S,hS⟩,⟨Q,hQ⟩⟩,hcl⟩:=id hqv
  rw[hP,hS,hQ,zq,zq,zq]at hcl
  have hpl:a0.length=P.length:=by rw[hP,zj]
  have hsl:a1.length=P.length:=by rw[hS,zj,hcl.sl]
  have gp:∀k,a0.getD k (.int .i64 0)=.int .i64 (P.getD k 0):=fun k=>by rw[hP,zR]
  have gs:∀k,a1.getD k (.int .i64 0)=.int .i64 (S.getD k 0):=fun k=>by rw[hS,zR]
  have hf0:zoX a0 a1 a2 a3=I (zmO P S a3.toNat):=by rw[zoX,hP,hS,zq,zq]
  obtain⟨n,hn⟩:∃n:Int,n=P.length:=⟨_,rfl⟩
  have n1:=hcl.n1
  have n24:=hcl.n24
  have low:=fun t ht=>hcl.low (i:=t) ht
  rw[hpl]at i1
  refine zD (T:=tab) (B:=[]) (Bi:=[]) [0,1,2,4,5,6] Tryz.func88 rfl rfl (by kernel_rfl) (zg rfl) zP zQ (by exact zy) (by exact zu) (by kernel_rfl) ?_
  intro L lp rr hL hr hf hlp
  conv=>cbv
  simp only[zp hL,sQ,zd6,KY,zT,hpl,hsl,←hn]
  refine⟨by omega,Zi _,by omega,i0,by omega,by omega,?_⟩
  obtain⟨vz,hvz⟩:∃vz,vz=I ((List.replicate n.toNat 0).set a3.toNat 1):=⟨_,rfl⟩
  obtain⟨E,hE⟩:∃E,E=zmO P S a3.toNat:=⟨_,rfl⟩
  rw[←hvz]
  refine hlp (List V×Int) _ _ _ [2,5,6] (fun x=>[(2,none,.val (.box 78 (.agg [.slc false 2 (.int .i64 0) a0,.slc false 2 (.int .i64 0) a1,.slc false 2 (.int .i64 0) a2]))),(5,none,.val (.slc true 2 (.int .i64 0) x.1)),(6,none,.val (.int .i64 x.2))])
   (fun x=>0≤x.2∧x.2≤a3∧∃o,x.1=I o∧o.length=P.length∧zmP P S x.2.toNat o=E) (fun x=>x.2.toNat) ((vz,a3)) (by subst hL;rfl) ?_ ?_
  ·refine⟨i0,Zi _,_,hvz,by rw[yj,zT];omega,?_⟩
   rw[hE,hn]
   rfl
  rintro⟨vl,j⟩ ⟨j0,j1,o,hO,hol,hoE⟩ hfx ag hag
  simp only at j0 j1 hO hol hoE
  have hvl:vl.length=P.length:=by rw[hO,zj,hol]
  have go:∀k,vl.getD k (.int .i64 0)=.int .i64 (o.getD k 0):=fun k=>by rw[hO,zR]
  have gset:∀k x,vl.set k (.int .i64 x)=I (o.set k x):=fun k x=>by rw[hO,KY]
  conv=>cbv
  simp only[zp hL,sQ,hpl,hsl,hvl,gp,gs,go,gset,KY,yj,hol]
  rw[zo (n:=j-1) (by omega) (by omega)]
  refine⟨fun h=>?_,fun h=>?_⟩
  ·obtain⟨l1,l2,l3,l4,l5,l6⟩:=low j.toNat (by omega)
   have l4:=l4 (by omega)
   have l5:=l5 (by omega)
   have hst:zmP P S j.toNat o=zmP P S (j-1).toNat (if 0≤S.getD j.toNat 0 then zmQ (zmQ o (P.getD j.toNat 0) (o.getD j.toNat 0)) (S.getD j.toNat 0) ((zmQ o (P.getD j.toNat 0) (o.getD j.toNat 0)).getD j.toNat 0)else zmQ o (P.getD j.toNat 0) (o.getD j.toNat 0)):=by
    rw[show j.toNat=(j-1).toNat+1 by omega]
    rfl
   rw[hoE]at hst
   obtain⟨p,hp0⟩:∃p,p=P.getD j.toNat 0:=⟨_,rfl⟩
   obtain⟨q,hq0⟩:∃q,q=S.getD j.toNat 0:=⟨_,rfl⟩
   simp only[←hp0,←hq0]at l1 l2 l3 l4 l5 hst ⊢
   refine⟨by omega,by omega,by omega,by omega,by omega,by omega,by omega,by omega,by omega,by omega,by omega,by omega,by omega,by omega,by omega,fun h2=>⟨by omega,by omega,by omega,by omega,by omega,by omega,by omega,by omega,by omega,by omega,by omega,by omega,by omega,?_⟩,fun h2=>?_⟩
   ·rw[if_pos h2]at hst
    exact hag (_,j-1) ⟨by simp only;omega,by simp only;omega,_,rfl,by simp only[yj,hol],hst.symm⟩ (by simp only;omega)
   ·rw[if_neg h2]at hst
    exact hag (_,j-1) ⟨by simp only;omega,by simp only;omega,_,rfl,by simp only[yj,hol],hst.symm⟩ (by simp only;omega)
  ·rw[hr,hf0,←hE,←hoE,show j.toNat=0 by omega,hO]
   rfl
 ·cases h
def zuC(f:List V→List V→List V→List V→List V×List V×List V)(q:List V→List V→List V→List V→Prop):zN:=fun
 |[.agg [.slc false 2 (.int .i64 0) a0,.slc false 2 (.int .i64 0) a1,.slc false 2 (.int .i64 0) a2],.slc false 2 (.int .i64 0) a3]=>some ([q a0 a1 a2 a3],.agg [.slc false 2 (.int .i64 0) ((f a0 a1 a2 a3).1),.slc false 2 (.int .i64 0) ((f a0 a1 a2 a3).2.1),.slc false 2 (.int .i64 0) ((f a0 a1 a2 a3).2.2)])
 |_=>none
def zzy(a b _ d:List V):List V×List V×List V:=(a,b,d)
def zs3(a b c d:List V):Prop:=jU a∧jU b∧KF c∧KF d
theorem zpE:yT Tryz.prog 90 (zuC zzy zs3):=by
 intro args ps r h hp
 unfold zuC at h
 split at h
 ·rename_i a0 a1 a2 a3
  simp only[za,zb]at h
  obtain⟨rfl,rfl⟩:=h
  obtain⟨h0,h1,h2,h3⟩:zs3 a0 a1 a2 a3:=(zl.1 hp).1
  obtain⟨P,hP⟩:=h0.1
  obtain⟨S,hS⟩:=h1.1
  obtain⟨Q,hQ⟩:=h3
  have g0:V.frzs a0=a0:=by rw[hP,zG]
  have g1:V.frzs a1=a1:=by rw[hS,zG]
  have g3:V.frzs a3=a3:=by rw[hQ,zG]
  generalize qu:same=jB
  generalize yv:jU=qA
  refine zal (T:=tab) (B:=[(70,jJ jB qA)]) (Bi:=[]) [2000001007,2000001010,0,1,2,4] Tryz.func90 rfl rfl (by kernel_rfl) (zg rfl) zP zQ (by subst qu yv;exact(zm Kw zy)) (by subst qu yv;exact zu) (by kernel_rfl) ?_
  intro L lp rr hL hr hf hlp
  conv=>cbv
  subst qu yv
  simp only[zp hL,sQ,same,g0,g1,g3]
  exact⟨h0,h1,hr.symm⟩
 ·cases h
def zuG(f:List V→List V→List V→List V×List V×List V×Int)(q:List V→List V→List V→Prop):zN:=fun
 |[.agg [.slc false 2 (.int .i64 0) a0,.slc false 2 (.int .i64 0) a1,.slc false 2 (.int .i64 0) a2]]=>some ([q a0 a1 a2],.tup [.agg [.slc false 2 (.int .i64 0) ((f a0 a1 a2).1),.slc false 2 (.int .i64 0) ((f a0 a1 a2).2.1),.slc false 2 (.int .i64 0) ((f a0 a1 a2).2.2.1)],.int .i64 ((f a0 a1 a2).2.2.2)])
 |_=>none
noncomputable def KW(a b c:List V):List V×List V×List V×Int:=bif kD a b c then(a,b,c,0)else([],[],[],3)
theorem zr2:yT Tryz.prog 89 (zuG KW q_K):=by
 intro args ps r h hp
 unfold zuG at h
 split at h
 ·rename_i a0 a1 a2
  simp only[za,zb]at h
  obtain⟨rfl,rfl⟩:=h
  have hq:q_K a0 a1 a2:=(zl.1 hp).1
  obtain⟨⟨P,hP⟩,⟨S,hS⟩,⟨Q,hQ⟩⟩:=id hq
  have g0:V.frzs a0=a0:=by rw[hP,zG]
  have g1:V.frzs a1=a1:=by rw[hS,zG]
  have g2:V.frzs a2=a2:=by rw[hQ,zG]
  generalize uG:kD=zaH
  generalize Yu:q_K=zd7
  refine zal (T:=tab) (B:=[(87,zfm zaH zd7)]) (Bi:=[]) [0,1,2,3] Tryz.func89 rfl rfl (by kernel_rfl) (zg rfl) zP zQ (by subst uG Yu;exact(zm zcz zy)) (by subst uG Yu;exact zu) (by kernel_rfl) ?_
  intro L lp rr hL hr hf hlp
  conv=>cbv
  subst uG Yu
  simp only[zp hL,sQ,g0,g1,g2]
  refine⟨hq,fun h=>?_,fun h=>?_⟩
  ·rw[hr,KW,h];rfl
  ·rw[hr,KW,h];rfl
 ·cases h
def zju(e:Int)(own:List Int):Nat→List Int→List Int
 |0,w=>w
 |k+1,w=>(zju e own k w).set k (W ((zju e own k w).getD k 0+W (e*own.getD k 0)))
def zeE(P S d:List Int):Nat→List Int
 |0=>List.replicate d.length 0
 |i+1=>zju (d.getD i 0) (zmO P S i) P.length (zeE P S d i)
theorem znA(e:Int)(own:List Int):∀(k:Nat) (w:List Int),(zju e own k w).length=w.length
 |0,_=>rfl
 |k+1,w=>by rw[zju,yj,znA e own k]
theorem zmJ(P S d:List Int):∀i,(zeE P S d i).length=d.length
 |0=>zT
 |i+1=>by rw[zeE,znA,zmJ P S d i]
def zjo(d:List Int):Bool:=d.all fun x=>decide (-1000≤x)&&decide (x≤1000)
theorem zCQ{d:List Int}{i:Nat}(hi:i<d.length)(h:¬(-1000≤d.getD i 0∧d.getD i 0≤1000)):zjo d=false:=by
 rw[zjo,List.all_eq_false]
 refine⟨d.getD i 0,?_,by simpa [Int.not_le]using h⟩
 rw[zd,ze hi]
 exact ya _
theorem zBe{d:List Int}(h:∀i,i<d.length→-1000≤d.getD i 0∧d.getD i 0≤1000):zjo d=true:=by
 rw[zjo,yI]
 intro x hx
 obtain⟨i,hi,rfl⟩:=qk.1 hx
 have:=h i hi
 rw[zd,ze hi]at this
 simpa using this
def zqo(f:List V→List V→List V→List V→List V×List V×List V×Int)(q:List V→List V→List V→List V→Prop):zN:=fun
 |[.agg [.slc false 2 (.int .i64 0) a0,.slc false 2 (.int .i64 0) a1,.slc false 2 (.int .i64 0) a2],.slc false 2 (.int .i64 0) a3]=>some ([q a0 a1 a2 a3],.tup [.agg [.slc false 2 (.int .i64 0) ((f a0 a1 a2 a3).1),.slc false 2 (.int .i64 0) ((f a0 a1 a2 a3).2.1),.slc false 2 (.int .i64 0) ((f a0 a1 a2 a3).2.2.1)],.int .i64 ((f a0 a1 a2 a3).2.2.2)])
 |_=>none
noncomputable def Zb(a b c d:List V):List V×List V×List V×Int:=
 bif kD a b c then(bif decide (d.length=a.length)&&zjo (qb d)then KW a b (I (zeE (qb a) (qb b) (qb d) d.length))else([],[],[],2))else([],[],[],1)
def zxT(a b c d:List V):Prop:=q_K a b c∧KF d
theorem zfQ:yT Tryz.prog 55 (zqo Zb zxT):=by
 intro args ps r h hp
 unfold zqo at h
 split at h
 ·rename_i a0 a1 a2 a3
  simp only[za,zb]at h
  obtain⟨rfl,rfl⟩:=h
  obtain⟨hq,D,hD⟩:zxT a0 a1 a2 a3:=(zl.1 hp).1
  obtain⟨⟨P,hP⟩,⟨S,hS⟩,⟨Q,hQ⟩⟩:=id hq
  have g0:V.frzs a0=a0:=by rw[hP,zG]
  have g1:V.frzs a1=a1:=by rw[hS,zG]
  have g2:V.frzs a2=a2:=by rw[hQ,zG]
  have hpl:a0.length=P.length:=by rw[hP,zj]
  have hdl:a3.length=D.length:=by rw[hD,zj]
  have gd:∀k,a3.getD k (.int .i64 0)=.int .i64 (D.getD k 0):=fun k=>by rw[hD,zR]
  obtain⟨n,hn⟩:∃n:Int,n=P.length:=⟨_,rfl⟩
  obtain⟨m,hm⟩:∃m:Int,m=D.length:=⟨_,rfl⟩
  have hf1:kD a0 a1 a2=false→Zb a0 a1 a2 a3=([],[],[],1):=fun h=>by rw[Zb,h];rfl
  have hf2:kD a0 a1 a2=true→(D.length≠P.length∨zjo D=false)→Zb a0 a1 a2 a3=([],[],[],2):=fun h h2=>by
   rw[Zb,h,hdl,hpl,hD,zq]
   rcases h2 with h2|h2
   ·rw[decide_eq_false h2];rfl
   ·rw[h2,Bool.and_false];rfl
  have hf3:kD a0 a1 a2=true→D.length=P.length→zjo D=true→Zb a0 a1 a2 a3=KW a0 a1 (I (zeE P S D P.length)):=fun h h2 h3=>by
   rw[Zb,h,hdl,hpl,hD,zq,h3,decide_eq_true h2,hP,hS,zq,zq,h2];rfl
  generalize uG:kD=zaH
  generalize Yu:q_K=zd7
  generalize yD:yG=je
  generalize zqL:zoX=zrg
  generalize zqw:zxI=zwX
  generalize znK:zzy=zvj
  generalize znC:zs3=zva
  generalize zlY:KW=zl2
  refine zal (T:=tab) (B:=[(87,zfm zaH zd7),(48,jg je),(88,zuD zrg zwX),(90,zuC zvj zva),(89,zuG zl2 zd7)]) (Bi:=[]) [1000019007,0,1,2,4,5,6,7,8,9,10,11,12] Tryz.func55 rfl rfl (by kernel_rfl) (zg rfl) zP zQ (by subst uG Yu yD zqL zqw znK znC zlY;exact(zm zcz (zm YR (zm zmS (zm zpE (zm zr2 zy)))))) (by subst uG Yu yD zqL zqw znK znC zlY;exact zu) (by kernel_rfl) ?_
  intro L lp rr hL hr hf hlp
  have Ef:zaH a0 a1 a2=kD a0 a1 a2:=by rw[←uG]
  have Ei:∀x,je x (-1000) 1000=(decide (-1000≤x)&&decide (x≤1000)):=fun x=>by rw[←yD];rfl
  conv=>cbv
  simp only[zp hL,sQ,g0,g1,g2,Ef,hpl,hdl,←hn,←hm]
  refine⟨by rw[←Yu];exact hq,fun h=>?_,fun hcl0=>⟨fun h=>?_,fun hmn=>?_⟩⟩
  ·rw[hr,hf1 h];rfl
  ·rw[hr,hf2 hcl0 (.inl (by omega))];rfl
  have hqv:zeK a0 a1 a2:=zwf hq hcl0
  have hcl:ClP P S Q:=by have:=hqv.2;rwa [hP,hS,hQ,zq,zq,zq]at this
  have n24:=hcl.n24
  refine hlp (Int) _ _ _ [1,2,4,6] (fun x=>[(1,none,.val (.slc false 2 (.int .i64 0) a3)),(2,none,.val (.box 78 (.agg [.slc false 2 (.int .i64 0) a0,.slc false 2 (.int .i64 0) a1,.slc false 2 (.int .i64 0) a2]))),(4,none,.val (.box 78 (.agg [.slc true 2 (.int .i64 0) [],.slc true 2 (.int .i64 0) [],.slc true 2 (.int .i64 0) []]))),(6,none,.val (.int .i64 x))])
   (fun x=>0≤x∧x≤m∧∀t:Nat,t<x.toNat→-1000≤D.getD t 0∧D.getD t 0≤1000) (fun x=>(m-x).toNat) (0) (by subst hL;rfl) ?_ ?_
  ·exact⟨by simp,by omega,fun t ht=>by simp at ht⟩
  rintro i ⟨i0,i1,hI⟩ hfx ag hag
  conv=>cbv
  simp only[zp hL,sQ,g0,g1,g2,hdl,gd,Ei,←hm]
  rw[zo (n:=i+1) (by omega) (by omega)]
  refine⟨fun h2=>⟨i0,h2,fun h3=>?_,fun h3=>?_⟩,fun h2=>?_⟩
  ·rw[hr,hf2 hcl0 (.inr (zCQ (i:=i.toNat) (by omega) (fun h4=>by omega)))];rfl
  ·refine hag (i+1) ⟨by omega,by omega,fun t ht=>?_⟩ (by omega)
   by_cases e:t=i.toNat
   ·rw[e];exact h3
   ·exact hI t (by omega)
  have hex:zjo D=true:=zBe fun t ht=>hI t (by omega)
  have hf0:=hf3 hcl0 (by omega) hex
  have hdp:D.length=P.length:=by omega
  refine⟨by omega,Zi _,by omega,?_⟩
  obtain⟨vz,hvz⟩:∃vz,vz=List.replicate m.toNat (V.int .i64 0):=⟨_,rfl⟩
  rw[←hvz]
  have hvz2:vz=I (zeE P S D 0):=by rw[hvz,zd6,zeE,hm,zC]
  have Es:∀x:Int,0≤x→zrg a0 a1 a2 x=I (zmO P S x.toNat):=fun x _=>by rw[←zqL,zoX,hP,hS,zq,zq]
  have Qs:∀x:Int,0≤x→x<n→zwX a0 a1 a2 x:=by
   rw[←zqw]
   exact fun x h1 h2=>⟨hqv,h1,by rw[hpl];omega⟩
  have Ew:∀d,zvj a0 a1 a2 d=(a0,a1,d):=fun d=>by rw[←znK];rfl
  have Qw:∀d,KF d→zva a0 a1 a2 d:=by
   rw[←znC]
   exact fun d h=>⟨⟨⟨P,hP⟩,by rw[hpl];omega⟩,⟨⟨S,hS⟩,by rw[hS,zj,hcl.sl];omega⟩,⟨Q,hQ⟩,h⟩
  clear hag hfx ag
  refine hlp (List V×Int) _ _ _ [1,2,4,7,8] (fun x=>[(1,none,.val (.slc false 2 (.int .i64 0) a3)),(2,none,.val (.box 78 (.agg [.slc false 2 (.int .i64 0) a0,.slc false 2 (.int .i64 0) a1,.slc false 2 (.int .i64 0) a2]))),(4,none,.val (.box 78 (.agg [.slc true 2 (.int .i64 0) [],.slc true 2 (.int .i64 0) [],.slc true 2 (.int .i64 0) []]))),(7,none,.val (.slc true 2 (.int .i64 0) x.1)),(8,none,.val (.int .i64 x.2))])
   (fun x=>0≤x.2∧x.2≤m∧x.1=I (zeE P S D x.2.toNat)) (fun x=>(m-x.2).toNat) ((vz,0)) (by subst hL;rfl) ?_ ?_
  ·exact⟨by simp,by simp only;omega,hvz2⟩
  rintro⟨vl,j⟩ ⟨j0,j1,hJ⟩ hfx ag hag
  simp only at j0 j1 hJ
  have hvl:vl.length=D.length:=by rw[hJ,zj,zmJ]
  have hfv:V.frzs vl=vl:=by rw[hJ,zG]
  obtain⟨vo,hvo⟩:∃vo,vo=zrg a0 a1 a2 j:=⟨_,rfl⟩
  conv=>cbv
  simp only[zp hL,sQ,g0,g1,g2,hdl,←hm,hvl,hfv,Ew,←hvo]
  refine⟨fun h3=>⟨Qs _ j0 (by omega),?_⟩,fun h3=>?_⟩
  ·rw[Es j j0]at hvo
   obtain⟨own,hown⟩:∃own,own=zmO P S j.toNat:=⟨_,rfl⟩
   obtain⟨w,hw⟩:∃w,w=zeE P S D j.toNat:=⟨_,rfl⟩
   rw[←hown]at hvo
   rw[←hw]at hJ
   have hwl:w.length=P.length:=by rw[hw,zmJ];omega
   have hol:own.length=P.length:=by rw[hown,zmO,zsN,yj,zT]
   have hvol:vo.length=P.length:=by rw[hvo,zj,hol]
   have go:∀k,vo.getD k (.int .i64 0)=.int .i64 (own.getD k 0):=fun k=>by rw[hvo,zR]
   have hnx:zeE P S D (j.toNat+1)=zju (D.getD j.toNat 0) own P.length w:=by rw[zeE,←hown,←hw]
   obtain⟨e,he⟩:∃e,e=D.getD j.toNat 0:=⟨_,rfl⟩
   rw[←he]at hnx
   refine hlp (List V×Int) _ _ _ [1,2,4,7,8,9,10] (fun x=>[(1,none,.val (.slc false 2 (.int .i64 0) a3)),(2,none,.val (.box 78 (.agg [.slc false 2 (.int .i64 0) a0,.slc false 2 (.int .i64 0) a1,.slc false 2 (.int .i64 0) a2]))),(4,none,.val (.box 78 (.agg [.slc true 2 (.int .i64 0) [],.slc true 2 (.int .i64 0) [],.slc true 2 (.int .i64 0) []]))),(7,none,.val (.slc true 2 (.int .i64 0) x.1)),(8,none,.val (.int .i64 j)),(9,none,.val (.slc true 2 (.int .i64 0) vo)),(10,none,.val (.int .i64 x.2))])
    (fun x=>0≤x.2∧x.2≤n∧x.1=I (zju e own x.2.toNat w)) (fun x=>(n-x.2).toNat) ((vl,0)) (by subst hL;rfl) ?_ ?_
   ·exact⟨by simp,by simp only;omega,hJ⟩
   rintro⟨vk,k⟩ ⟨k0,k1,hK⟩ hfx2 ag2 hag2
   simp only at k0 k1 hK
   have hvk:vk.length=P.length:=by rw[hK,zj,znA,hwl]
   have gk:∀k',vk.getD k' (.int .i64 0)=.int .i64 ((zju e own k.toNat w).getD k' 0):=fun k'=>by rw[hK,zR]
   conv=>cbv
   simp only[zp hL,sQ,hdl,←hm,←hn,hvk,hvol,go,gk,gd,←he]
   rw[zo (n:=k+1) (by omega) (by omega)]
   refine⟨fun h4=>?_,fun h4=>?_⟩
   ·iterate 14 try refine⟨by omega,?_⟩
    refine hag2 (_,k+1) ⟨by simp only;omega,by simp only;omega,?_⟩ (by simp only;omega)
    simp only
    rw[show(k+1).toNat=k.toNat+1 by omega,zju,hK,KY]
   ·rw[zo (n:=j+1) (by omega) (by omega)]
    refine hag (vk,j+1) ⟨by simp only;omega,by simp only;omega,?_⟩ (by simp only;omega)
    simp only
    rw[show(j+1).toNat=j.toNat+1 by omega,hnx,hK,show k.toNat=P.length by omega]
  ·rw[hr,hf0]
   have hJ2:vl=I (zeE P S D P.length):=by rw[hJ,show j.toNat=P.length by omega]
   refine⟨Qw _ ⟨_,hJ⟩,by rw[←Yu];exact⟨⟨P,hP⟩,⟨S,hS⟩,⟨_,hJ⟩⟩,?_⟩
   have hffz:V.frzs (zl2 a0 a1 vl).1=(KW a0 a1 vl).1∧V.frzs (zl2 a0 a1 vl).2.1=(KW a0 a1 vl).2.1∧V.frzs (zl2 a0 a1 vl).2.2.1=(KW a0 a1 vl).2.2.1:=by
    rw[←zlY,KW]
    cases kD a0 a1 vl with
    |false=>exact⟨rfl,rfl,rfl⟩
    |true=>exact⟨g0,g1,hfv⟩
   rw[hffz.1,hffz.2.1,hffz.2.2,←zlY,←hJ2]
 ·cases h
end Go.Ax
namespace Go.Ax
open Go.Proofs
def Val:Nat→Nat→List Nat→Prop
 |_,e,[]=>e=1
 |p,e,t::l=>p<t∧t≤2000∧Nat.gcd e t≠e∧Val t (Nat.gcd e t) l
def uX:Nat→Nat→List Nat→List Nat
 |_,_,[]=>[]
 |p,e,t::l=>ex (t-p) e++uX t (Nat.gcd e t) l
theorem Val.weak{p p' e:Nat}{l:List Nat}(h:Val p e l)(hp:p'≤p):Val p' e l:=by
 cases l with
 |nil=>exact h
 |cons t l=>exact⟨by have:=h.1;omega,h.2⟩
theorem zzt{e t s:Nat}(he:e ∣ s)(hs:s≤t):Nat.gcd e (t-s)=Nat.gcd e t:=by
 obtain⟨k,rfl⟩:=he
 have h:t=(t-e*k)+k*e:=by rw[kX k e];omega
 conv=>rhs;rw[h]
 rw[JZ]
def zEP(n:Nat):List Nat→List Nat
 |[]=>[1]
 |t::l=>if 2*n≤t then n::(t-n)::l.map (·-n)else if n%(t-n)=0 then(t-n)::l.map (·-(t-n))else(t-n)::n::l.map (·-(t-n))
structure BrN (n:Nat) (l:List Nat):Prop where
 lo:1≤n
 hi:n≤64
 val:Val n n l
theorem zlN{k e:Nat}(he:0<e)(hd:¬e ∣ k):∃x,ex k e=List.replicate (k/e) e++(k%e)::x∧0<k%e∧k%e<e:=by
 have h1:0<k%e:=Nat.pos_of_ne_zero fun h=>hd (Nat.dvd_of_mod_eq_zero h)
 have h2:k%e<e:=Nat.mod_lt _ he
 have h3:0<e/(k%e):=Nat.div_pos (by omega) h1
 refine⟨List.replicate (e/(k%e)-1) (k%e)++ex (k%e) (e%(k%e)),?_,h1,h2⟩
 rw[uN he,uN h1]
 conv=>lhs;rw[show e/(k%e)=(e/(k%e)-1)+1 by omega]
 rw[yE,zV]
theorem zoD{p e t:Nat}(hp:e ∣ p)(h:p<t)(hg:Nat.gcd e t≠e):¬e ∣ (t-p):=fun h2=>by
 refine hg (Nat.gcd_eq_left ?_)
 have:=Nat.dvd_add h2 hp
 rwa [show t-p+p=t by omega]at this
def zaT(e:Nat):List Nat→Nat
 |[]=>0
 |x::l=>if x=e then zaT e l+1 else 0
theorem ztF{e r:Nat}(h:r≠e)(x:List Nat):∀q,zaT e (List.replicate q e++r::x)=q
 |0=>by simp[zaT,h]
 |q+1=>by rw[yE,zV,zaT,if_pos rfl,ztF h x q]
def ztf:Nat→Nat→Nat→List Nat→List Nat
 |0,_,_,_=>[]
 |k+1,p,e,L=>if e≤1 then[]else
   (p+(zaT e L*e+L.getD (zaT e L) 0))::ztf k (p+(zaT e L*e+L.getD (zaT e L) 0)) (Nat.gcd e (p+(zaT e L*e+L.getD (zaT e L) 0))) (L.drop (ex (zaT e L*e+L.getD (zaT e L) 0) e).length)
theorem zza:∀(l:List Nat) (p e:Nat),0<e→e ∣ p→Val p e l→∀(m k:Nat),l.length<k→ztf k p e (uX p e l++List.replicate m 1)=l
 |[],p,e,_,_,h,m,0,hk=>by simp at hk
 |[],p,e,_,_,h,m,k+1,_=>by
  have h1:e=1:=h
  rw[ztf,if_pos (by omega)]
 |t::l,p,e,he,hp,h,m,0,hk=>by simp at hk
 |t::l,p,e,he,hp,h,m,k+1,hk=>by
  obtain⟨h1,h2,h3,h4⟩:=h
  have he2:¬e≤1:=fun h5=>h3 (by
   have:e=1:=by omega
   subst this
   exact Nat.gcd_one_left t)
  obtain⟨x,hx,hr0,hr1⟩:=zlN he (zoD hp h1 h3)
  obtain⟨X,hX⟩:∃X,X=uX t (Nat.gcd e t) l++List.replicate m 1:=⟨_,rfl⟩
  have hL:uX p e (t::l)++List.replicate m 1=ex (t-p) e++X:=by rw[uX,yf,hX]
  have hL2:ex (t-p) e++X=List.replicate ((t-p)/e) e++((t-p)%e)::(x++X):=by rw[hx];simp
  have hq:zaT e (ex (t-p) e++X)=(t-p)/e:=by rw[hL2,ztF (by omega)]
  have hg:(ex (t-p) e++X).getD ((t-p)/e) 0=(t-p)%e:=by
   rw[hL2,zd,yn (by rw[zT];exact zt _),zT,jA]
   rfl
  have hk2:(t-p)/e*e+(t-p)%e=t-p:=by rw[kX];exact Zs _ _
  rw[hL,ztf,if_neg he2,hq,hg,hk2,show p+(t-p)=t by omega,List.drop_left,hX,
   zza l t (Nat.gcd e t) (uC t he) (Nat.gcd_dvd_right e t) h4 m k (by simpa using hk)]
def yH(l:List Nat):List Int:=l.map fun x:Nat=>(x:Int)
def zgd(l:List Int):List Nat:=l.map Int.toNat
theorem zaV(l:List Nat):zgd (yH l)=l:=by
 rw[zgd,yH,List.map_map]
 conv=>rhs;rw[←List.map_id l]
 rfl
theorem uc(l:List Nat):(yH l).length=l.length:=by simp[yH]
theorem zbn(a b:List Nat):yH (a++b)=yH a++yH b:=by simp[yH]
theorem zad(l:List Nat)(i d:Nat):(yH l).getD i (d:Int)=((l.getD i d:Nat):Int):=by
 simp only[yH,zd,zH]
 cases l[i]? <;>rfl
def zqu(n:Nat)(l:List Nat)(L:List Int):Prop:=BrN n l∧L≠[]∧∃m,L=yH (uX 0 n l++List.replicate m 1)
def zuJ(L:List Int):List Int:=yH ((zgd L).getD 0 0::ztf 3000 0 ((zgd L).getD 0 0) (zgd L))
theorem zpx:∀(l:List Nat) (p e:Nat),Val p e l→p≤2000→l.length+p≤2000
 |[],p,e,_,hp=>by simpa using hp
 |t::l,p,e,h,_=>by
  have:=zpx l t _ h.2.2.2 h.2.1
  have:=h.1
  simp only[zi]
  omega
theorem zlU{n:Nat}{l:List Nat}{L:List Int}(h:zqu n l L):zuJ L=yH (n::l):=by
 obtain⟨hb,hne,m,rfl⟩:=h
 have hlo:=hb.lo
 have hhi:=hb.hi
 have h0:(uX 0 n l++List.replicate m 1).getD 0 0=n:=by
  cases l with
  |nil=>
   have h1:n=1:=hb.val
   subst h1
   cases m with
   |zero=>simp[uX,yH]at hne
   |succ m=>rfl
  |cons t l=>
   have h1:=hb.val.1
   have h2:0<t/n:=Nat.div_pos (by omega) (by omega)
   rw[uX,uN (by omega),Zr,show t/n=(t/n-1)+1 by omega,yE]
   rfl
 rw[zuJ,zaV,h0,zza l 0 n (by omega) ⟨0,rfl⟩ (hb.val.weak (by omega)) m 3000 (by have:=zpx l n n hb.val (by omega);omega)]
end Go.Ax
namespace Go.Ax
open Go.Proofs
def KP:Nat→List Nat→Nat
 |_,[]=>0
 |t,c::cs=>if c=t then KP (t+1) cs+1 else 0
def mC:List Nat→List Nat
 |[]=>[1]
 |_::cs=>((mC cs).take (KP 2 cs+1)).sum::mC cs
theorem QW:∀cs:List Nat,(mC cs).length=cs.length+1
 |[]=>rfl
 |_::cs=>by rw[mC,zi,QW cs,zi]
theorem zws:∀(cs:List Nat) (t:Nat),KP t cs≤cs.length
 |[],_=>zt _
 |c::cs,t=>by
  rw[KP]
  split
  ·have:=zws cs (t+1);simp only[zi];omega
  ·exact Jp _
theorem zty:∀(cs:List Nat),∀x∈mC cs,1≤x
 |[],x,h=>by simp only[mC,yp]at h;omega
 |c::cs,x,h=>by
  rw[mC]at h
  rcases zE.1 h with h|h
  ·have hl:=QW cs
   cases hm:mC cs with
   |nil=>rw[hm]at hl;simp at hl
   |cons y l=>
    have:=zty cs y (by rw[hm];simp)
    rw[h,hm,uJ,KE]
    omega
  ·exact zty cs x h
theorem zwq:∀(cs:List Nat) (t q:Nat),2≤t→q≤KP t cs→∀j,j<q→(mC cs).getD j 0=(mC cs).getD 0 0
 |[],t,q,_,hq,j,hj=>by rw[KP]at hq;omega
 |c::cs,t,q,ht,hq,j,hj=>by
  rw[KP]at hq
  split at hq
  ·rename_i hc
   cases j with
   |zero=>rfl
   |succ j=>
    have ih:=zwq cs (t+1) (q-1) (by omega) (by omega) j (by omega)
    rw[mC,qG,ih,jb]
    have h0:KP 2 cs=0:=by
     cases cs with
     |nil=>rfl
     |cons d cs=>
      rw[KP]at hq ⊢
      split at hq
      ·rw[if_neg (by omega)]
      ·omega
    have hl:=QW cs
    rw[h0]
    cases hm:mC cs with
    |nil=>rw[hm]at hl;simp at hl
    |cons y l=>simp
  ·omega
theorem Val.up:∀(l:List Nat) {p e s:Nat},e ∣ s→(∀t∈l,t+s≤2000)→Val p e l→Val (p+s) e (l.map (·+s))∧uX (p+s) e (l.map (·+s))=uX p e l
 |[],p,e,s,_,_,h=>⟨h,rfl⟩
 |t::l,p,e,s,he,hs,h=>by
  obtain⟨h1,h2,h3,h4⟩:=h
  have hg:Nat.gcd e (t+s)=Nat.gcd e t:=by
   obtain⟨k,rfl⟩:=he
   rw[kX,JZ]
  obtain⟨i1,i2⟩:=Val.up l (s:=s) (Nat.dvd_trans (Kq e t) he) (fun x hx=>hs x (zA _ hx)) h4
  have hb:=hs t (by simp)
  refine⟨⟨show p+s<t+s by omega,hb,by rw[hg];exact h3,by rw[hg];exact i1⟩,?_⟩
  simp only[qv,uX]
  rw[hg,i2,show t+s-(p+s)=t-p by omega]
theorem zsH{a b:Nat}{x:List Nat}:∀k:Nat,(List.replicate k a++b::x).take (k+1)=List.replicate k a++[b]
 |0=>rfl
 |k+1=>by rw[yE,zV,uJ,zsH k];rfl
theorem zvY(a b:Nat):∀k:Nat,(List.replicate k a++[b]).sum=k*a+b
 |0=>by simp
 |k+1=>by rw[yE,zV,KE,zvY a b k,jn];omega
theorem zrp{a:Nat}:∀(k:Nat) (L:List Nat),k<L.length→(∀j,j<k→L.getD j 0=a)→∃b x,L=List.replicate k a++b::x
 |_,[],h,_=>by simp at h
 |0,y::L,_,_=>⟨y,L,rfl⟩
 |k+1,y::L,h,hs=>by
  obtain⟨b,x,hx⟩:=zrp k L (by simpa using h) (fun j hj=>by simpa using hs (j+1) (by omega))
  have h0:y=a:=by simpa using hs 0 (by omega)
  exact⟨b,x,by rw[hx,h0,yE];rfl⟩
theorem zrt{a r b:Nat}(hr:r≠a){X x:List Nat}:∀(k q:Nat),List.replicate q a++r::X=List.replicate k a++b::x→(k<q∧b=a)∨(k=q∧b=r)
 |0,0,h=>by simp at h;exact .inr ⟨rfl,h.1.symm⟩
 |0,q+1,h=>by rw[yE]at h;simp at h;exact .inl ⟨by omega,h.1.symm⟩
 |k+1,0,h=>by rw[yE]at h;simp at h;exact absurd h.1 hr
 |k+1,q+1,h=>by
  rw[yE,yE]at h
  simp only[zV,ku,true_and]at h
  have:=zrt hr k q h
  omega
theorem zzg:∀(cs:List Nat),cs.length≤30→(∀x∈mC cs,x≤64)→∃n l m,BrN n l∧mC cs=uX 0 n l++List.replicate m 1∧(mC cs).getD 0 0=n∧∀t∈l,t≤64*(cs.length+1)
 |[],_,_=>⟨1,[],1,⟨by omega,by omega,rfl⟩,rfl,rfl,fun t ht=>by cases ht⟩
 |c::cs,hl,hb=>by
  rw[mC]at hb
  simp only[zi]at hl ⊢
  obtain⟨a,l,m,hB,hL,ha,ht⟩:=zzg cs (by omega) (fun x hx=>hb x (zA _ hx))
  have hlen:=QW cs
  have hle:=zws cs 2
  obtain⟨k,hk⟩:∃k,k=KP 2 cs:=⟨_,rfl⟩
  rw[←hk]at hle
  have hsame:∀j,j<k→(mC cs).getD j 0=a:=fun j hj=>by rw[zwq cs 2 k (by omega) (by omega) j hj,ha]
  obtain⟨b,x,hx⟩:=zrp k (mC cs) (by omega) hsame
  have hn:((mC cs).take (k+1)).sum=k*a+b:=by rw[hx,zsH,zvY]
  obtain⟨n,hnn⟩:∃n,n=k*a+b:=⟨_,rfl⟩
  have hn64:n≤64:=by rw[hnn,←hn,hk];exact hb _ (by simp)
  have hb1:1≤b:=zty cs b (by rw[hx];simp)
  have hb64:b≤64:=hb b (zA _ (by rw[hx];simp))
  have ha1:=hB.lo
  have ha64:=hB.hi
  rw[mC,←hk,hn,←hnn]
  by_cases hk0:k=0
  ·
    subst hk0
    have hba:b=a:=by rw[←ha,hx];rfl
    have hna:n=a:=by rw[hnn,hba];omega
    rw[hna]
    cases l with
    |nil=>
     have h1:a=1:=hB.val
     subst h1
     exact⟨1,[],m+1,hB,by rw[hL];rfl,rfl,fun t ht=>by cases ht⟩
    |cons t l=>
     have ht0:=ht t (by simp)
     obtain⟨v1,v2⟩:=Val.up (t::l) (p:=a) (e:=a) (s:=a) (zgv a) (fun y hy=>by have:=ht y hy;omega) hB.val
     refine⟨a,(t::l).map (·+a),m,⟨ha1,ha64,v1.weak (by omega)⟩,?_,rfl,fun y hy=>?_⟩
     ·have v0:=(Val.up (t::l) (p:=0) (e:=a) (s:=a) (zgv a) (fun y hy=>by have:=ht y hy;omega) (hB.val.weak (by omega))).2
      rw[hL,←v0]
      simp only[qv,uX,Zr]
      have e1:ex (t+a) a=a::ex (t+a-(0+a)) a:=by
       rw[show t+a-(0+a)=t by omega,uN (by omega),uN (show 0<a by omega),zbf _ (by omega),zbe,yE,zV]
      rw[e1]
      rfl
     ·obtain⟨z,hz,rfl⟩:=jO.1 hy
      have:=ht z hz
      omega
  ·cases l with
   |nil=>
    have h1:a=1:=hB.val
    subst h1
    have hall:∀y∈mC cs,y=1:=fun y hy=>by
     rw[hL]at hy
     simp only[uX,qQ]at hy
     exact List.eq_of_mem_replicate hy
    have hbe:b=1:=hall b (by rw[hx];simp)
    have hn1:n=k+1:=by rw[hnn,hbe];omega
    have hm:m=cs.length+1:=by
     rw[←hlen,hL];simp[uX]
    refine⟨n,[n+1],m-n,⟨by omega,hn64,by omega,by omega,?_,?_⟩,?_,rfl,fun y hy=>?_⟩
    ·rw[Jq]
     simp
     omega
    ·rw[Jq]
     simp[Val]
    ·rw[hL]
     simp only[uX,Zr,yw,qQ]
     have e1:ex (n+1) n=n::List.replicate n 1:=by
      rw[uN (by omega),Yl n 1,zbf _ (by omega),zbe,zgw (by omega),YY (by omega),uN (by omega),Nat.div_one,Nat.mod_one,zfx]
      simp
     rw[e1,zV,jq,show n+(m-n)=m by omega]
    ·simp only[yp]at hy
     omega
   |cons t l=>
    have hv:=hB.val
    obtain⟨v1,v2,v3,v4⟩:=id hv
    have hnd:¬a ∣ t:=by
     intro hd
     exact v3 (Nat.gcd_eq_left hd)
    obtain⟨X,hX,hr0,hr1⟩:=zlN (show 0<a by omega) hnd
    obtain⟨q,hq⟩:∃q,q=t/a:=⟨_,rfl⟩
    obtain⟨r,hr⟩:∃r,r=t%a:=⟨_,rfl⟩
    rw[←hq,←hr]at hX
    rw[←hr]at hr0 hr1
    have htq:t=q*a+r:=by rw[hq,hr,kX];exact(Zs t a).symm
    have hL2:mC cs=List.replicate q a++r::(X++(uX t (Nat.gcd a t) l++List.replicate m 1)):=by
     rw[hL,uX,Zr,hX]
     simp
    have ht2:∀y∈t::l,y+a≤2000:=fun y hy=>by have:=ht y hy;omega
    have hcase:=zrt (by omega) k q (hL2.symm.trans hx)
    have htb:=ht t (by simp)
    rcases hcase with⟨hkq,hba⟩|⟨hkq,hbr⟩
    ·
      have hn1:n=(k+1)*a:=by rw[hnn,hba,jn];omega
      have hlt:n+a≤t+a:=by
       have:(k+1)*a≤q*a:=yZ a (by omega)
       omega
      have hlt2:n<t:=by
       have:(k+1)*a≤q*a:=yZ a (by omega)
       omega
      have hna:a<n:=by
       have:2*a≤(k+1)*a:=yZ a (by omega)
       omega
      have hgcd:Nat.gcd n (n+a)=a:=by
       rw[Jq,hn1,uO,Nat.gcd_mul_left_right]
      obtain⟨u1,u2⟩:=Val.up (t::l) (p:=n) (e:=a) (s:=a) (zgv a) ht2 ⟨hlt2,v2,v3,v4⟩
      refine⟨n,(n+a)::(t::l).map (·+a),m,⟨by omega,hn64,by omega,by omega,by rw[hgcd];omega,by rw[hgcd];exact u1⟩,?_,rfl,fun y hy=>?_⟩
      ·rw[uX,Zr,hgcd,u2]
       have e1:ex (n+a) n=n::List.replicate (k+1) a:=by
        rw[uN (by omega),Yl n a,zbf _ (by omega),zbe,zgw hna,YY hna,uN (by omega),hn1,Nat.mul_div_cancel _ (by omega),Nat.mul_mod_left,zfx]
        simp
       have e2:ex t a=List.replicate (k+1) a++ex (t-n) a:=by
        have e3:t=(t-n)+a*(k+1):=by rw[kX,←hn1];omega
        rw[uN (by omega),uN (show 0<a by omega) (a:=t-n)]
        conv=>lhs;rw[e3]
        rw[Nat.add_mul_div_left _ _ (by omega),Nat.add_mul_mod_self_left,Yl,←jq,yf]
       rw[e1,hL,uX,uX,Zr,e2]
       simp
      ·rcases zE.1 hy with rfl|hy
       ·omega
       ·obtain⟨z,hz,rfl⟩:=jO.1 hy
        have:=ht z hz
        omega
    ·
      have hn1:n=t:=by rw[hnn,hkq,hbr];exact htq.symm
      have hgcd:Nat.gcd n (n+a)=Nat.gcd a t:=by rw[Jq,hn1,uO]
      obtain⟨u1,u2⟩:=Val.up l (p:=t) (e:=Nat.gcd a t) (s:=a) (Kq a t) (fun y hy=>ht2 y (zA _ hy)) v4
      have hga:Nat.gcd a t≤a:=Nat.gcd_le_left t (by omega)
      refine⟨n,(n+a)::l.map (·+a),m,⟨by omega,hn64,by omega,by omega,by rw[hgcd];omega,by rw[hgcd,hn1];exact u1⟩,?_,rfl,fun y hy=>?_⟩
      ·have e1:ex (n+a) n=n::ex t a:=by
        rw[uN (by omega),Yl n a,zbf _ (by omega),zbe,zgw (by omega),YY (by omega),hn1]
        simp
       rw[uX,Zr,hgcd,e1,hL,uX,Zr]
       rw[hn1]at*
       rw[u2]
       simp
      ·rcases zE.1 hy with rfl|hy
       ·omega
       ·obtain⟨z,hz,rfl⟩:=jO.1 hy
        have:=ht z (zA _ hz)
        omega
end Go.Ax
namespace Go.Ax
open Go.Proofs
def VC(cs:List Nat):Prop:=∀i,i<cs.length→cs.getD i 0=0∨(1≤i∧(cs.getD i 0=2∨(3≤cs.getD i 0∧cs.getD (i-1) 0+1=cs.getD i 0)))
theorem VC.le{cs:List Nat}(h:VC cs):∀i,i<cs.length→cs.getD i 0≤i+1∧cs.getD i 0≠1
 |0,hi=>by rcases h 0 hi with h|⟨h,_⟩<;>omega
 |i+1,hi=>by
  have ih:=VC.le h i (by omega)
  rcases h (i+1) hi with h|⟨_,h|⟨h1,h2⟩⟩
  ·omega
  ·omega
  ·simp only[qU]at h2
   omega
def hdM(cs:List Nat):Nat:=(mC cs).getD 0 0
def QM(cs:List Nat)(j i:Nat):Nat:=((mC (cs.drop j)).tail.take (KP (j+1-i) (cs.drop j))).sum
def Ye(cs:List Nat)(j:Nat):List Nat:=qD (fun i=>if i<j then QM cs j i else hdM (cs.drop i)) (cs.length+1)
theorem zbW(cs:List Nat)(j:Nat):(Ye cs j).length=cs.length+1:=qh _ _
theorem zaf{cs:List Nat}{j i:Nat}(h:i≤cs.length):(Ye cs j).getD i 0=if i<j then QM cs j i else hdM (cs.drop i):=Zy _ _ _ _ (by omega)
theorem zaR(cs:List Nat):mC cs=hdM cs::(mC cs).tail:=by
 have hl:=QW cs
 rw[hdM]
 cases hm:mC cs with
 |nil=>rw[hm]at hl;simp at hl
 |cons x l=>rfl
theorem zia{cs:List Nat}{j:Nat}(h:j<cs.length):cs.drop j=cs.getD j 0::cs.drop (j+1):=by
 rw[List.drop_eq_getElem_cons h,zd,ze h]
 rfl
theorem zh0:∀(cs:List Nat) (j:Nat),j≤cs.length→(mC cs).getD j 0=hdM (cs.drop j)
 |cs,0,_=>rfl
 |[],j+1,h=>by simp at h
 |c::cs,j+1,h=>by
  rw[mC,qG,List.drop_succ_cons]
  exact zh0 cs j (by simpa using h)
theorem zAR(cs:List Nat):Ye cs 0=mC cs:=by
 apply yS
 intro i
 by_cases hi:i≤cs.length
 ·have h1:=zaf (j:=0) hi
  rw[if_neg (by omega),←zh0 cs i hi]at h1
  rw[zd,zd,ze (by rw[zbW];omega),ze (by rw[QW];omega)]at h1
  rw[ze (by rw[zbW];omega),ze (by rw[QW];omega)]
  exact congrArg some h1
 ·rw[zI (by rw[zbW];omega),zI (by rw[QW];omega)]
theorem zqv{cs:List Nat}{j:Nat}(h:j<cs.length):QM cs (j+1) j+hdM (cs.drop (j+1))=hdM (cs.drop j):=by
 rw[QM,show j+1+1-j=2 by omega,zia h]
 have h1:hdM (cs.getD j 0::cs.drop (j+1))=((mC (cs.drop (j+1))).take (KP 2 (cs.drop (j+1))+1)).sum:=by
  rw[hdM,mC];rfl
 rw[h1]
 conv=>rhs;rw[zaR]
 rw[uJ,KE]
 omega
theorem zEa{cs:List Nat}{j i:Nat}(h:j<cs.length)(hi:i<j)(hc:cs.getD j 0=j+1-i):QM cs (j+1) i+hdM (cs.drop (j+1))=QM cs j i:=by
 rw[QM,QM,zia h,mC,List.tail_cons,KP,if_pos hc,show j+1-i+1=j+1+1-i by omega]
 conv=>rhs;rw[zaR]
 rw[uJ,KE]
 omega
theorem zwV{cs:List Nat}(hv:VC cs){j i:Nat}(h:j<cs.length)(hi:i<j)(hc:cs.getD j 0≠j+1-i):QM cs j i=0∧QM cs (j+1) i=0:=by
 constructor
 ·rw[QM,zia h,KP,if_neg hc]
  simp
 ·rw[QM]
  by_cases h1:j+1<cs.length
  ·rw[zia h1,KP,if_neg]
   ·simp
   ·intro h2
    rcases hv (j+1) h1 with h3|⟨_,h3|⟨h3,h4⟩⟩
    ·omega
    ·omega
    ·simp only[qU]at h4
     omega
  ·rw[kd (by omega)]
   simp[KP]
theorem zpz{α:Type}(f:Nat→α){n i:Nat}(x:α)(h:i<n):(qD f n).set i x=qD (fun t=>if t=i then x else f t) n:=by
 apply yS
 intro j
 rw[Jy]
 by_cases hj:j<n
 ·rw[uR _ _ _ hj,uR _ _ _ hj]
  by_cases h1:i=j
  ·rw[if_pos h1,if_pos (by rw[qh];exact h),if_pos h1.symm]
  ·rw[if_neg h1,if_neg (Ne.symm h1)]
 ·rw[if_neg (by omega),zI (by rw[qh];omega),zI (by rw[qh];omega)]
theorem zzd{cs:List Nat}(hv:VC cs){j:Nat}(h:j<cs.length)(hc:cs.getD j 0=0):(Ye cs (j+1)).set j ((Ye cs (j+1)).getD j 0+(Ye cs (j+1)).getD (j+1) 0)=Ye cs j:=by
 rw[zaf (by omega),zaf (by omega),if_pos (by omega),if_neg (by omega),zqv h,Ye,zpz _ _ (by omega),Ye]
 refine jY fun i hi=>?_
 by_cases h1:i=j
 ·rw[if_pos h1,if_neg (by omega),h1]
 ·rw[if_neg h1]
  by_cases h2:i<j
  ·obtain⟨q1,q2⟩:=zwV hv h h2 (by omega)
   rw[if_pos (by omega),if_pos h2,q1,q2]
  ·rw[if_neg (by omega),if_neg h2]
theorem zAQ{cs:List Nat}(hv:VC cs){j c:Nat}(h:j<cs.length)(hc:cs.getD j 0=c)(h0:c≠0):
 ((Ye cs (j+1)).set j ((Ye cs (j+1)).getD j 0+(Ye cs (j+1)).getD (j+1) 0)).set (j+1-c) ((Ye cs (j+1)).getD (j+1-c) 0+(Ye cs (j+1)).getD (j+1) 0)=Ye cs j∧j+1-c<j∧c≤j+1:=by
 have hle:=hv.le j h
 rw[hc]at hle
 refine⟨?_,by omega,by omega⟩
 have hlt:j+1-c<j:=by omega
 have e:=zEa h hlt (show cs.getD j 0=j+1-(j+1-c) by omega)
 rw[zaf (by omega),zaf (by omega),zaf (by omega),if_pos (by omega),if_neg (by omega),if_pos (by omega),zqv h,e,Ye,zpz _ _ (by omega),zpz _ _ (by omega),Ye]
 refine jY fun i hi=>?_
 by_cases h1:i=j+1-c
 ·rw[if_pos h1,if_pos (by omega),h1]
 ·rw[if_neg h1]
  by_cases h3:i=j
  ·rw[if_pos h3,if_neg (by omega),h3]
  ·rw[if_neg h3]
   by_cases h2:i<j
   ·obtain⟨q1,q2⟩:=zwV hv h h2 (by omega)
    rw[if_pos (by omega),if_pos h2,q1,q2]
   ·rw[if_neg (by omega),if_neg h2]
theorem zx6(cs:List Nat):Ye cs cs.length=List.replicate cs.length 0++[1]:=by
 apply yS
 intro i
 rw[Ye]
 by_cases hi:i<cs.length
 ·rw[uR _ _ _ (by omega),if_pos hi,yM (by simpa using hi),jV,if_pos hi,QM,kd (by omega)]
  simp[mC]
 ·by_cases h2:i=cs.length
  ·rw[uR _ _ _ (by omega),if_neg hi,h2,yn (by simp),kd (by omega)]
   simp[hdM,mC]
  ·rw[zI (by rw[qh];omega),zI (by simp;omega)]
theorem zro{B:Nat}:∀(l:List Nat),(∀x∈l,x≤B)→l.sum≤B*l.length
 |[],_=>by simp
 |x::l,h=>by
  have h1:=h x (by simp)
  have h2:=zro l (fun y hy=>h y (zA _ hy))
  rw[KE,zi,Nat.mul_add]
  omega
theorem zx7{cs:List Nat}{j:Nat}(hj:j≤cs.length)(h:∀i,j<i→i≤cs.length→hdM (cs.drop i)≤64):∀i,i≤cs.length→(Ye cs j).getD i 0≤64*(cs.length+1):=by
 have hall:∀x∈(mC (cs.drop j)).tail,x≤64:=by
  intro x hx
  obtain⟨t,ht,rfl⟩:=qk.1 hx
  have hl:=QW (cs.drop j)
  simp only[YZ,yx]at ht hl
  have h1:=zh0 (cs.drop j) (t+1) (by rw[yx];omega)
  rw[uZ]at h1
  have h2:=h (j+(t+1)) (by omega) (by omega)
  rw[←h1,zaR,qG,zd,ze (by rw[YZ];omega)]at h2
  exact h2
 have hlen:(mC (cs.drop j)).tail.length≤cs.length:=by
  rw[YZ,QW,yx];omega
 have htake:∀q,((mC (cs.drop j)).tail.take q).sum≤64*cs.length:=fun q=>by
  have h1:=zro ((mC (cs.drop j)).tail.take q) (fun x hx=>hall x (List.mem_of_mem_take hx))
  have h2:((mC (cs.drop j)).tail.take q).length≤cs.length:=by rw[zL];omega
  have:=Nat.mul_le_mul_left 64 h2
  omega
 intro i hi
 rw[zaf hi]
 split
 ·rw[QM]
  have:=htake (KP (j+1-i) (cs.drop j))
  omega
 ·by_cases h2:i=j
  ·rw[h2]
   by_cases h3:j<cs.length
   ·have h4:=zqv h3
    have h5:=h (j+1) (by omega) (by omega)
    have h6:QM cs (j+1) j≤64*cs.length:=by
     rw[QM]
     have hd:=zia h3
     have:(mC (cs.drop j)).tail=mC (cs.drop (j+1)):=by rw[hd,mC,List.tail_cons]
     have h7:=htake (KP (j+1+1-j) (cs.drop (j+1))+1)
     rw[this,zaR,uJ,KE]at h7
     omega
    omega
   ·rw[kd (by omega)]
    simp only[hdM,mC,jb]
    omega
  ·have:=h i (by omega) hi
   omega
end Go.Ax
namespace Go.Ax
open Go.Proofs
theorem zEW{l:List Int}{t:Nat}(h:t<l.length):l.getD t 0∈l:=by
 rw[zd,ze h];exact ya h
def zlQ(f:List V→Int→Int)(q:List V→Int→Prop):zN:=fun
 |[.slc false 2 (.int .i64 0) a0,.int .i64 a1]=>some ([q a0 a1],.int .i64 (f a0 a1))
 |_=>none
def idx(ls:List Int)(x:Int):Int:=match (List.range ls.length).find? fun t=>ls.getD t 0==x with
 |some t=>t
 |none=> -1
theorem zCL{ls:List Int}{x:Int}:decide (0≤idx ls x)=ls.contains x:=by
 rw[Bool.eq_iff_iff,decide_eq_true_eq,List.contains_iff_mem,idx]
 cases hf:(List.range ls.length).find? fun t=>ls.getD t 0==x with
 |some t=>
  rw[Zv]at hf
  simp only[beq_iff_eq,kn]at hf
  exact⟨fun _=>by rw[←hf.1];exact zEW hf.2.1,fun _=>by simp only;omega⟩
 |none=>
  rw[List.find?_eq_none]at hf
  refine⟨fun h=>by simp only at h;omega,fun h=>?_⟩
  obtain⟨t,ht,he⟩:=qk.1 h
  refine absurd ?_ (hf t (by simpa using ht))
  rw[zd,ze ht]
  simpa using he
def zjl(a:List V)(x:Int):Int:=idx (qb a) x
def zdj(a:List V)(_:Int):Prop:=jU a
theorem zgU:yT Tryz.prog 102 (zlQ zjl zdj):=by
 intro args ps r h hp
 unfold zlQ at h
 split at h
 ·rename_i a0 a1
  simp only[za,zb]at h
  obtain⟨rfl,rfl⟩:=h
  obtain⟨⟨ls,hls⟩,hll⟩:zdj a0 a1:=(zl.1 hp).1
  have hal:a0.length=ls.length:=by rw[hls,zj]
  rw[hal]at hll
  have gl:∀k,a0.getD k (.int .i64 0)=.int .i64 (ls.getD k 0):=fun k=>by rw[hls,zR]
  have hf0:zjl a0 a1=idx ls a1:=by rw[zjl,hls,zq]
  refine zD (T:=tab) (B:=[]) (Bi:=[]) [0,1,4,5] Tryz.func102 rfl rfl (by kernel_rfl) (zg rfl) zP zQ (by exact zy) (by exact zu) (by kernel_rfl) ?_
  intro L lp rr hL hr hf hlp
  conv=>cbv
  refine hlp (Int) _ _ _ [0,1,5] (fun x=>[(0,none,.val (.slc false 2 (.int .i64 0) a0)),(1,none,.val (.int .i64 a1)),(5,none,.val (.int .i64 x))])
   (fun x=>0≤x∧x≤ls.length∧∀t,t<x.toNat→ls.getD t 0≠a1) (fun x=>(ls.length-x).toNat) (0) (by subst hL;rfl) ?_ ?_
  ·exact⟨by simp,by simp,fun t ht=>by simp at ht⟩
  rintro i ⟨i0,i1,hI⟩ hfx ag hag
  conv=>cbv
  simp only[zp hL,sQ,hal,gl]
  refine⟨fun h2=>⟨i0,by omega,fun h3=>?_,fun h3=>?_⟩,fun h2=>?_⟩
  ·have hfi:((List.range ls.length).find? fun t=>ls.getD t 0==a1)=some i.toNat:=by
    rw[Zv]
    refine⟨by simpa using h3,by simp only[kn];omega,fun t ht=>?_⟩
    have:=hI t ht
    simpa using this
   rw[hr,hf0,idx,hfi]
   simp only
   rw[show((i.toNat:Nat):Int)=i by omega]
  ·rw[zo (n:=i+1) (by omega) (by omega)]
   refine hag (i+1) ⟨by omega,by omega,fun t ht=>?_⟩ (by omega)
   by_cases hti:t=i.toNat
   ·rw[hti];exact h3
   ·exact hI t (by omega)
  ·have hfi:((List.range ls.length).find? fun t=>ls.getD t 0==a1)=none:=by
    rw[List.find?_eq_none]
    intro t ht
    simp only[kn]at ht
    have:=hI t (by omega)
    simpa using this
   rw[hr,hf0,idx,hfi]
 ·cases h
def zch(f:List V→Int→Bool)(q:List V→Int→Prop):zN:=fun
 |[.slc false 2 (.int .i64 0) a0,.int .i64 a1]=>some ([q a0 a1],.bool (f a0 a1))
 |_=>none
def zha(a:List V)(x:Int):Bool:=(qb a).contains x
theorem zeI:yT Tryz.prog 68 (zch zha zdj):=by
 intro args ps r h hp
 unfold zch at h
 split at h
 ·rename_i a0 a1
  simp only[za,zb]at h
  obtain⟨rfl,rfl⟩:=h
  have hq:zdj a0 a1:=(zl.1 hp).1
  have g0:V.frzs a0=a0:=by obtain⟨⟨ls,hls⟩,_⟩:=hq;rw[hls,zG]
  generalize zdN:zjl=zl1
  generalize ux:zdj=Qx
  refine zD (T:=tab) (B:=[(102,zlQ zl1 Qx)]) (Bi:=[]) [0,1,4] Tryz.func68 rfl rfl (by kernel_rfl) (zg rfl) zP zQ (by subst zdN ux;exact(zm zgU zy)) (by subst zdN ux;exact zu) (by kernel_rfl) ?_
  intro L lp rr hL hr hf hlp
  conv=>cbv
  simp only[zp hL,sQ,g0]
  subst zdN ux
  exact⟨hq,by rw[hr,zha,←zCL];rfl⟩
 ·cases h
end Go.Ax
namespace Go.Ax
open Go.Proofs
def upL(P:List Int):Nat→Int→List Int
 |0,_=>[]
 |f+1,i=>if i<0 then[]else i::upL P f (P.getD i.toNat 0)
def yW(P:List Int)(i:Int):List Int:=(upL P 32 i).reverse
section
variable {P S Q:List Int}
theorem zn3(h:ClP P S Q):∀(f:Nat) (i:Int),i<P.length→i<f→-1≤i→∀g,f≤g→upL P g i=upL P f i
 |0,i,_,h2,_,g,_=>by
  have:i= -1:=by omega
  subst this
  cases g with
  |zero=>rfl
  |succ g=>
   have:upL P (g+1) (-1)=[]:=by rw[upL];exact if_pos (by omega)
   rw[this];rfl
 |f+1,i,h1,h2,h3,g,hg=>by
  obtain⟨k,rfl⟩:∃k,g=k+1:=⟨g-1,by omega⟩
  rw[upL,upL]
  by_cases h0:i<0
  ·rw[if_pos h0,if_pos h0]
  ·rw[if_neg h0,if_neg h0]
   have hl:=h.low (i:=i.toNat) (by omega)
   rw[zn3 h f _ (by omega) (by omega) (by omega) k (by omega)]
theorem zs9:yW P (-1)=[]:=by
 rw[yW,upL,if_pos (by omega)];rfl
theorem QT(h:ClP P S Q){i:Int}(h0:0≤i)(h1:i<P.length):yW P i=yW P (P.getD i.toNat 0)++[i]:=by
 have hl:=h.low (i:=i.toNat) (by omega)
 have hn:=h.n24
 rw[yW,yW,upL,if_neg (by omega),List.reverse_cons,zn3 h 31 _ (by omega) (by omega) (by omega) 32 (by omega)]
theorem zta(h:ClP P S Q){p:Int→Prop}(hn:p (-1))(hs:∀i:Int,0≤i→i<P.length→p (P.getD i.toNat 0)→p i):∀i:Int,-1≤i→i<P.length→p i:=by
 have key:∀(n:Nat) (i:Int),i<n→-1≤i→i<P.length→p i:=by
  intro n
  induction n with
  |zero=>
   intro i h1 h2 _
   have:i= -1:=by omega
   rw[this];exact hn
  |succ n ih=>
   intro i h1 h2 h3
   by_cases h0:i<0
   ·have:i= -1:=by omega
    rw[this];exact hn
   ·have hl:=h.low (i:=i.toNat) (by omega)
    exact hs i (by omega) h3 (ih _ (by omega) (by omega) (by omega))
 exact fun i h1 h2=>key (i+1).toNat i (by omega) h1 h2
theorem zfV(h:ClP P S Q):∀i:Int,-1≤i→i<P.length→(∀x∈yW P i,0≤x∧x≤i)∧(yW P i).Pairwise (·< ·):=by
 refine zta h ?_ (fun i h0 h1 ih=>?_)
 ·rw[zs9];exact⟨fun x hx=>(by cases hx),List.Pairwise.nil⟩
 ·have hl:=h.low (i:=i.toNat) (by omega)
  rw[QT h h0 h1]
  refine⟨fun x hx=>?_,?_⟩
  ·rcases yU.1 hx with hx|hx
   ·have:=ih.1 x hx
    omega
   ·rw[yp]at hx
    omega
  ·rw[List.pairwise_append]
   refine⟨ih.2,by simp,fun a ha b hb=>?_⟩
   rw[yp]at hb
   have:=ih.1 a ha
   omega
theorem ziT(h:ClP P S Q){i:Int}(h0: -1≤i)(h1:i<P.length):(yW P i).Nodup:=(zfV h i h0 h1).2.imp (fun h=>by omega)
theorem zdk(h:ClP P S Q){i:Int}(h0: -1≤i)(h1:i<P.length):(yW P i).length≤24:=by
 have h2:=zfV h i h0 h1
 have h3:=zrC (yW P i) (n:=P.length) (ziT h h0 h1) (fun x hx=>by have:=h2.1 x hx;omega)
 have:=h.n24
 omega
theorem zku{l:List Int}{x:Int}(h:x∈l):idx l x=(l.idxOf x:Nat):=by
 rw[idx]
 have hlt:=zax.2 h
 have:((List.range l.length).find? fun t=>l.getD t 0==x)=some (l.idxOf x):=by
  rw[Zv]
  refine⟨?_,by simpa using hlt,fun t ht=>?_⟩
  ·rw[zd,ze hlt]
   simp
  ·rw[zd,ze (by omega)]
   have:=List.not_of_lt_findIdx (p:=(·==x)) (xs:=l) (i:=t) ht
   simpa using this
 rw[this]
def KQ(S p:List Int)(j:Nat):Nat:=if 0≤S.getD (p.getD j 0).toNat 0 then((j:Int)-idx p (S.getD (p.getD j 0).toNat 0)).toNat else 0
def cdN(S p:List Int):List Nat:=qD (fun t=>KQ S p (t+1)) (p.length-1)
theorem zie(S p:List Int):(cdN S p).length=p.length-1:=qh _ _
theorem zww{l l':List Int}{x:Int}(h:x∈l):idx (l++l') x=idx l x:=by
 rw[zku h,zku (yU.2 (.inl h)),ze1,if_pos h]
theorem zA8{l l':List Int}{j:Nat}(h:j<l.length):(l++l').getD j 0=l.getD j 0:=by
 rw[zd,zd,yM h]
theorem zrM(l:List Int)(x:Int):(l++[x]).getD l.length 0=x:=by simp[zd]
theorem zBn{S p:List Int}{i:Int}(hp:∀x∈p,0≤S.getD x.toNat 0→S.getD x.toNat 0∈p){j:Nat}(hj:j<p.length):KQ S (p++[i]) j=KQ S p j:=by
 rw[KQ,KQ,zA8 hj]
 split
 ·rename_i h0
  rw[zww (hp _ (by rw[zd,ze hj];exact ya _) h0)]
 ·rfl
theorem zC4{S p:List Int}{i:Int}(hp:∀x∈p,0≤S.getD x.toNat 0→S.getD x.toNat 0∈p)(hne:p≠[]):cdN S (p++[i])=cdN S p++[KQ S (p++[i]) p.length]:=by
 have hl:=QG.2 hne
 rw[cdN,zk,qn,qU,show p.length=(p.length-1)+1 by omega,Jj]
 congr 1
 exact jY fun t ht=>zBn hp (by omega)
theorem zrx(h:ClP P S Q):∀i:Int,-1≤i→i<P.length→(∀x∈yW P i,0≤S.getD x.toNat 0→S.getD x.toNat 0∈yW P i)∧VC (cdN S (yW P i)):=by
 refine zta h ?_ (fun i h0 h1 ih=>?_)
 ·rw[zs9]
  exact⟨fun x hx=>by(cases hx),fun i hi=>by(rw[zie]at hi;simp at hi)⟩
 ·have hl:=h.low (i:=i.toNat) (by omega)
  obtain⟨ih1,ih2⟩:=ih
  rw[QT h h0 h1]
  obtain⟨q,hq⟩:∃q,q=P.getD i.toNat 0:=⟨_,rfl⟩
  rw[←hq]at ih1 ih2 hl ⊢
  have hsec:0≤S.getD i.toNat 0→0≤q∧(S.getD i.toNat 0=P.getD q.toNat 0∨S.getD i.toNat 0=S.getD q.toNat 0):=fun h2=>by
   have hi0:i.toNat≠0:=fun h3=>by have:=(hl.2.2.2.2.2 h3).2;omega
   have h3:=(zfX hi0).1 (h.place i.toNat (by omega))
   rw[←hq]at h3
   refine⟨h3.1.1,?_⟩
   rcases h3.2 with h4|h4
   ·omega
   ·exact h4.2
  have hin:0≤S.getD i.toNat 0→S.getD i.toNat 0∈yW P q:=fun h2=>by
   obtain⟨q0,h3⟩:=hsec h2
   have hql:=h.low (i:=q.toNat) (by omega)
   rcases h3 with h3|h3
   ·rw[h3,QT h q0 (by omega),QT h (i:=P.getD q.toNat 0) (by omega) (by omega)]
    simp
   ·rw[h3]
    refine ih1 q ?_ (by omega)
    rw[QT h q0 (by omega)]
    simp
  refine⟨fun x hx h2=>?_,?_⟩
  ·refine yU.2 (.inl ?_)
   rcases yU.1 hx with hx|hx
   ·exact ih1 x hx h2
   ·rw[yp]at hx
    rw[hx]at h2 ⊢
    exact hin h2
  ·by_cases hne:yW P q=[]
   ·rw[hne]
    intro t ht
    rw[zie]at ht
    simp at ht
   ·rw[zC4 ih1 hne]
    obtain⟨m,hm⟩:∃m,m=(yW P q).length:=⟨_,rfl⟩
    have hm1:1≤m:=by rw[hm];exact QG.2 hne
    have hcl:(cdN S (yW P q)).length=m-1:=by rw[zie,hm]
    intro t ht
    rw[zk,qn,hcl]at ht
    have hold:∀t,t<m-1→(cdN S (yW P q)++[KQ S (yW P q++[i]) (yW P q).length]).getD t 0=(cdN S (yW P q)).getD t 0:=fun t ht=>by
     rw[zd,zd,yM (by omega)]
    by_cases ht1:t<m-1
    ·have h3:=ih2 t (by omega)
     rw[hold t ht1,hold (t-1) (by omega)]
     exact h3
    ·have ht2:t=m-1:=by omega
     subst ht2
     have hnew:(cdN S (yW P q)++[KQ S (yW P q++[i]) (yW P q).length]).getD (m-1) 0=KQ S (yW P q++[i]) m:=by
      rw[zd,yn (by omega),hcl,jA,←hm]
      rfl
     rw[hnew]
     have hlast:(yW P q++[i]).getD m 0=i:=by rw[hm];exact zrM _ _
     rw[KQ,hlast]
     by_cases h2:0≤S.getD i.toNat 0
     ·rw[if_pos h2]
      right
      obtain⟨q0,h3⟩:=hsec h2
      have hql:=h.low (i:=q.toNat) (by omega)
      have hps:=QT h q0 (show q<P.length by omega)
      obtain⟨r,hr⟩:∃r,r=yW P (P.getD q.toNat 0):=⟨_,rfl⟩
      rw[←hr]at hps
      have hrm:m=r.length+1:=by rw[hm,hps];simp
      have hmem:=hin h2
      rw[zww hmem,zku hmem]
      by_cases h4:S.getD i.toNat 0=P.getD q.toNat 0
      ·have hr2:=QT h (i:=P.getD q.toNat 0) (by omega) (by omega)
       rw[←hr]at hr2
       obtain⟨r2,hr3⟩:∃r2,r2=yW P (P.getD (P.getD q.toNat 0).toNat 0):=⟨_,rfl⟩
       rw[←hr3]at hr2
       have hni:P.getD q.toNat 0∉r2:=fun hx=>by
        have hl2:=h.low (i:=(P.getD q.toNat 0).toNat) (by omega)
        rw[hr3]at hx
        have:=(zfV h _ (by omega) (by omega)).1 _ hx
        omega
       have hk:(yW P q).idxOf (S.getD i.toNat 0)=r2.length:=by
        rw[h4,hps,hr2,yf,ze1,if_neg hni]
        simp
       have hrl:r.length=r2.length+1:=by rw[hr2];simp
       rw[hk]
       refine⟨by omega,.inl (by omega)⟩
      ·have h5:S.getD i.toNat 0=S.getD q.toNat 0:=h3.resolve_left h4
       have hq0:q.toNat≠0:=fun h6=>by have:=(hql.2.2.2.2.2 h6).2;omega
       have hr0:r≠[]:=fun h6=>by
        have h7:=QT h (i:=P.getD q.toNat 0) (by omega) (by omega)
        rw[←hr,h6]at h7
        simp at h7
       have hrl:=QG.2 hr0
       have hsq:S.getD i.toNat 0∈r:=by
        have h6:=hmem
        rw[hps]at h6
        rcases yU.1 h6 with h6|h6
        ·exact h6
        ·rw[yp]at h6
         omega
       have hk:(yW P q).idxOf (S.getD i.toNat 0)<r.length:=by
        rw[hps,ze1,if_pos hsq]
        exact zax.2 hsq
       have hcq:(cdN S (yW P q)).getD (m-2) 0=m-1-(yW P q).idxOf (S.getD i.toNat 0):=by
        rw[cdN,Zy _ _ _ _ (by omega),show m-2+1=m-1 by omega,KQ]
        have h6:(yW P q).getD (m-1) 0=q:=by
         rw[hps,show m-1=r.length by omega];exact zrM _ _
        rw[h6,if_pos (by omega),←h5,zku hmem]
        omega
       have hle:=ih2.le (m-2) (by omega)
       rw[hcq]at hle
       refine⟨by omega,.inr ⟨by omega,?_⟩⟩
       rw[hold (m-1-1) (by omega),show m-1-1=m-2 by omega,hcq]
       omega
     ·rw[if_neg h2]
      exact .inl rfl
end
end Go.Ax
namespace Go.Ax
open Go.Proofs
theorem zts(l:List Nat)(i n:Nat):(yH l).set i (n:Int)=yH (l.set i n):=by
 simp only[yH,List.map_set]
theorem zdn(l:List Nat)(i:Nat):(yH l).getD i 0=((l.getD i 0:Nat):Int):=zad l i 0
theorem ziB{α:Type}{l:List α}{i j:Nat}{x z:α}(hi:i<l.length):(l.set i x).getD j z=if j=i then x else l.getD j z:=by
 simp only[zd,Jy]
 by_cases h:j=i
 ·rw[h,if_pos rfl,if_pos rfl,if_pos hi];rfl
 ·rw[if_neg (Ne.symm h),if_neg h]
theorem zCk(m:Nat):List.replicate m (V.int .i64 0)=I (yH (List.replicate m 0)):=by
 rw[I,yH,List.map_replicate,List.map_replicate]
 rfl
theorem zAx(m k:Nat):(List.replicate m (V.int .i64 0)).getD k (V.int .i64 0)=V.int .i64 0:=by
 rw[zd,jV]
 split<;>rfl
def zuw(f:List V→List V×Bool)(q:List V→Prop):zN:=fun
 |[.slc false 2 (.int .i64 0) a0]=>some ([q a0],.tup [.slc true 2 (.int .i64 0) ((f a0).1),.bool ((f a0).2)])
 |_=>none
def cvm(cs:List Nat):List V×Bool:=if(mC cs).tail.all (fun x=>decide (x≤64))=true then(I (yH (mC cs)),decide (hdM cs≤64))else([],false)
def zlG(a:List V):List V×Bool:=cvm (zgd (qb a))
def zfa(a:List V):Prop:=∃cs,a=I (yH cs)∧VC cs∧cs.length≤30
theorem zCX{cs:List Nat}{j:Nat}(h1:1≤j)(h2:j≤cs.length)(h:64<hdM (cs.drop j)):cvm cs=([],false):=by
 rw[cvm,if_neg]
 intro ha
 rw[yI]at ha
 have hl:=QW cs
 have h3:=zh0 cs j h2
 obtain⟨t,rfl⟩:∃t,j=t+1:=⟨j-1,by omega⟩
 rw[zaR,qG]at h3
 have ht:t<(mC cs).tail.length:=by rw[YZ];omega
 have h4:=ha _ (ya ht)
 rw[zd,ze ht]at h3
 simp only[Option.getD_some]at h3
 simp only[decide_eq_true_eq]at h4
 omega
theorem zBj{cs:List Nat}(h:∀i,1≤i→i≤cs.length→hdM (cs.drop i)≤64):cvm cs=(I (yH (mC cs)),decide (hdM cs≤64)):=by
 rw[cvm,if_pos]
 rw[yI]
 intro x hx
 obtain⟨t,ht,rfl⟩:=qk.1 hx
 have hl:=QW cs
 rw[YZ]at ht
 have h1:=zh0 cs (t+1) (by omega)
 have h2:=h (t+1) (by omega) (by omega)
 rw[←h1,zaR,qG,zd,ze (by rw[YZ];omega)]at h2
 simpa using h2
def zcG(cs:List Nat)(j:Nat):List Nat:=if j=0 then[]else if cs.getD (j-1) 0=0 then[j-1]else[j-cs.getD (j-1) 0,j-1]
def zqm(f:List V→Int→List V)(q:List V→Int→Prop):zN:=fun
 |[.slc false 2 (.int .i64 0) a0,.int .i64 a1]=>some ([q a0 a1],.slc true 2 (.int .i64 0) (f a0 a1))
 |_=>none
def zlC(a:List V)(j:Int):List V:=I (yH (zcG (zgd (qb a)) j.toNat))
def zsg(a:List V)(j:Int):Prop:=∃cs,a=I (yH cs)∧VC cs∧cs.length≤30∧0≤j∧j≤cs.length
theorem ziF:yT Tryz.prog 147 (zqm zlC zsg):=by
 intro args ps r h hp
 unfold zqm at h
 split at h
 ·rename_i a0 j
  simp only[za,zb]at h
  obtain⟨rfl,rfl⟩:=h
  obtain⟨cs,hcs,hv,hl,j0,j1⟩:zsg a0 j:=(zl.1 hp).1
  have g0:V.frzs a0=a0:=by rw[hcs,zG]
  have hal:a0.length=cs.length:=by rw[hcs,zj,uc]
  have ga:∀k,a0.getD k (.int .i64 0)=.int .i64 ((cs.getD k 0:Nat):Int):=fun k=>by rw[hcs,zR,zdn]
  have hf0:zlC a0 j=I (yH (zcG cs j.toNat)):=by rw[zlC,hcs,zq,zaV]
  refine zD (T:=tab) (B:=[]) (Bi:=[]) [0,1,4] Tryz.func147 rfl rfl (by kernel_rfl) (zg rfl) zP zQ (by exact zy) (by exact zu) (by kernel_rfl) ?_
  intro L lp rr hL hr hf hlp
  conv=>cbv
  simp only[zp hL,sQ,g0,hal,ga]
  refine⟨fun h1=>?_,fun h1=>?_⟩
  ·rw[hr,hf0,zcG,if_pos (by omega)]
   rfl
  ·obtain⟨t,ht⟩:∃t:Nat,j=t+1:=⟨(j-1).toNat,by omega⟩
   have he:j.toNat=t+1:=by omega
   have e1:IntKind.wrap .i64 (j-1)=(t:Int):=by rw[zo (by omega) (by omega)];omega
   have hle:=hv.le t (by omega)
   rw[hr,hf0,zcG,if_neg (by omega),he,qU]
   simp only[e1,zC]
   refine⟨by omega,by omega,fun h2=>?_,fun h2=>⟨by omega,by omega,?_⟩⟩
   ·rw[if_pos (by omega)]
    rfl
   ·have e4:IntKind.wrap .i64 (j-((cs.getD t 0:Nat):Int))=((t+1-cs.getD t 0:Nat):Int):=by rw[zo (by omega) (by omega)];omega
    rw[if_neg (by omega),e4]
    rfl
 ·cases h
def zbZ(A:List Nat)(j:Nat)(nl:List Nat):Nat→List Nat
 |0=>A
 |i+1=>(zbZ A j nl i).set (nl.getD i 0) ((zbZ A j nl i).getD (nl.getD i 0) 0+(zbZ A j nl i).getD j 0)
theorem zwT{A:List Nat}{j:Nat}{nl:List Nat}(h:∀i,i<nl.length→nl.getD i 0≠j∧nl.getD i 0<A.length):∀i,i≤nl.length→(zbZ A j nl i).length=A.length∧(zbZ A j nl i).getD j 0=A.getD j 0∧∀x,(zbZ A j nl i).getD x 0≤A.getD x 0+i*A.getD j 0
 |0,_=>⟨rfl,rfl,fun x=>by simp[zbZ]⟩
 |i+1,hi=>by
  obtain⟨h1,h2,h3⟩:=zwT h i (by omega)
  obtain⟨h4,h5⟩:=h i (by omega)
  refine⟨by rw[zbZ,yj,h1],?_,fun x=>?_⟩
  ·rw[zbZ,ziB (by rw[h1];exact h5),if_neg (Ne.symm h4)];exact h2
  ·rw[zbZ,ziB (by rw[h1];exact h5),jn]
   have:=h3 x
   split
   ·rename_i hx
    rw[←hx,h2]
    omega
   ·omega
theorem zBw{cs:List Nat}(hv:VC cs){t:Nat}(h:t<cs.length):zbZ (Ye cs (t+1)) (t+1) (zcG cs (t+1)) (zcG cs (t+1)).length=Ye cs t:=by
 rw[zcG,if_neg (by omega),qU]
 by_cases hc:cs.getD t 0=0
 ·rw[if_pos hc]
  exact zzd hv h hc
 ·rw[if_neg hc]
  obtain⟨h1,h2,h3⟩:=zAQ hv h rfl hc
  have hl:=zbW cs (t+1)
  simp only[zi,zr,zbZ,jb,qG]
  rw[ziB (by omega),if_neg (by omega),ziB (by omega),if_neg (by omega),List.set_comm _ _ (by omega)]
  exact h1
theorem zjZ:yT Tryz.prog 137 (zuw zlG zfa):=by
 intro args ps r h hp
 unfold zuw at h
 split at h
 ·rename_i a0
  simp only[za,zb]at h
  obtain⟨rfl,rfl⟩:=h
  obtain⟨cs,hcs,hv,hl⟩:zfa a0:=(zl.1 hp).1
  have g0:V.frzs a0=a0:=by rw[hcs,zG]
  have hal:a0.length=cs.length:=by rw[hcs,zj,uc]
  have ga:∀k,a0.getD k (.int .i64 0)=.int .i64 ((cs.getD k 0:Nat):Int):=fun k=>by rw[hcs,zR,zdn]
  have hf0:zlG a0=cvm cs:=by rw[zlG,hcs,zq,zaV]
  have hfp:∀j,zlC a0 j=I (yH (zcG cs j.toNat)):=fun j=>by rw[zlC,hcs,zq,zaV]
  have hqp:∀j:Int,0≤j→j≤cs.length→zsg a0 j:=fun j h0 h1=>⟨cs,hcs,hv,hl,h0,h1⟩
  obtain⟨n,hn⟩:∃n:Int,n=cs.length:=⟨_,rfl⟩
  generalize zqN:zlC=zw7
  generalize zqy:zsg=zwZ
  refine zD (T:=tab) (B:=[(1000000002,zig),(147,zqm zw7 zwZ)]) (Bi:=[]) [2000014056,0,3,4,5,6,7,8] Tryz.func137 rfl rfl (by kernel_rfl) (zg rfl) zP zQ (by subst zqN zqy;exact(zm zpQ (zm ziF zy))) (by subst zqN zqy;exact zu) (by kernel_rfl) ?_
  intro L lp rr hL hr hf hlp
  have Ep:∀j,zw7 a0 j=I (yH (zcG cs j.toNat)):=by rw[←zqN];exact hfp
  have Qp:∀j:Int,0≤j→j≤cs.length→zwZ a0 j:=by rw[←zqy];exact hqp
  conv=>cbv
  simp only[zp hL,sQ,g0,hal,←hn]
  rw[zo (n:=n+1) (by omega) (by omega),zo (n:=n+1-1) (by omega) (by omega),show n+1-1=n by omega]
  obtain⟨s0,hs0⟩:∃s0,s0=(List.replicate (n+1).toNat (V.int IntKind.i64 0)).set n.toNat (V.int IntKind.i64 1):=⟨_,rfl⟩
  have hs00:s0=I (yH (Ye cs cs.length)):=by
   rw[hs0,zx6,show(n+1).toNat=cs.length+1 by omega,show n.toNat=cs.length by omega]
   have e:=zCk (cs.length+1)
   have e2:(List.replicate (cs.length+1) 0).set cs.length 1=List.replicate cs.length 0++[1]:=by
    rw[jo,uY _ _ (by simp)]
    simp
   rw[e,KY,show(1:Int)=((1:Nat):Int)from rfl,zts,e2]
  rw[←hs0,zAx,zT]
  refine⟨by omega,by omega,by omega,by omega,by omega,by omega,rfl,?_⟩
  refine hlp (List V×Int) _ _ _ [0,5,6] (fun x=>[(0,none,.val (.slc false 2 (.int .i64 0) a0)),(5,none,.val (.slc true 2 (.int .i64 0) x.1)),(6,none,.val (.int .i64 x.2))])
   (fun x=>0≤x.2∧x.2≤n∧x.1=I (yH (Ye cs x.2.toNat))∧∀i:Nat,x.2<i→i≤cs.length→hdM (cs.drop i)≤64) (fun x=>x.2.toNat) ((s0,n)) (by subst hL;rfl) ?_ ?_
  ·exact⟨by omega,by simp,by rw[hs00,hn];rfl,fun i h1 h2=>by simp only at h1;omega⟩
  rintro⟨ms,j⟩ ⟨j0,j1,hM,hbd⟩ hfx ag hag
  simp only at j0 j1 hM hbd
  have hml:ms.length=cs.length+1:=by rw[hM,zj,uc,zbW]
  have gm:∀k,ms.getD k (.int .i64 0)=.int .i64 (((Ye cs j.toNat).getD k 0:Nat):Int):=fun k=>by rw[hM,zR,zdn]
  conv=>cbv
  simp only[zp hL,sQ,g0,hal,ga,gm,hml,Ep]
  refine⟨fun h2=>?_,fun h2=>?_⟩
  ·obtain⟨t,ht⟩:∃t:Nat,j=t+1:=⟨(j-1).toNat,by omega⟩
   have he:j.toNat=t+1:=by omega
   obtain⟨A,hA⟩:∃A,A=Ye cs (t+1):=⟨_,rfl⟩
   rw[he,←hA]at hM gm
   have hsm:∀i,A.getD i 0≤1984:=fun i=>by
    by_cases hi:i≤cs.length
    ·rw[hA]
     have:=zx7 (cs:=cs) (j:=t+1) (by omega) (fun i h1 h2=>hbd i (by omega) h2) i hi
     omega
    ·rw[zd,zI (by rw[hA,zbW];omega)]
     exact Jp _
   have hA1:A.getD (t+1) 0=hdM (cs.drop (t+1)):=by rw[hA,zaf (by omega),if_neg (by omega)]
   have hAl:A.length=cs.length+1:=by rw[hA,zbW]
   obtain⟨nl,hnl⟩:∃nl,nl=zcG cs (t+1):=⟨_,rfl⟩
   obtain⟨vn,hvn⟩:∃vn,vn=I (yH nl):=⟨_,rfl⟩
   have hnok:nl.length≤2∧∀i,i<nl.length→nl.getD i 0≠t+1∧nl.getD i 0<A.length:=by
    have hle:=hv.le t (by omega)
    rw[hnl,zcG,if_neg (by omega),qU]
    split
    ·refine⟨by simp,fun i hi=>?_⟩
     have:i=0:=by simp at hi;omega
     subst this
     simp only[jb]
     omega
    ·refine⟨by simp,fun i hi=>?_⟩
     have:i=0∨i=1:=by simp at hi;omega
     rcases this with rfl|rfl
     ·simp only[jb]
      omega
     ·simp only[qG,jb]
      omega
   have hvl:vn.length=nl.length:=by rw[hvn,zj,uc]
   have gvn:∀k,vn.getD k (.int .i64 0)=.int .i64 ((nl.getD k 0:Nat):Int):=fun k=>by rw[hvn,zR,zdn]
   have hend:=zBw hv (t:=t) (by omega)
   rw[←hA,←hnl]at hend
   simp only[he,←hA,←hnl,←hvn]
   refine⟨j0,by omega,by omega,fun h3=>?_,fun h3=>⟨Qp j j0 (by omega),?_⟩⟩
   ·rw[hr,hf0,zCX (j:=t+1) (by omega) (by omega) (by rw[←hA1];omega)]
   have h3':A.getD (t+1) 0≤64:=by omega
   refine hlp (List V×Int) _ _ _ [0,5,6,7,8] (fun x=>[(0,none,.val (.slc false 2 (.int .i64 0) a0)),(5,none,.val (.slc true 2 (.int .i64 0) x.1)),(6,none,.val (.int .i64 j)),(7,none,.val (.slc true 2 (.int .i64 0) vn)),(8,none,.val (.int .i64 x.2))])
    (fun x=>0≤x.2∧x.2≤nl.length∧x.1=I (yH (zbZ A (t+1) nl x.2.toNat))) (fun x=>(nl.length-x.2).toNat) ((ms,0)) (by subst hL;rfl) ?_ ?_
   ·exact⟨by simp,by simp,hM⟩
   rintro⟨bs,i⟩ ⟨i0,i1,hB⟩ hfx2 ag2 hag2
   simp only at i0 i1 hB
   obtain⟨B,hBB⟩:∃B,B=zbZ A (t+1) nl i.toNat:=⟨_,rfl⟩
   obtain⟨b1,b2,b3⟩:=zwT hnok.2 i.toNat (by omega)
   rw[←hBB]at hB b1 b2 b3
   have hbl:bs.length=cs.length+1:=by rw[hB,zj,uc,b1,hAl]
   have gb:∀k,bs.getD k (.int .i64 0)=.int .i64 ((B.getD k 0:Nat):Int):=fun k=>by rw[hB,zR,zdn]
   have hBs:∀k,B.getD k 0≤2112:=fun k=>by
    have h4:=b3 k
    have h5:=hsm k
    have h6:i.toNat*A.getD (t+1) 0≤2*64:=Nat.mul_le_mul (by omega) h3'
    omega
   conv=>cbv
   simp only[zp hL,sQ,gvn,hvl,gb,hbl]
   refine⟨fun h4=>?_,fun h4=>?_⟩
   ·obtain⟨k,hk⟩:∃k,k=nl.getD i.toNat 0:=⟨_,rfl⟩
    obtain⟨k1,k2⟩:=hnok.2 i.toNat (by omega)
    rw[←hk]at k1 k2
    simp only[←hk,he,zC]
    have hk2:=hBs k
    have hk3:=hBs (t+1)
    have e5:IntKind.wrap .i64 (((B.getD k 0:Nat):Int)+((B.getD (t+1) 0:Nat):Int))=((B.getD k 0+B.getD (t+1) 0:Nat):Int):=by
     rw[zo (by omega) (by omega)];omega
    rw[e5,zo (n:=i+1) (by omega) (by omega)]
    refine⟨by omega,by omega,by omega,by omega,by omega,by omega,by omega,by omega,by omega,by omega,by omega,by omega,by omega,by omega,by omega,?_⟩
    refine hag2 (_,i+1) ⟨by simp only;omega,by simp only;omega,?_⟩ (by simp only;omega)
    simp only[zU i0]
    rw[zbZ,←hBB,←hk,hB,KY,zts]
   ·rw[zo (n:=j-1) (by omega) (by omega)]
    refine hag (bs,j-1) ⟨by simp only;omega,by simp only;omega,?_,fun q h5 h6=>?_⟩ (by simp only;omega)
    ·simp only
     rw[hB,hBB,show i.toNat=nl.length by omega,hend,show(j-1).toNat=t by omega]
    ·simp only at h5
     by_cases h7:q=t+1
     ·rw[h7,←hA1];omega
     ·exact hbd q (by omega) h6
  ·have h3:j=0:=by omega
   have e0:j.toNat=0:=by omega
   rw[e0]at hM
   refine⟨by omega,by omega,by omega,?_⟩
   rw[hr,hf0,zBj (fun i h1 h2=>hbd i (by omega) h2),hM,e0,zAR]
   have e6:decide ((((mC cs).getD 0 0:Nat):Int)≤64)=decide (hdM cs≤64):=by
    rw[hdM]
    exact decide_eq_decide.2 (by omega)
   rw[e6]
 ·cases h
def zux(f:List V→Bool)(q:List V→Prop):zN:=fun
 |[.slc false 2 (.int .i64 0) a0]=>some ([q a0],.bool (f a0))
 |_=>none
def zt5(_:List V):Bool:=true
theorem zsT:yT Tryz.prog 136 (zux zt5 zfa):=by
 intro args ps r h hp
 unfold zux at h
 split at h
 ·rename_i a0
  simp only[za,zb]at h
  obtain⟨rfl,rfl⟩:=h
  obtain⟨cs,hcs,hv,hl⟩:zfa a0:=(zl.1 hp).1
  have g0:V.frzs a0=a0:=by rw[hcs,zG]
  have hal:a0.length=cs.length:=by rw[hcs,zj,uc]
  have ga:∀k,a0.getD k (.int .i64 0)=.int .i64 ((cs.getD k 0:Nat):Int):=fun k=>by rw[hcs,zR,zdn]
  refine zD (T:=tab) (B:=[]) (Bi:=[]) [0,2,3] Tryz.func136 rfl rfl (by kernel_rfl) (zg rfl) zP zQ (by exact zy) (by exact zu) (by kernel_rfl) ?_
  intro L lp rr hL hr hf hlp
  conv=>cbv
  refine hlp (Int) _ _ _ [0,3] (fun x=>[(0,none,.val (.slc false 2 (.int .i64 0) a0)),(3,none,.val (.int .i64 x))])
   (fun x=>0≤x∧x≤cs.length) (fun x=>(cs.length-x).toNat) (0) (by subst hL;rfl) ?_ ?_
  ·exact⟨by simp,by simp⟩
  rintro i ⟨i0,i1⟩ hfx ag hag
  conv=>cbv
  simp only[zp hL,sQ,g0,hal,ga]
  have hnx:i<cs.length→ag [(0,none,A.val (V.slc false 2 (V.int .i64 0) a0)),(3,none,A.val (V.int .i64 (IntKind.wrap .i64 (i+1))))]:=fun h=>by
   rw[zo (n:=i+1) (by omega) (by omega)]
   exact hag (i+1) ⟨by omega,by omega⟩ (by omega)
  refine⟨fun h2=>⟨i0,h2,fun h3=>hnx h2,fun h3=>?_⟩,fun h2=>?_⟩
  ·have hvi:=hv i.toNat (by omega)
   have e1:i≠0→IntKind.wrap .i64 (i-1)=i-1:=fun h=>zo (by omega) (by omega)
   rcases hvi with h4|⟨h4,h5⟩
   ·omega
   ·rw[e1 (by omega),show(i-1).toNat=i.toNat-1 by omega]
    refine⟨fun h6=>by omega,fun h6=>⟨i0,h2,fun h7=>hnx h2,fun h7=>?_⟩⟩
    rcases h5 with h5|⟨h5,h8⟩
    ·omega
    have hle:=hv.le i.toNat (by omega)
    have e2:IntKind.wrap .i64 (((cs.getD (i.toNat-1) 0:Nat):Int)+1)=((cs.getD i.toNat 0:Nat):Int):=by
     rw[zo (by omega) (by omega)];omega
    rw[e2]
    refine⟨by omega,by omega,fun _=>i0,fun _=>h2,fun _=>trivial,fun _=>by omega,fun _=>by omega,fun _=>trivial,fun h9=>?_,fun h9=>hnx h2⟩
    rcases h9 with h9|h9
    ·omega
    ·exact absurd rfl h9
  ·rw[hr,zt5]
   have:decide ((cs.length:Int)<400)=true:=by rw[decide_eq_true_eq];omega
   rw[this]
 ·cases h
def zuA(f:Int→List V)(q:Int→Prop):zN:=fun
 |[.int .i64 a0]=>some ([q a0],.slc true 2 (.int .i64 0) (f a0))
 |_=>none
def zh5(k:Int):List V:=I (yH (List.replicate k.toNat 1))
def zs5(k:Int):Prop:=0≤k∧k≤1000
theorem zpG:yT Tryz.prog 139 (zuA zh5 zs5):=by
 intro args ps r h hp
 unfold zuA at h
 split at h
 ·rename_i k
  simp only[za,zb]at h
  obtain⟨rfl,rfl⟩:=h
  obtain⟨k0,k1⟩:zs5 k:=(zl.1 hp).1
  refine zD (T:=tab) (B:=[]) (Bi:=[]) [0,2,3] Tryz.func139 rfl rfl (by kernel_rfl) (zg rfl) zP zQ (by exact zy) (by exact zu) (by kernel_rfl) ?_
  intro L lp rr hL hr hf hlp
  conv=>cbv
  refine hlp (List V×Int) _ _ _ [0,3] (fun x=>[(0,none,.val (.int .i64 x.2)),(3,none,.val (.slc true 2 (.int .i64 0) x.1))])
   (fun x=>0≤x.2∧x.2≤k∧x.1=I (yH (List.replicate (k-x.2).toNat 1))) (fun x=>x.2.toNat) (([],k)) (by subst hL;rfl) ?_ ?_
  ·exact⟨by simp only;omega,by simp,by simp[yH,I]⟩
  rintro⟨os,j⟩ ⟨j0,j1,hO⟩ hfx ag hag
  simp only at j0 j1 hO
  have hol:os.length≤1000:=by rw[hO,zj,uc,zT];omega
  conv=>cbv
  simp only[zp hL,sQ,true_and]
  refine⟨fun h2=>?_,fun h2=>?_⟩
  ·rw[zo (n:=j-1) (by omega) (by omega)]
   (repeat' first|(exact yR _)|(exact jZ rfl)|(exact qL _)|(apply And.intro)|(intro _))<;>(try first|exact True.intro|omega|rfl|(simp only[zi,zr,zj];omega))
   refine hag (_,j-1) ⟨by simp only;omega,by simp only;omega,?_⟩ (by simp only;omega)
   simp only
   rw[hO,show(k-(j-1)).toNat=(k-j).toNat+1 by omega,jo,zbn,←qr]
   rfl
  ·rw[hr,zh5,hO,show(k-j).toNat=k.toNat by omega]
 ·cases h
end Go.Ax
namespace Go.Ax
open Go.Proofs
end Go.Ax
namespace Go.Ax
open Go.Proofs
end Go.Ax
namespace Go.Ax
open Go.Proofs
end Go.Ax
namespace Go.Ax
open Go.Proofs
end Go.Ax
namespace Go.Ax
open Go.Proofs
structure GrN (n:Nat) (es:List (List Int)):Prop where
 n1:1≤n
 n2:n≤40
 el:es.length≤400
 eok:zsu n none es=true
 ed:∀e∈es,zEn n e
 lt:∀e∈es,e0 e<e1 e
end Go.Ax
namespace Go.Ax
open Go.Proofs
end Go.Ax
namespace Go.Ax
open Go.Proofs
def zuE(f:List V→List V→List V→Int→Int)(q:List V→List V→List V→Int→Prop):zN:=fun
 |[.agg [.slc false 2 (.int .i64 0) a0,.slc false 2 (.int .i64 0) a1,.slc false 2 (.int .i64 0) a2],.int .i64 a3]=>some ([q a0 a1 a2 a3],.int .i64 (f a0 a1 a2 a3))
 |_=>none
end Go.Ax
namespace Go.Ax
open Go.Proofs
end Go.Ax
namespace Go.Ax
open Go.Proofs
theorem zvJ{P S Q:List Int}(h:ClP P S Q){k:Nat}(hk:k<P.length):(zlr P S k).Nodup:=by
 obtain⟨l1,l2,l3,l4,l5,l6⟩:=h.low hk
 rw[zlr]
 by_cases h0:k=0
 ·rw[if_pos h0];exact zik
 ·rw[if_neg h0]
  by_cases h1:0≤S.getD k 0
  ·rw[if_pos h1]
   have hne:S.getD k 0≠P.getD k 0:=by
    have h5:=l5 (by omega)
    obtain⟨_,h3⟩:=(zfX h0).1 (h.place k hk)
    obtain⟨m1,m2,m3,m4,m5,m6⟩:=h.low (i:=(P.getD k 0).toNat) (by omega)
    by_cases hz:(P.getD k 0).toNat=0
    ·have:=m6 hz
     omega
    ·have:=m4 (by omega)
     omega
   simp only[zV,qQ,List.nodup_cons,yp,Kr,not_false_eq_true,zik,and_true]
   exact hne
  ·rw[if_neg h1];simp
def JY(pm:List (List Int))(w:List Int):Nat→Nat→Int
 |0,a=>w.getD a 0
 |j+1,a=>if(a:Int)∈pm.getD j []then W (JY pm w j a-w.getD j 0)else JY pm w j a
def exL(P S Q:List Int)(a:Nat):Int:=JY (cpx P S P.length P.length) Q P.length a
def zgn(f:List V→List V→List V→List V→List V)(q:List V→List V→List V→List V→Prop):zN:=fun
 |[.agg [.slc false 2 (.int .i64 0) a0,.slc false 2 (.int .i64 0) a1,.slc false 2 (.int .i64 0) a2],.slc false 2 (.int .i64 0) a3]=>some ([q a0 a1 a2 a3],.slc true 2 (.int .i64 0) (f a0 a1 a2 a3))
 |_=>none
def zcN(a b _ d:List V):List V:=I (qD (exL (qb a) (qb b) (qb d)) a.length)
def zsj(a b c d:List V):Prop:=zeK a b c∧d=c
theorem zfM:yT Tryz.prog 112 (zgn zcN zsj):=by
 intro args ps r h hp
 unfold zgn at h
 split at h
 ·rename_i a0 a1 a2 a3
  simp only[za,zb]at h
  obtain⟨rfl,rfl⟩:=h
  obtain⟨hqv,h3⟩:zsj a0 a1 a2 a3:=(zl.1 hp).1
  subst h3
  obtain⟨⟨⟨P,hP⟩,⟨S,hS⟩,⟨Q,hQ⟩⟩,hcl⟩:=id hqv
  rw[hP,hS,hQ,zq,zq,zq]at hcl
  have g0:V.frzs a0=a0:=by rw[hP,zG]
  have g1:V.frzs a1=a1:=by rw[hS,zG]
  have g2:V.frzs a3=a3:=by rw[hQ,zG]
  have hpl:a0.length=P.length:=by rw[hP,zj]
  have hsl:a1.length=P.length:=by rw[hS,zj,hcl.sl]
  have hql:a3.length=P.length:=by rw[hQ,zj,hcl.ql]
  have gp:∀k,a0.getD k (.int .i64 0)=.int .i64 (P.getD k 0):=fun k=>by rw[hP,zR]
  have gs:∀k,a1.getD k (.int .i64 0)=.int .i64 (S.getD k 0):=fun k=>by rw[hS,zR]
  have gq:∀k,a3.getD k (.int .i64 0)=.int .i64 (Q.getD k 0):=fun k=>by rw[hQ,zR]
  obtain⟨n,hn⟩:∃n:Int,n=P.length:=⟨_,rfl⟩
  have n1:=hcl.n1
  have n24:=hcl.n24
  have low:=fun t ht=>hcl.low (i:=t) ht
  obtain⟨pm,hpm⟩:∃pm,pm=cpx P S P.length P.length:=⟨_,rfl⟩
  have hf0:zcN a0 a1 a3 a3=I (qD (JY pm Q P.length) P.length):=by rw[zcN,hpl,hP,hS,hQ,zq,zq,zq,hpm];rfl
  have hmem:∀j a:Nat,j<P.length→((a:Int)∈pm.getD j []↔P.getD j 0=a∨S.getD j 0=a):=fun j a hj=>by
   rw[hpm,cpx,Zy _ _ _ _ hj,if_pos hj]
   exact zze hcl hj
  generalize qu:same=jB
  generalize yv:jU=qA
  refine zD (T:=tab) (B:=[(70,jJ jB qA)]) (Bi:=[]) [0,1,2,4,5,6] Tryz.func112 rfl rfl (by kernel_rfl) (zg rfl) zP zQ (by subst qu yv;exact(zm Kw zy)) (by subst qu yv;exact zu) (by kernel_rfl) ?_
  intro L lp rr hL hr hf hlp
  have Es:jB a3=a3:=by rw[←qu,same]
  conv=>cbv
  simp only[zp hL,sQ,g0,g1,g2,Es]
  refine⟨by rw[←yv];exact⟨⟨_,hQ⟩,by omega⟩,?_⟩
  refine hlp (List V×Int) _ _ _ [1,2,5,6] (fun x=>[(1,none,.val (.slc false 2 (.int .i64 0) a3)),(2,none,.val (.box 78 (.agg [.slc false 2 (.int .i64 0) a0,.slc false 2 (.int .i64 0) a1,.slc false 2 (.int .i64 0) a3]))),(5,none,.val (.slc true 2 (.int .i64 0) x.1)),(6,none,.val (.int .i64 x.2))])
   (fun x=>1≤x.2∧x.2≤n∧x.1=I (qD (JY pm Q x.2.toNat) P.length)) (fun x=>(n-x.2).toNat) ((a3,1)) (by subst hL;rfl) ?_ ?_
  ·refine⟨by simp,by simp only;omega,?_⟩
   simp only
   rw[hQ]
   congr 1
   obtain⟨l1,l2,l3,l4,l5,l6⟩:=low 0 (by omega)
   apply yS
   intro j
   by_cases hj:j<P.length
   ·rw[uR _ _ _ hj,ze (by have:=hcl.ql;omega),show(1:Int).toNat=0+1 from rfl,JY,if_neg (by rw[hmem 0 j (by omega)];have:=l6 rfl;omega)]
    simp[JY,zd,ze (show j<Q.length by have:=hcl.ql;omega)]
   ·rw[zI (by have:=hcl.ql;omega),zI (by rw[qh];omega)]
  rintro⟨ls,j⟩ ⟨j0,j1,hJ⟩ hfx ag hag
  simp only at j0 j1 hJ
  have hll:ls.length=P.length:=by rw[hJ,zj,qh]
  have gls:∀k,ls.getD k (.int .i64 0)=.int .i64 ((qD (JY pm Q j.toNat) P.length).getD k 0):=fun k=>by rw[hJ,zR]
  conv=>cbv
  simp only[zp hL,sQ,g0,g1,g2,hpl,hsl,hql,←hn,gp,gs,gq,hll,gls]
  refine⟨fun h2=>?_,fun h2=>?_⟩
  ·obtain⟨jt,hjt⟩:∃jt,jt=j.toNat:=⟨_,rfl⟩
   have hjn:jt<P.length:=by omega
   rw[←hjt]at hJ
   simp only[←hjt]
   obtain⟨l1,l2,l3,l4,l5,l6⟩:=low jt hjn
   have h5:=l5 (by omega)
   have h4:=l4 (by omega)
   have hm1:=fun a:Nat=>hmem jt a hjn
   obtain⟨pp,hpp⟩:∃pp,pp=P.getD jt 0:=⟨_,rfl⟩
   obtain⟨ss,hss⟩:∃ss,ss=S.getD jt 0:=⟨_,rfl⟩
   have hne:0≤ss→ss≠pp:=fun h0=>by
    have:=zvJ hcl hjn
    rw[zlr,if_neg (by omega),←hss,←hpp,if_pos h0]at this
    simp only[zV,qQ,List.nodup_cons,yp,Kr,not_false_eq_true,zik,and_true]at this
    exact this
   simp only[←hpp,←hss]at l1 l2 l3 h4 h5 hm1 ⊢
   obtain⟨p,hp9⟩:∃p,p=pp.toNat:=⟨_,rfl⟩
   obtain⟨s,hs9⟩:∃s,s=ss.toNat:=⟨_,rfl⟩
   have hpn:p<P.length:=by omega
   have hpc:(p:Int)=pp:=by omega
   simp only[←hp9,←hs9]
   have hgv:(qD (JY pm Q jt) P.length).getD p 0=JY pm Q jt p:=Zy _ _ _ _ hpn
   rw[hgv]
   obtain⟨l2',hl2'⟩:∃l2',l2'=ls.set p (.int .i64 (IntKind.wrap .i64 (JY pm Q jt p-Q.getD jt 0))):=⟨_,rfl⟩
   have hl2e:l2'=I (qD (fun a=>if a=p then W (JY pm Q jt p-Q.getD jt 0)else JY pm Q jt a) P.length):=by rw[hl2',hJ,KY,zsI _ _ hpn]
   have hl2l:l2'.length=P.length:=by rw[hl2e,zj,qh]
   have gl2:∀k,l2'.getD k (.int .i64 0)=.int .i64 ((qD (fun a=>if a=p then W (JY pm Q jt p-Q.getD jt 0)else JY pm Q jt a) P.length).getD k 0):=fun k=>by rw[hl2e,zR]
   rw[←hl2']
   simp only[gl2,hl2l,JD,ui]
   have hwj:IntKind.wrap .i64 (j+1)=j+1:=zo (by omega) (by omega)
   rw[hwj]
   have j0':0≤j:=by omega
   have hpn2:pp<n:=by omega
   refine⟨j0',h2,j0',h2,h5,hpn2,hpn,j0',h2,h5,hpn2,hpn,j0',h2,fun h6=>?_,fun h6=>?_⟩
   ·have hsn:s<P.length:=by omega
    have hsc:(s:Int)=ss:=by omega
    have hsp:s≠p:=by have:=hne h6;omega
    have hgs:(qD (fun a=>if a=p then W (JY pm Q jt p-Q.getD jt 0)else JY pm Q jt a) P.length).getD s 0=JY pm Q jt s:=by rw[Zy _ _ _ _ hsn,if_neg hsp]
    rw[hgs]
    refine⟨j0',h2,j0',h2,h6,by omega,hsn,trivial,j0',h2,h6,by omega,hsn,trivial,?_⟩
    refine hag (_,j+1) ⟨by simp only;omega,by simp only;omega,?_⟩ (by simp only;omega)
    simp only[zU j0']
    rw[←hjt,hl2e,KY,zsI _ _ hsn]
    congr 1
    refine jY fun a ha=>?_
    rw[JY]
    by_cases h8:a=s
    ·rw[if_pos h8,if_pos ((hm1 a).2 (.inr (by omega))),h8]
    ·rw[if_neg h8]
     by_cases h7:a=p
     ·rw[if_pos h7,if_pos ((hm1 a).2 (.inl (by omega))),h7]
     ·rw[if_neg h7,if_neg (fun h=>by rcases (hm1 a).1 h with h|h<;>omega)]
   ·refine hag (l2',j+1) ⟨by simp only;omega,by simp only;omega,?_⟩ (by simp only;omega)
    simp only[zU j0']
    rw[←hjt,hl2e]
    congr 1
    refine jY fun a ha=>?_
    rw[JY]
    by_cases h7:a=p
    ·rw[if_pos h7,if_pos ((hm1 a).2 (.inl (by omega))),h7]
    ·rw[if_neg h7,if_neg (fun h=>by rcases (hm1 a).1 h with h|h<;>omega)]
  ·rw[hr,hf0,hJ,show j.toNat=P.length by omega]
 ·cases h
end Go.Ax
namespace Go.Ax
open Go.Proofs
def zlS(f:List V→List V→List V→Int→List V)(q:List V→List V→List V→Int→Prop):zN:=fun
 |[.agg [.slc false 2 (.int .i64 0) a0,.slc false 2 (.int .i64 0) a1,.slc false 2 (.int .i64 0) a2],.int .i64 a3]=>some ([q a0 a1 a2 a3],.slc true 2 (.int .i64 0) (f a0 a1 a2 a3))
 |_=>none
def zeu(a _ _:List V)(i:Int):List V:=I (yW (qb a) i)
def zkb(a b c:List V)(i:Int):Prop:=zeK a b c∧0≤i∧i<a.length
theorem zB9{P S Q:List Int}(h:ClP P S Q){i:Int}(h0:0≤i)(h1:i<P.length):upL P 32 i=i::upL P 32 (P.getD i.toNat 0):=by
 have h2:=congrArg List.reverse (QT h h0 h1)
 rw[yW,yW,List.reverse_reverse,List.reverse_append,List.reverse_reverse]at h2
 simpa using h2
theorem zDp(P:List Int){i:Int}(h:i<0):upL P 32 i=[]:=by rw[upL,if_pos h]
theorem zDq{P S Q:List Int}(h:ClP P S Q){i:Int}(h0: -1≤i)(h1:i<P.length):(upL P 32 i).length≤24:=by
 have:=zdk h h0 h1
 rwa [yW,QF]at this
theorem zhS:yT Tryz.prog 94 (zlS zeu zkb):=by
 intro args ps r h hp
 unfold zlS at h
 split at h
 ·rename_i a0 a1 a2 i
  simp only[za,zb]at h
  obtain⟨rfl,rfl⟩:=h
  obtain⟨hqv,i0,i1⟩:zkb a0 a1 a2 i:=(zl.1 hp).1
  obtain⟨⟨⟨P,hP⟩,⟨S,hS⟩,⟨Q,hQ⟩⟩,hcl⟩:=id hqv
  rw[hP,hS,hQ,zq,zq,zq]at hcl
  have g0:V.frzs a0=a0:=by rw[hP,zG]
  have g1:V.frzs a1=a1:=by rw[hS,zG]
  have g2:V.frzs a2=a2:=by rw[hQ,zG]
  have hpl:a0.length=P.length:=by rw[hP,zj]
  have gp:∀k,a0.getD k (.int .i64 0)=.int .i64 (P.getD k 0):=fun k=>by rw[hP,zR]
  have n24:=hcl.n24
  have hf0:zeu a0 a1 a2 i=I (yW P i):=by rw[zeu,hP,zq]
  rw[hpl]at i1
  refine zD (T:=tab) (B:=[]) (Bi:=[]) [0,1,2,4,5] Tryz.func94 rfl rfl (by kernel_rfl) (zg rfl) zP zQ (by exact zy) (by exact zu) (by kernel_rfl) ?_
  intro L lp rr hL hr hf hlp
  conv=>cbv
  refine hlp (List V×Int) _ _ _ [1,2,5] (fun x=>[(1,none,.val (.int .i64 x.2)),(2,none,.val (.box 78 (.agg [.slc false 2 (.int .i64 0) a0,.slc false 2 (.int .i64 0) a1,.slc false 2 (.int .i64 0) a2]))),(5,none,.val (.slc true 2 (.int .i64 0) x.1))])
   (fun x=> -1≤x.2∧x.2<P.length∧∃ls,x.1=I ls.reverse∧ls++upL P 32 x.2=upL P 32 i) (fun x=>(x.2+1).toNat) (([],i)) (by subst hL;rfl) ?_ ?_
  ·exact⟨by simp only;omega,by simp only;exact i1,[],rfl,rfl⟩
  rintro⟨os,j⟩ ⟨j0,j1,ls,hO,hU⟩ hfx ag hag
  simp only at j0 j1 hO hU
  have hul:=zDq hcl (show-1≤i by omega) i1
  have hll:ls.length≤24:=by rw[←hU,zk]at hul;omega
  have hol:os.length=ls.length:=by rw[hO,zj,QF]
  conv=>cbv
  simp only[zp hL,sQ,g0,g1,g2,gp,hpl]
  refine⟨fun h2=>?_,fun h2=>?_⟩
  ·have hlow:=hcl.low (i:=j.toNat) (by omega)
   refine⟨by rw[hO];exact Ks _,by rw[hol];simp only[zi,zr];omega,by rw[hO];exact JO _,h2,by omega,?_⟩
   refine hag (_,P.getD j.toNat 0) ⟨by simp only;omega,by simp only;omega,ls++[j],?_,?_⟩ (by simp only;omega)
   ·simp only
    rw[hO,List.reverse_append,←qr]
    rfl
   ·simp only
    rw[yf,List.singleton_append,←zB9 hcl h2 j1]
    exact hU
  ·rw[zDp P (by omega),yw]at hU
   rw[hr,hf0,hO,hU,yW]
 ·cases h
def zlI(_ b _ d:List V):List V:=I (yH (cdN (qb b) (qb d)))
def zsi(a b c d:List V):Prop:=zeK a b c∧∃i,d=I (yW (qb a) i)∧0≤i∧i<a.length
theorem zte{P S Q:List Int}(h:ClP P S Q){i:Int}(h0:0≤i)(h1:i<P.length){j:Nat}(hj:j<(yW P i).length):0≤(yW P i).getD j 0∧(yW P i).getD j 0<P.length:=by
 have:=(zfV h i (by omega) h1).1 _ (show(yW P i).getD j 0∈yW P i by rw[zd,ze hj];exact ya _)
 omega
theorem zBm{P S Q:List Int}(h:ClP P S Q){i:Int}(h0:0≤i)(h1:i<P.length){j:Nat}(hj:j<(yW P i).length)(hs:0≤S.getD ((yW P i).getD j 0).toNat 0):
 0≤idx (yW P i) (S.getD ((yW P i).getD j 0).toNat 0)∧idx (yW P i) (S.getD ((yW P i).getD j 0).toNat 0)<24∧(j:Int)-idx (yW P i) (S.getD ((yW P i).getD j 0).toNat 0)=(KQ S (yW P i) j:Nat):=by
 have hm:=(zrx h i (by omega) h1).1 _ (show(yW P i).getD j 0∈yW P i by rw[zd,ze hj];exact ya _) hs
 obtain⟨k,hk⟩:∃k,k=(yW P i).idxOf (S.getD ((yW P i).getD j 0).toNat 0):=⟨_,rfl⟩
 have hi:=zku hm
 rw[←hk]at hi
 have hkl:k<(yW P i).length:=by rw[hk];exact zax.2 hm
 have hlen:=zdk h (show-1≤i by omega) h1
 have hlt:k<j:=by
  have hp:=List.pairwise_iff_getElem.1 (zfV h i (by omega) h1).2
  have hpk:(yW P i)[k]=S.getD ((yW P i).getD j 0).toNat 0:=by
   simp only[hk]
   exact List.getElem_idxOf _
  have hpj:(yW P i)[j]=(yW P i).getD j 0:=by rw[zd,ze hj];rfl
  have hg:=zte h h0 h1 hj
  have hl:=h.low (i:=((yW P i).getD j 0).toNat) (by omega)
  have h00:((yW P i).getD j 0).toNat≠0:=fun e=>by have:=(hl.2.2.2.2.2 e).2;omega
  have h4:=hl.2.2.2.1 (by omega)
  rcases Nat.lt_trichotomy k j with h5|h5|h5
  ·exact h5
  ·subst h5
   rw[hpj]at hpk
   omega
  ·have:=hp j k hj hkl h5
   rw[hpj,hpk]at this
   omega
 rw[hi,KQ,if_pos hs,hi]
 omega
theorem zpD:yT Tryz.prog 115 (zgn zlI zsi):=by
 intro args ps r h hp
 unfold zgn at h
 split at h
 ·rename_i a0 a1 a2 a3
  simp only[za,zb]at h
  obtain⟨rfl,rfl⟩:=h
  obtain⟨hqv,i,hpi,i0,i1⟩:zsi a0 a1 a2 a3:=(zl.1 hp).1
  obtain⟨⟨⟨P,hP⟩,⟨S,hS⟩,⟨Q,hQ⟩⟩,hcl⟩:=id hqv
  rw[hP,hS,hQ,zq,zq,zq]at hcl
  have g0:V.frzs a0=a0:=by rw[hP,zG]
  have g1:V.frzs a1=a1:=by rw[hS,zG]
  have g2:V.frzs a2=a2:=by rw[hQ,zG]
  have hpl:a0.length=P.length:=by rw[hP,zj]
  have hsl:a1.length=P.length:=by rw[hS,zj,hcl.sl]
  rw[hpl]at i1
  obtain⟨p,hpp⟩:∃p,p=yW P i:=⟨_,rfl⟩
  rw[hP,zq,←hpp]at hpi
  have g3:V.frzs a3=a3:=by rw[hpi,zG]
  have hal:a3.length=p.length:=by rw[hpi,zj]
  have ga:∀k,a3.getD k (.int .i64 0)=.int .i64 (p.getD k 0):=fun k=>by rw[hpi,zR]
  have gs:∀k,a1.getD k (.int .i64 0)=.int .i64 (S.getD k 0):=fun k=>by rw[hS,zR]
  have n24:=hcl.n24
  have hlen:=zdk hcl (show-1≤i by omega) i1
  rw[←hpp]at hlen
  have hpg:=fun j hj=>zte hcl i0 i1 (j:=j) hj
  have hc1:=fun j hj hs=>zBm hcl i0 i1 (j:=j) hj hs
  rw[←hpp]at hpg hc1
  have hf0:zlI a0 a1 a2 a3=I (yH (cdN S p)):=by rw[zlI,hpi,hS,zq,zq]
  have hfi:∀x,zjl a3 x=idx p x:=fun x=>by rw[zjl,hpi,zq]
  have hqi:∀x,zdj a3 x:=fun x=>⟨⟨p,hpi⟩,by rw[hal];omega⟩
  generalize zdN:zjl=zl1
  generalize ux:zdj=Qx
  refine zD (T:=tab) (B:=[(102,zlQ zl1 Qx)]) (Bi:=[]) [0,1,2,4,5,6,7,8] Tryz.func115 rfl rfl (by kernel_rfl) (zg rfl) zP zQ (by subst zdN ux;exact(zm zgU zy)) (by subst zdN ux;exact zu) (by kernel_rfl) ?_
  intro L lp rr hL hr hf hlp
  have Ei:∀x,zl1 a3 x=idx p x:=by rw[←zdN];exact hfi
  have Qi:∀x,Qx a3 x:=by rw[←ux];exact hqi
  conv=>cbv
  refine hlp (List V×Int) _ _ _ [1,2,5,6] (fun x=>[(1,none,.val (.slc false 2 (.int .i64 0) a3)),(2,none,.val (.box 78 (.agg [.slc false 2 (.int .i64 0) a0,.slc false 2 (.int .i64 0) a1,.slc false 2 (.int .i64 0) a2]))),(5,none,.val (.slc true 2 (.int .i64 0) x.1)),(6,none,.val (.int .i64 x.2))])
   (fun x=>1≤x.2∧(x.2≤p.length∨x.2=1)∧x.1=I (yH (qD (fun t=>KQ S p (t+1)) (x.2-1).toNat))) (fun x=>(p.length-x.2).toNat) (([],1)) (by subst hL;rfl) ?_ ?_
  ·exact⟨by simp,.inr rfl,rfl⟩
  rintro⟨os,j⟩ ⟨j0,j1,hO⟩ hfx ag hag
  simp only at j0 j1 hO
  conv=>cbv
  simp only[zp hL,sQ,g0,g1,g2,g3,ga,gs,hal,hsl,Ei]
  refine⟨fun h2=>?_,fun h2=>?_⟩
  ·have hol:os.length=j.toNat-1:=by rw[hO,zj,uc,qh];omega
   have hg:=hpg j.toNat (by omega)
   have hnx:∀c:Nat,c=KQ S p j.toNat→0≤j→(1≤j+1∧(j+1≤p.length∨j+1=1)∧os++[V.int .i64 (c:Int)]=I (yH (qD (fun t=>KQ S p (t+1)) (j+1-1).toNat))):=fun c hc _=>by
    refine⟨by omega,.inl (by omega),?_⟩
    rw[hO,show(j+1-1).toNat=(j-1).toNat+1 by omega,Jj,zbn,←qr,show(j-1).toNat+1=j.toNat by omega,hc]
    rfl
   rw[zo (n:=j+1) (by omega) (by omega)]
   refine⟨by omega,h2,hg.1,hg.2,fun h3=>?_,fun h3=>?_⟩
   ·obtain⟨c1,c2,c3⟩:=hc1 j.toNat (by omega) h3
    have e1:IntKind.wrap .i64 (j-idx p (S.getD (p.getD j.toNat 0).toNat 0))=(KQ S p j.toNat:Nat):=by
     rw[zo (by omega) (by omega),←c3];omega
    rw[e1]
    refine⟨Qi _,rfl,by simp only[zi,zr];omega,fun x hx=>by(simp only[yp]at hx;subst hx;rfl),?_⟩
    exact hag (_,j+1) (hnx _ rfl (by omega)) (by simp only;omega)
   ·refine⟨rfl,by simp only[zi,zr];omega,fun x hx=>by(simp only[yp]at hx;subst hx;rfl),?_⟩
    exact hag (_,j+1) (hnx 0 (by rw[KQ,if_neg h3]) (by omega)) (by simp only;omega)
  ·have he:(j-1).toNat=p.length-1:=by omega
   rw[hr,hf0,hO,he,cdN]
 ·cases h
end Go.Ax
namespace Go.Ax
open Go.Proofs
theorem zrN{a b:Nat}(ha:0<a)(hb:0<b):jk (a:Int) (b:Int)=((Nat.gcd a b:Nat):Int):=by
 rw[jk,zdB (by omega),zdB (by omega),zja _ _ _ (zt _) (by omega) (by omega),zC,zC]
theorem zuI:∀(l:List Nat) (p e:Nat),1≤p→p≤2000→1≤e→(zgq (p:Int) (e:Int) (yH l)=true↔Val p e l)
 |[],p,e,_,_,_=>by
  simp only[yH,List.map_nil,zgq,Val,beq_iff_eq]
  omega
 |t::l,p,e,hp,hp2,he=>by
  have hw:IntKind.wrap .i64 ((p:Int)+1)=(p:Int)+1:=zo (by omega) (by omega)
  simp only[yH,qv,zgq,Val,hw]
  by_cases h:p<t∧t≤2000
  ·have hi:yG (t:Int) ((p:Int)+1) 2000=true:=by
    simp only[yG,zh,decide_eq_true_eq]
    omega
   rw[hi,zrN (by omega) (by omega)]
   have ih:=zuI l t (Nat.gcd e t) (by omega) h.2 (uC t (by omega))
   rw[yH]at ih
   by_cases hg:Nat.gcd e t=e
   ·have hb:(((Nat.gcd e t:Nat):Int)==(e:Int))=true:=by rw[hg];simp
    rw[hb]
    simp[hg]
   ·have hb:(((Nat.gcd e t:Nat):Int)==(e:Int))=false:=by
     rw[beq_eq_false_iff_ne]
     omega
    rw[hb]
    simp only[Bool.not_true,cond_false,ih]
    exact⟨fun h2=>⟨h.1,h.2,hg,h2⟩,fun h2=>h2.2.2.2⟩
  ·have hi:yG (t:Int) ((p:Int)+1) 2000=false:=by
    rw[←Bool.not_eq_true]
    simp only[yG,zh,decide_eq_true_eq]
    omega
   rw[hi]
   simp only[Bool.not_false,cond_true,yX,false_iff]
   exact fun h2=>h ⟨h2.1,h2.2.1⟩
theorem zA2{n:Nat}{l:List Nat}:YT (yH (n::l))=true↔BrN n l:=by
 have h0:(((yH (n::l)).length:Int)==0)=false:=by
  rw[beq_eq_false_iff_ne,uc]
  simp only[zi]
  omega
 have h1:(yH (n::l)).getD 0 0=(n:Int):=rfl
 have h2:(yH (n::l)).drop 1=yH l:=rfl
 rw[←ztM,zff,h0,h1,h2]
 by_cases h:1≤n∧n≤64
 ·have hi:yG (n:Int) 1 64=true:=by
   simp only[yG,zh,decide_eq_true_eq]
   omega
  rw[hi]
  simp only[cond_false,Bool.not_true]
  rw[zuI l n n h.1 (by omega) h.1]
  exact⟨fun h3=>⟨h.1,h.2,h3⟩,fun h3=>h3.val⟩
 ·have hi:yG (n:Int) 1 64=false:=by
   rw[←Bool.not_eq_true]
   simp only[yG,zh,decide_eq_true_eq]
   omega
  rw[hi]
  simp only[cond_false,Bool.not_false,cond_true,yX,false_iff]
  exact fun h3=>h ⟨h3.lo,h3.hi⟩
theorem ztr{n:Nat}{l:List Nat}(h:BrN n l):Br (yH (n::l)):=YI (zA2.2 h)
theorem zrT:∀(l:List Int) (d:Int) (i:Nat),i+1<l.length→(Zq d l).getD (i+1) 0=jk ((Zq d l).getD i 0) (l.getD (i+1) 0)
 |[],d,i,h=>by simp at h
 |[x],d,i,h=>by simp at h
 |x::y::l,d,0,h=>rfl
 |x::y::l,d,i+1,h=>by
  have:=zrT (y::l) (jk d x) i (by simpa using h)
  simpa [Zq]using this
theorem zCR(a b:Nat):exI (a:Int) (b:Int)=yH (ex a b):=by
 rw[exI,zC,zC];rfl
theorem zv8{n:Nat}{l0:List Nat}:∀(l pre:List Nat) (p e:Nat),n::l0=pre++l→pre≠[]→0<e→(dv (yH (n::l0))).getD (pre.length-1) 0=(e:Int)→(if pre.length=1 then 0 else pre.getD (pre.length-1) 0)=p→Val p e l→
 (List.range' (pre.length-1) l.length).flatMap (zhw (yH (n::l0)))=yH (uX p e l)
 |[],pre,p,e,_,_,_,_,_,_=>rfl
 |t::l,pre,p,e,hx,hne,he,hd,hp,hv=>by
  obtain⟨h1,h2,h3,h4⟩:=hv
  have hpl:0<pre.length:=QG.2 hne
  have hlen:(n::l0).length=pre.length+(l.length+1):=by rw[hx,zk];rfl
  have hgt:(n::l0).getD pre.length 0=t:=by
   rw[hx,zd,yn (zt _),jA];rfl
  have hgp:pre.length≠1→(n::l0).getD (pre.length-1) 0=p:=fun h5=>by
   rw[if_neg h5]at hp
   rw[hx,zd,yM (by omega),←zd,hp]
  have hnl:(yH (n::l0)).length=pre.length+(l.length+1):=by rw[uc,hlen]
  have hk:KU (yH (n::l0)) (pre.length-1)=((t-p:Nat):Int):=by
   have e1:(yH (n::l0)).getD (pre.length-1+1) 0=(t:Int):=by
    rw[show pre.length-1+1=pre.length by omega]
    have:=zad (n::l0) pre.length 0
    rw[hgt]at this
    exact this
   rw[KU,e1]
   by_cases h5:pre.length=1
   ·rw[if_pos (by omega)]
    rw[if_pos h5]at hp
    omega
   ·rw[if_neg (by omega)]
    have:=zad (n::l0) (pre.length-1) 0
    rw[hgp h5]at this
    have e2:(yH (n::l0)).getD (pre.length-1) 0=(p:Int):=this
    rw[e2]
    omega
  have hrun:zhw (yH (n::l0)) (pre.length-1)=yH (ex (t-p) e):=by rw[zhw,hk,hd,zCR]
  have hd2:(dv (yH (n::l0))).getD ((pre++[t]).length-1) 0=((Nat.gcd e t:Nat):Int):=by
   rw[zk,qn,show pre.length+1-1=(pre.length-1)+1 by omega,dv,zrT _ _ _ (by omega),←dv,hd]
   have:=zad (n::l0) pre.length 0
   rw[hgt]at this
   have e2:(yH (n::l0)).getD (pre.length-1+1) 0=(t:Int):=by rw[show pre.length-1+1=pre.length by omega];exact this
   rw[e2,zrN he (by omega)]
  have ih:=zv8 l (pre++[t]) t (Nat.gcd e t) (by rw[hx];simp) (by simp) (uC t he) hd2 (by
   rw[if_neg (by rw[zk,qn];omega),zk,qn,qU,zd,yn (zt _),jA];rfl) h4
  rw[zk,qn,show pre.length+1-1=pre.length-1+1 by omega]at ih
  rw[zi,List.range'_succ,List.flatMap_cons,hrun,ih,uX,zbn]
theorem zCg{n:Nat}{l:List Nat}(h:BrN n l):kL (yH (n::l))=yH (uX 0 n l):=by
 have h1:=h.lo
 have hd:(dv (yH (n::l))).getD 0 0=(n:Int):=by
  have:=(ztr h).d0
  rw[this];rfl
 have:=zv8 l [n] 0 n rfl (by simp) (by omega) hd rfl (h.val.weak (by omega))
 rw[kL,zcv,uc,zi,qU,List.range_eq_range']
 exact this
def zEQ(xs:List Int):List Int:=yH (match zgd xs with
 |[]=>[]
 |n::l=>zEP n l)
end Go.Ax
namespace Go.Ax
open Go.Proofs
theorem zAp{n:Nat}{l:List Nat}{L:List Int}(h:zqu n l L):L.getD 0 0=(n:Int)∧0<L.length:=by
 obtain⟨hb,hne,m,rfl⟩:=h
 have hlo:=hb.lo
 have hlen:0<(yH (uX 0 n l++List.replicate m 1)).length:=QG.2 hne
 refine⟨?_,hlen⟩
 have h0:(uX 0 n l++List.replicate m 1).getD 0 0=n:=by
  cases l with
  |nil=>
   have h1:n=1:=hb.val
   subst h1
   cases m with
   |zero=>simp[uX,yH]at hne
   |succ m=>rfl
  |cons t l=>
   have h1:=hb.val.1
   have h2:0<t/n:=Nat.div_pos (by omega) (by omega)
   rw[uX,uN (by omega),Zr,show t/n=(t/n-1)+1 by omega,yE]
   rfl
 have:=zad (uX 0 n l++List.replicate m 1) 0 0
 rw[h0]at this
 exact this
def zlK(a:List V):List V×Bool:=(I (zuJ (qb a)),true)
def zuz(f:List V→List V×Bool)(q:List V→Prop):zN:=fun
 |[.slc false 2 (.int .i64 0) a0]=>some ([q a0],.tup [.agg [.slc true 2 (.int .i64 0) ((f a0).1)],.bool ((f a0).2)])
 |_=>none
def zuy(f:List V→List V×Int)(q:List V→Prop):zN:=fun
 |[.slc false 2 (.int .i64 0) a0]=>some ([q a0],.tup [.agg [.slc true 2 (.int .i64 0) ((f a0).1)],.int .i64 ((f a0).2)])
 |_=>none
end Go.Ax
namespace Go.Ax
open Go.Proofs
theorem zs0{e r s:Nat}{x y:List Nat}(hr:r≠e)(hs:s≠e):∀a b:Nat,List.replicate a e++r::x=List.replicate b e++s::y→a=b∧r=s∧x=y
 |0,0,h=>by
  simp only[QE,qQ,ku]at h
  exact⟨rfl,h⟩
 |0,b+1,h=>by
  simp only[QE,qQ,yE,zV,ku]at h
  exact absurd h.1 hr
 |a+1,0,h=>by
  simp only[QE,qQ,yE,zV,ku]at h
  exact absurd h.1.symm hs
 |a+1,b+1,h=>by
  simp only[yE,zV,ku,true_and]at h
  obtain⟨h1,h2⟩:=zs0 hr hs a b h
  exact⟨by rw[h1],h2⟩
def OkB:List (Nat×Nat)→Prop
 |[]=>True
 |[_]=>True
 |p::q::l=>p.1≠q.1∧1≤q.2∧OkB (q::l)
def Zo(bl:List (Nat×Nat)):List Nat:=bl.flatMap fun p=>List.replicate p.2 p.1
def QS(bl:List (Nat×Nat)):List (List Int):=bl.map fun p=>[(p.1:Int),(p.2:Int)]
theorem zrr(bl:List (Nat×Nat)):(QS bl).length=bl.length:=by simp[QS]
theorem zrs{bl:List (Nat×Nat)}{i:Nat}{p:Nat×Nat}(h:bl[i]? =some p):(QS bl).getD i []=[(p.1:Int),(p.2:Int)]:=by
 rw[QS,zd,zH,h];rfl
theorem zrq(bl:List (Nat×Nat))(i:Nat)(p:Nat×Nat):(QS bl).set i [(p.1:Int),(p.2:Int)]=QS (bl.set i p):=by
 rw[QS,QS,List.map_set]
theorem zsY(a b:List (Nat×Nat)):QS (a++b)=QS a++QS b:=by simp[QS]
theorem ZG(p:Nat×Nat)(l:List (Nat×Nat)):Zo (p::l)=List.replicate p.2 p.1++Zo l:=by simp[Zo]
theorem zd2(a b:List (Nat×Nat)):Zo (a++b)=Zo a++Zo b:=by simp[Zo]
theorem zuK{v c q r:Nat}{tl:List (Nat×Nat)}{X:List Nat}(ho:OkB ((v,c)::tl))(hr:r≠v)(h:Zo ((v,c)::tl)=List.replicate q v++r::X):
 c=q∧∃c1 tl',tl=(r,c1)::tl'∧OkB tl∧Zo tl=r::X:=by
 rw[ZG]at h
 match tl,ho with
 |[],_=>
  exfalso
  have h1:r∈List.replicate q v++r::X:=by simp
  rw[←h]at h1
  simp only[Zo,List.flatMap_nil,yw]at h1
  exact hr (List.mem_replicate.1 h1).2
 |(v1,c1)::tl',ho=>
  obtain⟨h1,h2,h3⟩:=ho
  have h4:Zo ((v1,c1)::tl')=v1::(List.replicate (c1-1) v1++Zo tl'):=by
   rw[ZG]
   simp only
   rw[show c1=(c1-1)+1 by have:1≤c1:=h2;omega,yE]
   rfl
  rw[h4]at h
  obtain⟨e1,e2,e3⟩:=zs0 (Ne.symm h1) hr _ _ h
  have e2:v1=r:=e2
  refine⟨e1,c1,tl',by rw[e2],h3,by rw[h4,e3,e2]⟩
theorem zBr{v c k:Nat}{tl:List (Nat×Nat)}{Y:List Nat}(ho:OkB ((v,c)::tl))(h:Zo ((v,c)::tl)=List.replicate k v++Y):
 k≤c∧OkB ((v,c-k)::tl)∧Zo ((v,c-k)::tl)=Y:=by
 rw[ZG]at h
 have hk:k≤c:=by
  rcases zcZ c k with h1|h1
  ·exfalso
   simp only at h
   rw[show k=c+(k-c) by omega,←jq,yf,List.append_cancel_left_eq,show k-c=(k-c-1)+1 by omega,yE,zV]at h
   match tl,ho with
   |[],_=>simp[Zo]at h
   |(v1,c1)::tl',ho=>
    obtain⟨h3,h4,_⟩:=ho
    rw[ZG]at h
    simp only at h h4
    rw[show c1=(c1-1)+1 by omega,yE,zV,ku]at h
    exact h3 h.1.symm
  ·exact h1
 refine⟨hk,?_,?_⟩
 ·cases tl with
  |nil=>trivial
  |cons p tl=>exact ho
 ·rw[ZG]
  simp only at h ⊢
  rw[show c=k+(c-k) by omega,←jq,yf,List.append_cancel_left_eq]at h
  exact h
def zhI(B:List (Nat×Nat))(x:Nat):List (Nat×Nat):=match B.getLast? with
 |some p=>if p.1=x then B.set (B.length-1) (p.1,p.2+1)else B++[(x,1)]
 |none=>[(x,1)]
def QN(L:List Nat):List (Nat×Nat):=L.foldl zhI []
theorem zk0(L:List Nat)(x:Nat):QN (L++[x])=zhI (QN L) x:=by rw[QN,QN,List.foldl_append];rfl
theorem zoz:∀{B:List (Nat×Nat)} {p:Nat×Nat} {x:Nat},OkB (B++[p])→p.1≠x→OkB (B++[p]++[(x,1)])
 |[],p,x,_,h=>⟨h,zt _,trivial⟩
 |[q],p,x,h,h2=>⟨h.1,h.2.1,h2,zt _,trivial⟩
 |q::q2::B,p,x,h,h2=>⟨h.1,h.2.1,zoz (B:=q2::B) h.2.2 h2⟩
theorem zwk:∀{B:List (Nat×Nat)} {p:Nat×Nat},OkB (B++[p])→OkB (B++[(p.1,p.2+1)])
 |[],p,_=>trivial
 |[q],p,h=>⟨h.1,Nat.le_add_left _ _,trivial⟩
 |q::q2::B,p,h=>⟨h.1,h.2.1,zwk (B:=q2::B) h.2.2⟩
theorem zuL:∀(k:Nat) (L:List Nat),L.length=k→OkB (QN L)∧Zo (QN L)=L∧(L≠[]→∃B p,QN L=B++[p]∧1≤p.2∧L.getLast? =some p.1)
 |0,L,h=>by
  obtain rfl:=yC h
  exact⟨trivial,rfl,fun h=>absurd rfl h⟩
 |k+1,L0,h=>by
  obtain⟨L,x,rfl⟩:∃L x,L0=L++[x]:=by
   have hne:L0≠[]:=fun h2=>by rw[h2]at h;simp at h
   exact⟨L0.dropLast,L0.getLast hne,(List.dropLast_concat_getLast hne).symm⟩
  obtain⟨i1,i2,i3⟩:=zuL k L (by rw[zk,qn]at h;omega)
  rw[zk0]
  by_cases hL:L=[]
  ·subst hL
   exact⟨trivial,rfl,fun _=>⟨[],(x,1),rfl,zt _,rfl⟩⟩
  ·obtain⟨B,p,hB,hp1,hp2⟩:=i3 hL
   have hlast:(QN L).getLast? =some p:=by rw[hB];simp
   rw[zhI,hlast]
   simp only
   by_cases hx:p.1=x
   ·rw[if_pos hx]
    have hset:(QN L).set ((QN L).length-1) (p.1,p.2+1)=B++[(p.1,p.2+1)]:=by
     rw[hB,zk,qn,qU,uY _ _ (zt _),jA];rfl
    rw[hset]
    refine⟨?_,?_,fun _=>⟨B,_,rfl,by simp only;omega,by simp[hx]⟩⟩
    ·rw[hB]at i1;exact zwk i1
    ·rw[←i2,hB,zd2,zd2,yf,←hx]
     congr 1
     simp[Zo,jo]
   ·rw[if_neg hx]
    refine⟨?_,?_,fun _=>⟨QN L,_,rfl,zt _,by simp⟩⟩
    ·rw[hB]at i1 ⊢;exact zoz i1 hx
    ·rw[zd2,i2];rfl
theorem zlV(L:List Nat):OkB (QN L)∧Zo (QN L)=L∧(L≠[]→∃B p,QN L=B++[p]∧1≤p.2∧L.getLast? =some p.1):=zuL _ L rfl
theorem zrl:∀(l:List Nat) (p e:Nat),0<e→Val p e l→2^l.length≤e
 |[],p,e,he,_=>he
 |t::l,p,e,he,h=>by
  have hg:=uC t he
  have ih:=zrl l t (Nat.gcd e t) hg h.2.2.2
  obtain⟨c,hc⟩:=Kq e t
  have hc2:2≤c:=by
   rcases zcZ c 2 with h1|h1
   ·exfalso
    have:c=0∨c=1:=by omega
    rcases this with rfl|rfl
    ·omega
    ·exact h.2.2.1 (by omega)
   ·exact h1
  rw[zi,Nat.pow_succ]
  have h2:Nat.gcd e t*2≤Nat.gcd e t*c:=Nat.mul_le_mul_left _ hc2
  omega
end Go.Ax
namespace Go.Ax
open Go.Proofs
def zlL(a:List V):List V:=II true (QS (QN (zgd (qb a))))
def zxV(a:List V):Prop:=∃L:List Nat,a=I (yH L)∧L.length≤100000
theorem zmV:yT Tryz.prog 148 (zlR zlL zxV):=by
 intro args ps r h hp
 unfold zlR at h
 split at h
 ·rename_i a0
  simp only[za,zb]at h
  obtain⟨rfl,rfl⟩:=h
  obtain⟨ls,hls,hll⟩:zxV a0:=(zl.1 hp).1
  have g0:V.frzs a0=a0:=by rw[hls,zG]
  have hal:a0.length=ls.length:=by rw[hls,zj,uc]
  have gal:∀k,a0.getD k (.int .i64 0)=.int .i64 ((ls.getD k 0:Nat):Int):=fun k=>by rw[hls,zR];exact congrArg _ (zad ls k 0)
  have hf0:zlL a0=II true (QS (QN ls)):=by rw[zlL,hls,zq,zaV]
  obtain⟨n,hn⟩:∃n:Int,n=ls.length:=⟨_,rfl⟩
  refine zD (T:=tab) (B:=[]) (Bi:=[]) [0,2,3,4,5] Tryz.func148 rfl rfl (by kernel_rfl) (zg rfl) zP zQ (by exact zy) (by exact zu) (by kernel_rfl) ?_
  intro L lp rr hL hr hf hlp
  conv=>cbv
  refine hlp (List V×Int) _ _ _ [0,3,4] (fun x=>[(0,none,.val (.slc false 2 (.int .i64 0) a0)),(3,none,.val (.slc true 30 (.slc true 2 (.int .i64 0) []) x.1)),(4,none,.val (.int .i64 x.2))])
   (fun x=>0≤x.2∧x.2≤n∧x.1=II true (QS (QN (ls.take x.2.toNat)))∧x.1.length≤x.2.toNat) (fun x=>(n-x.2).toNat) (([],0)) (by subst hL;rfl) ?_ ?_
  ·exact⟨by simp,by simp only;omega,rfl,by simp⟩
  rintro⟨es,i⟩ ⟨i0,i1,hI,hel⟩ hfx ag hag
  simp only at i0 i1 hI hel
  obtain⟨bl,hbl⟩:∃bl,bl=QN (ls.take i.toNat):=⟨_,rfl⟩
  rw[←hbl]at hI
  have hesl:es.length=bl.length:=by rw[hI,yk,zrr]
  have b7:i<n→i.toNat<ls.length:=fun h3=>by omega
  obtain⟨x,hx⟩:∃x,x=ls.getD i.toNat 0:=⟨_,rfl⟩
  obtain⟨es2,hes2⟩:∃es2,es2=es++[V.slc true 2 (V.int IntKind.i64 0) [V.int IntKind.i64 (x:Int),V.int IntKind.i64 0]]:=⟨_,rfl⟩
  have hel3:es.length≤100000:=by
   have h3:i.toNat≤100000:=by omega
   exact Nat.le_trans hel h3
  have b1:IntKind.wrap .i64 ((es.length:Int)+1-1)=(es.length:Int):=by
   have h3:(es.length:Int)+1-1=es.length:=by clear hI hes2;omega
   rw[h3]
   exact zo (by clear hI hes2;omega) (by clear hI hes2;omega)
  have b2:IntKind.wrap .i64 (i+1)=i+1:=zo (by omega) (by omega)
  have b3:0<es.length→IntKind.wrap .i64 ((es.length:Int)-1)=((es.length-1:Nat):Int):=fun h3=>by
   rw[zo (by omega) (by omega)]
   omega
  have h2l:es2.length=es.length+1:=by rw[hes2];simp
  have b4:¬i<n→ls.length≤i.toNat:=fun h3=>by omega
  have b5:IntKind.wrap .i64 (i-1)=i-1:=zo (by omega) (by omega)
  have b6:i<n→0≤i+1∧i+1≤n∧(n-(i+1)).toNat<(n-i).toNat:=fun h3=>by omega
  have h2g:es2.getD es.length (.slc true 2 (.int .i64 0) [])=.slc true 2 (.int .i64 0) (I [(x:Int),0]):=by
   rw[hes2,zd,yn (zt _),jA];rfl
  have hlast:∀h3:¬i=0,∃B p,bl=B++[p]∧p.1=ls.getD (i-1).toNat 0:=fun h3=>by
   obtain⟨_,_,h5⟩:=zlV (ls.take i.toNat)
   have hlt:i.toNat≤ls.length:=by omega
   obtain⟨B,p,h6,_,h7⟩:=h5 (fun h8=>by
    have:=congrArg List.length h8
    rw[zL,zr]at this
    omega)
   refine⟨B,p,by rw[hbl,h6],?_⟩
   rw[List.getLast?_eq_getElem?,zL,List.getElem?_take_of_lt (by omega),show min i.toNat ls.length-1=(i-1).toNat by omega]at h7
   rw[zd,h7];rfl
  have hadd:(i=0∨¬((x:Int)=((ls.getD (i-1).toNat 0:Nat):Int)))→zhI bl x=bl++[(x,1)]:=fun h3=>by
   by_cases h4:i=0
   ·have:bl=[]:=by rw[hbl,h4];rfl
    rw[this];rfl
   ·obtain⟨B,p,h5,h6⟩:=hlast h4
    have h7:¬p.1=x:=fun h8=>by
     rcases h3 with h3|h3
     ·exact h4 h3
     ·exact h3 (by rw[←h6,h8])
    have h8:bl.getLast? =some p:=by rw[h5];simp
    rw[zhI,h8]
    simp only
    rw[if_neg h7]
  have htk:i<n→ls.take (i.toNat+1)=ls.take i.toNat++[x]:=fun h3=>by
   rw[List.take_succ,hx,zd,ze (b7 h3)];rfl
  have hsnoc:i<n→QN (ls.take (i.toNat+1))=zhI bl x:=fun h3=>by rw[htk h3,zk0,hbl]
  conv=>cbv
  simp only[zp hL,sQ,g0,hal,gal,←hn,←hx,←hes2]
  refine⟨fun h2=>⟨fun _=>i0,fun _=>h2,fun _=>trivial,fun h3=>?_,fun h3=>?_,fun _=>trivial,fun h3=>?_,fun h3=>?_⟩,fun h2=>?_⟩
  ·rw[zo (by omega) (by omega)];omega
  ·rw[zo (by omega) (by omega)];omega
  ·have h2l3:(es2.length:Int)=es.length+1:=by rw[h2l];rfl
   rw[h2l3,b1,b2,zC]
   simp only[h2g,zfp,h2l,zj,zR,ui]
   have hlt:es.length<es.length+1:=Nat.lt_succ_self _
   have hl2:[(x:Int),0].length=2:=rfl
   simp only[hl2]
   refine⟨i0,h2,?_,jZ (by simp[V.solid]),ka _,Int.lt_succ _,hlt,rfl,hlt,rfl,by omega,by omega,hlt,rfl,by omega,rfl,?_⟩
   ·simp only[qn]
    have:(es.length:Int)≤100000:=Int.ofNat_le.2 hel3
    omega
   refine⟨hlt,rfl,by omega,by omega,hlt,rfl,by omega,rfl,?_⟩
   obtain⟨c1,c2,c3⟩:=b6 h2
   rw[b5]at h3
   refine hag (_,i+1) ⟨c1,c2,?_,?_⟩ c3
   ·simp only[zU i0]
    rw[hsnoc h2,hadd h3,zsY,ZH,hes2,uY _ _ (zt _),jA,hI]
    rfl
   ·simp only[zU i0,yj,h2l]
    exact Nat.succ_le_succ hel
  ·have h30:¬i=0:=h3.1
   have h31:=h3.2
   rw[b5]at h31
   obtain⟨B,p,h5,h6⟩:=hlast h30
   have hpx:p.1=x:=by
    have h32:(x:Int)=((ls.getD (i-1).toNat 0:Nat):Int):=h31
    rw[h6]
    exact(Int.ofNat_inj.1 h32).symm
   have h8:bl.getLast? =some p:=by rw[h5];simp
   have hblen:bl.length=B.length+1:=by rw[h5];simp
   have hel4:es.length-1=B.length:=by rw[hesl,hblen];rfl
   have hpos:0<es.length:=by rw[hesl,hblen];exact Nat.succ_pos _
   have hadd2:zhI bl x=bl.set B.length (p.1,p.2+1):=by
    rw[zhI,h8]
    simp only
    rw[if_pos hpx,hblen];rfl
   have hgp:bl[B.length]? =some p:=by rw[h5,yn (zt _),jA];rfl
   have hg:es.getD B.length (.slc true 2 (.int .i64 0) [])=.slc true 2 (.int .i64 0) (I [(p.1:Int),(p.2:Int)]):=by
    rw[hI,qB,zrs hgp]
   have hp2:p.2≤100000:=by
    have h9:=(zlV (ls.take i.toNat)).2.1
    rw[←hbl,h5,zd2]at h9
    have h10:=congrArg List.length h9
    rw[zk,zL,ZG,zk,zT]at h10
    omega
   have hlt:B.length<es.length:=by rw[hesl,hblen];exact Nat.lt_succ_self _
   have hw:IntKind.wrap .i64 ((p.2:Int)+1)=((p.2+1:Nat):Int):=by
    rw[zo (by omega) (by omega)];rfl
   rw[b3 hpos,hel4,b2,zC]
   have hl2:[(p.1:Int),(p.2:Int)].length=2:=rfl
   have hg1:[(p.1:Int),(p.2:Int)].getD 1 0=p.2:=rfl
   simp only[hg,zfp,zj,zR,ui,hl2,hg1,hw]
   obtain⟨c1,c2,c3⟩:=b6 h2
   refine⟨ka _,Int.ofNat_lt.2 hlt,hlt,rfl,hlt,rfl,by omega,by omega,hlt,rfl,by omega,rfl,hlt,rfl,by omega,by omega,hlt,rfl,by omega,rfl,?_⟩
   refine hag (_,i+1) ⟨c1,c2,?_,?_⟩ c3
   ·simp only[zU i0]
    rw[hsnoc h2,hadd2,←zrq,←zk5,hI]
    rfl
   ·simp only[zU i0,yj]
    exact Nat.le_succ_of_le hel
  ·have h5:ls.take i.toNat=ls:=List.take_of_length_le (b4 h2)
   rw[hr,hf0,hI,hbl,h5]
 ·cases h
end Go.Ax
namespace Go.Ax
open Go.Proofs
theorem zyU{n:Nat}{l:List Nat}{L:List Int}(h:zqu n l L):∀i,i+1<L.length→L.getD (i+1) 0≤L.getD i 0:=by
 obtain⟨hb,_,m,rfl⟩:=h
 intro i hi
 obtain⟨hg,_⟩:=zae (ztr hb)
 have h1:∀j,j<(yH (uX 0 n l++List.replicate m 1)).length→(yH (uX 0 n l++List.replicate m 1)).getD j 0=(mul (yH (n::l)) j:Int):=fun j hj=>by
  have h2:(yH (uX 0 n l++List.replicate m 1)).getD j 0=(yH (uX 0 n l++List.replicate m 1)).getD j 1:=by
   rw[zd,ze hj,zd,ze hj];rfl
  have h3:yH (List.replicate m 1)=List.replicate m 1:=by simp[yH]
  rw[h2,zbn,h3,zkx,←zCg hb,ziD]
 rw[h1 _ hi,h1 _ (by omega)]
 have:=hg.fall i
 omega
theorem zth:∀(l:List (Nat×Nat)) (p:Nat×Nat),OkB (p::l)→l.length≤(Zo l).length
 |[],_,_=>Jp _
 |q::l,p,h=>by
  have ih:=zth l q h.2.2
  have h2:1≤q.2:=h.2.1
  rw[ZG,zk,zT,zi]
  omega
theorem zzR{B:List (Nat×Nat)}(x:Nat)(h:B≠[]):(zhI B x).head?.map Prod.fst=B.head?.map Prod.fst:=by
 rw[zhI]
 match B,h with
 |[p],_=>
  simp only[List.getLast?_singleton]
  split<;>rfl
 |p::q::B,_=>
  cases h2:(p::q::B).getLast? with
  |none=>simp at h2
  |some r=>
   simp only
   split
   ·rw[show(p::q::B).length-1=B.length+1 by simp];rfl
   ·rfl
theorem zpj:∀(k:Nat) (L:List Nat),L.length=k→(QN L).head?.map Prod.fst=L.head?
 |0,L,h=>by
  obtain rfl:=yC h
  rfl
 |k+1,L0,h=>by
  obtain⟨L,x,rfl⟩:∃L x,L0=L++[x]:=by
   have hne:L0≠[]:=fun h2=>by rw[h2]at h;simp at h
   exact⟨L0.dropLast,L0.getLast hne,(List.dropLast_concat_getLast hne).symm⟩
  have ih:=zpj k L (by rw[zk,qn]at h;omega)
  rw[zk0]
  by_cases hL:L=[]
  ·subst hL;rfl
  ·have hb:QN L≠[]:=fun h2=>by
    have h3:=(zlV L).2.1
    rw[h2]at h3
    exact hL h3.symm
   rw[zzR x hb,ih]
   cases L with
   |nil=>exact absurd rfl hL
   |cons y L=>rfl
theorem zzE{α:Type}{l tl:List α}{k:Nat}{x y:α}(h:l.drop k=x::tl)(hk:k<l.length):(l.set k y).drop k=y::tl:=by
 have hsp:l=l.take k++x::tl:=by rw[←h,qK]
 have hl:(l.take k).length=k:=by rw[zL];omega
 have h2:l.set k y=l.take k++y::tl:=by
  conv=>lhs;rw[hsp]
  rw[uY _ _ (by omega),hl,jA];rfl
 rw[h2]
 conv=>lhs;rw[←hl]
 rw[hl]
 have h3:=List.drop_left (l₁:=l.take k) (l₂:=y::tl)
 rw[hl]at h3
 exact h3
def zxQ(a:List V):Prop:=∃n l L,a=I L∧zqu n l L∧L.length≤1000
theorem zmU:yT Tryz.prog 138 (zuz zlK zxQ):=by
 intro args ps r h hp
 unfold zuz at h
 split at h
 ·rename_i a0
  simp only[za,zb]at h
  obtain⟨rfl,rfl⟩:=h
  obtain⟨n,l,ls,hL0,hs,hLl⟩:zxQ a0:=(zl.1 hp).1
  have g0:V.frzs a0=a0:=by rw[hL0,zG]
  have hal:a0.length=ls.length:=by rw[hL0,zj]
  have gal:∀k,a0.getD k (.int .i64 0)=.int .i64 (ls.getD k 0):=fun k=>by rw[hL0,zR]
  have hfall:=zyU hs
  obtain⟨hh,hlen⟩:=zAp hs
  have hf0:zlK a0=(I (yH (n::l)),true):=by rw[zlK,hL0,zq,zlU hs]
  obtain⟨hb,hne,m,hLe⟩:=hs
  have hlo:=hb.lo
  have hhi:=hb.hi
  obtain⟨ni,hni⟩:∃ni:Int,ni=n:=⟨_,rfl⟩
  obtain⟨lm,hlm⟩:∃lm:Int,lm=ls.length:=⟨_,rfl⟩
  have hh2:ls.getD 0 0=ni:=by rw[hh,hni]
  obtain⟨N,hN⟩:∃N,N=uX 0 n l++List.replicate m 1:=⟨_,rfl⟩
  rw[←hN]at hLe
  obtain⟨bl0,hbl0⟩:∃bl0,bl0=QN N:=⟨_,rfl⟩
  obtain⟨vb,hvb⟩:∃vb,vb=II true (QS bl0):=⟨_,rfl⟩
  have hfb:zlL a0=vb:=by rw[zlL,hL0,zq,hLe,zaV,←hbl0,hvb]
  have hNl:N.length=ls.length:=by rw[hLe,uc]
  obtain⟨hok0,hex0,hlast0⟩:=zlV N
  rw[←hbl0]at hok0 hex0
  have hbr:=ztr hb
  have hsm:=zrl l n n (by omega) hb.val
  generalize zq9:zlL=zxj
  generalize zqG:zxV=zDd
  generalize kb:uW=Za
  generalize yv:jU=qA
  refine zD (T:=tab) (B:=[(148,zlR zxj zDd),(52,Ko Za qA)]) (Bi:=[]) [0,2,3,4,5,6,7,8,9,10,11] Tryz.func138 rfl rfl (by kernel_rfl) (zg rfl) zP zQ (by subst zq9 zqG kb yv;exact(zm zmV (zm zcA zy))) (by subst zq9 zqG kb yv;exact zu) (by kernel_rfl) ?_
  intro L lp rr hL hr hf hlp
  have Eb:zxj a0=vb:=by rw[←zq9,hfb]
  conv=>cbv
  refine hlp (Int) _ _ _ [0,2,4] (fun x=>[(0,none,.val (.slc false 2 (.int .i64 0) a0)),(2,none,.val (.box 68 (.agg [.slc true 2 (.int .i64 0) []]))),(4,none,.val (.int .i64 x))])
   (fun x=>1≤x∧x≤lm) (fun x=>(lm-x).toNat) (1) (by subst hL;rfl) ?_ ?_
  ·exact⟨by omega,by omega⟩
  intro i ⟨i0,i1⟩ hfx ag hag
  have hfi:i<lm→ls.getD i.toNat 0≤ls.getD (i-1).toNat 0:=fun h=>by
   have:=hfall (i-1).toNat (by omega)
   rw[show(i-1).toNat+1=i.toNat by omega]at this
   exact this
  have b1:IntKind.wrap .i64 (i-1)=i-1:=zo (by omega) (by omega)
  have b2:IntKind.wrap .i64 (i+1)=i+1:=zo (by omega) (by omega)
  conv=>cbv
  simp only[zp hL,sQ,g0,hal,gal,←hlm,b1,b2,Eb,hh2]
  refine⟨fun h2=>⟨by omega,by omega,by omega,by omega,fun h3=>?_,fun h3=>hag (i+1) ⟨by omega,by omega⟩ (by omega)⟩,fun h2=>⟨?_,by omega,by omega,by omega,by omega,?_⟩⟩
  ·have:=hfi h2
   omega
  ·rw[←zqG];exact⟨N,by rw[hL0,hLe],by omega⟩
  clear hag hfx ag
  refine hlp (List V×List V×Int×Int×Int) _ _ _ [2,5,6,7,8,9] (fun x=>[(2,none,.val (.box 68 (.agg [.slc true 2 (.int .i64 0) []]))),(5,none,.val (.slc true 30 (.slc true 2 (.int .i64 0) []) x.1)),(6,none,.val (.box 68 (.agg [.slc true 2 (.int .i64 0) x.2.1]))),(7,none,.val (.int .i64 x.2.2.1)),(8,none,.val (.int .i64 x.2.2.2.1)),(9,none,.val (.int .i64 x.2.2.2.2))])
   (fun x=>∃(bl:List (Nat×Nat)) (pre rest:List Nat) (p e m a:Nat),x.1=II true (QS bl)∧x.2.1=I (yH (n::pre))∧l=pre++rest∧x.2.2.1=(p:Int)∧x.2.2.2.1=(a:Int)∧x.2.2.2.2=(e:Int)∧0<e∧e≤64∧p≤2000∧e ∣ p∧Val p e rest∧bl.length≤2000∧(Zo (bl.drop a)).length≤1000∧OkB (bl.drop a)∧Zo (bl.drop a)=uX p e rest++List.replicate m 1∧(∀v c tl,bl.drop a=(v,c)::tl→v=e)) (fun x=>x.2.2.2.2.toNat) ((vb,[V.int IntKind.i64 ni],0,0,ni)) (by subst hL;rfl) ?_ ?_
  ·refine⟨bl0,[],l,0,n,m,0,hvb,by rw[hni];rfl,rfl,rfl,rfl,hni,by omega,hhi,by omega,⟨0,rfl⟩,hb.val.weak (by omega),?_,by rw[uz,hex0];omega,hok0,by rw[uz,hex0,hN],?_⟩
   ·cases hb9:bl0 with
    |nil=>simp
    |cons q9 l9=>
     rw[hb9]at hok0 hex0
     have h3:=zth l9 q9 hok0
     have h4:=congrArg List.length hex0
     rw[ZG,zk]at h4
     simp only[zi]
     omega
   ·intro v c tl h3
    rw[uz]at h3
    have h4:=zpj _ N rfl
    rw[←hbl0,h3]at h4
    have h5:N.getD 0 0=n:=by
     have h6:=zad N 0 0
     rw[←hLe]at h6
     have h7:ls.getD 0 0=((N.getD 0 0:Nat):Int):=h6
     rw[hh]at h7
     omega
    cases hN9:N with
    |nil=>rw[hN9]at h4;simp at h4
    |cons y N9=>
     rw[hN9]at h4 h5
     simp only[List.head?_cons,Option.map_some,za]at h4
     rw[h4]
     exact h5
  rintro⟨vs,bs,la,ti,e⟩ ⟨bl,pre,rest,p,e',m',a,hV,hB,hl,hp,ha,he,he0,he64,hp2,hd,hv,hbl,hel,hok,hex,hhd⟩ hfx ag hag
  simp only at hV hB hp ha he
  have hvl:vs.length=bl.length:=by rw[hV,yk,zrr]
  have hbsl:bs.length=pre.length+1:=by rw[hB,zj,uc];rfl
  have gvs:∀(k:Nat) (q:Nat×Nat),bl[k]? =some q→vs.getD k (.slc true 2 (.int .i64 0) [])=.slc true 2 (.int .i64 0) (I [(q.1:Int),(q.2:Int)]):=fun k q h=>by
   rw[hV,qB,zrs h]
  have hl2:∀x y:Int,[x,y].length=2:=fun _ _=>rfl
  have hg0:∀x y:Int,[x,y].getD 0 0=x:=fun _ _=>rfl
  have hg1:∀x y:Int,[x,y].getD 1 0=y:=fun _ _=>rfl
  by_cases he1:1<e
  ·cases rest with
   |nil=>have h3:e'=1:=hv
         omega
   |cons t rest=>
    obtain⟨v1,v2,v3,v4⟩:=hv
    obtain⟨X,hx,hr0,hr1⟩:=zlN he0 (zoD hd v1 v3)
    obtain⟨q,hq⟩:∃q,q=(t-p)/e':=⟨_,rfl⟩
    obtain⟨r,hr9⟩:∃r,r=(t-p)%e':=⟨_,rfl⟩
    obtain⟨Y,hY⟩:∃Y,Y=uX t (Nat.gcd e' t) rest++List.replicate m' 1:=⟨_,rfl⟩
    have hxe:ex (t-p) e'=List.replicate q e'++ex e' r:=by rw[uN he0,←hq,←hr9]
    rw[←hq,←hr9]at hx
    rw[←hr9]at hr0 hr1
    have hk:q*e'+r=t-p:=by rw[hq,hr9,kX];exact Zs _ _
    have hXe:ex e' r=r::X:=by
     have h3:=hxe.symm.trans hx
     exact List.append_cancel_left h3
    have hex2:Zo (bl.drop a)=List.replicate q e'++r::(X++Y):=by
     rw[hex,uX,yf,←hY,hx];simp
    obtain⟨c,tl,hdr⟩:∃c tl,bl.drop a=(e',c)::tl:=by
     match h3:bl.drop a with
     |[]=>
      rw[h3]at hex2
      exfalso
      have h4:=congrArg List.length hex2
      simp[Zo]at h4
     |(v,c)::tl=>exact⟨c,tl,by rw[hhd v c tl h3]⟩
    rw[hdr]at hok hex2 hel
    obtain⟨hcq,c1,tl',htl,hok2,hex3⟩:=zuK hok (by omega) hex2
    have hbA:bl[a]? =some (e',q):=by
     have h4:(bl.drop a)[0]? =some (e',c):=by rw[hdr];rfl
     rw[ye,yr,hcq]at h4
     exact h4
    have hdr1:bl.drop (a+1)=(r,c1)::tl':=by
     have h4:(bl.drop a).drop 1=tl:=by rw[hdr];rfl
     rw[uZ,htl]at h4
     exact h4
    have hbB:bl[a+1]? =some (r,c1):=by
     have h4:(bl.drop (a+1))[0]? =some (r,c1):=by rw[hdr1];rfl
     rw[ye,yr]at h4
     exact h4
    have hal2:a+1<bl.length:=(zn.1 hbB).1
    have ht1:ti.toNat=a:=by omega
    have ht2:(ti+1).toNat=a+1:=by omega
    have b3:IntKind.wrap .i64 (ti+1)=ti+1:=zo (by omega) (by omega)
    have hqe:q*e'≤2000:=by omega
    obtain⟨qe,hqe9⟩:∃qe:Int,qe=((q*e':Nat):Int):=⟨_,rfl⟩
    have b4:IntKind.wrap .i64 ((q:Int)*e)=qe:=by
     have h5:(q:Int)*e=((q*e':Nat):Int):=by rw[he];push_cast;rfl
     rw[h5,hqe9]
     exact zo (by omega) (by omega)
    have b5:IntKind.wrap .i64 (la+qe)=la+qe:=zo (by omega) (by omega)
    have b6:IntKind.wrap .i64 (la+qe+(r:Int))=(t:Int):=by
     rw[zo (by omega) (by omega)]
     omega
    have hpl:pre.length≤5:=by
     have h6:l.length=pre.length+(rest.length+1):=by rw[hl,zk];rfl
     have h7:l.length≤6:=by
      rcases zcZ 6 l.length with h8|h8
      ·exfalso
       have h9:2^7≤2^l.length:=Nat.pow_le_pow_right (by omega) (by omega)
       omega
      ·exact h8
     omega
    have gA:=gvs _ _ hbA
    have gB:=gvs _ _ hbB
    conv=>cbv
    simp only[zp hL,sQ,hvl,b3,ht1,ht2,gA,gB,zfp,zj,zR,ui,hl2,hg0,hg1,b4,b5,b6]
    refine⟨fun _=>⟨fun _=>by omega,fun _=>by omega,fun _=>by omega,fun _=>trivial,fun _=>by omega,fun _=>trivial,fun _=>by omega,fun _=>by omega,fun _=>by omega,fun _=>trivial,fun _=>by omega,fun _=>trivial,fun h3=>by omega,fun _=>⟨by omega,by omega,hal2,hal2,by omega,by omega,hal2,by omega,?_⟩⟩,fun h=>absurd he1 h⟩
    obtain⟨bs2,hb2⟩:∃bs2,bs2=bs++[V.int IntKind.i64 (t:Int)]:=⟨_,rfl⟩
    have hb2l:bs2.length=pre.length+2:=by rw[hb2,zk,hbsl];rfl
    have hB2:bs2=I (yH (n::(pre++[t]))):=by
     rw[hb2,hB,show yH (n::(pre++[t]))=yH (n::pre)++[(t:Int)] by simp[yH],←qr];rfl
    simp only[←hb2,hb2l]
    have hgp:=uC t he0
    have hgl:=Nat.le_of_dvd he0 (Kq e' t)
    have hgr:Nat.gcd e' r=Nat.gcd e' t:=by
     have h4:Nat.gcd e' (t-p)=Nat.gcd e' t:=zzt hd (by omega)
     rw[←h4,Nat.gcd_rec e' (t-p),←hr9,uO]
    refine⟨by omega,by omega,by omega,by omega,by omega,by omega,by omega,by omega,rfl,by simp only[qn];omega,yR _,fun h8=>by omega,fun _=>?_⟩
    refine hlp (Int×Int×Int) _ _ _ [2,5,6,7,8,9,10] (fun x=>[(2,none,.val (.box 68 (.agg [.slc true 2 (.int .i64 0) []]))),(5,none,.val (.slc true 30 (.slc true 2 (.int .i64 0) []) vs)),(6,none,.val (.box 68 (.agg [.slc true 2 (.int .i64 0) bs2]))),(7,none,.val (.int .i64 (t:Int))),(8,none,.val (.int .i64 x.1)),(9,none,.val (.int .i64 x.2.1)),(10,none,.val (.int .i64 x.2.2))])
     (fun x=>∃(a1 e1 r1 c:Nat) (tl:List (Nat×Nat)),(Zo ((r1,c)::tl)).length≤1000∧x.1=(a1:Int)∧x.2.1=(e1:Int)∧x.2.2=(r1:Int)∧0<r1∧r1≤64∧0<e1∧e1≤64∧Nat.gcd e1 r1=Nat.gcd e' t∧bl.drop a1=(r1,c)::tl∧OkB ((r1,c)::tl)∧Zo ((r1,c)::tl)=ex e1 r1++Y) (fun x=>x.2.2.toNat) ((ti+1,e,(r:Int))) (by subst hL;rfl) ?_ ?_
    ·have hel2:(Zo ((r,c1)::tl')).length≤1000:=by
      rw[←htl]
      rw[ZG,zk]at hel
      omega
     exact⟨a+1,e',r,c1,tl',hel2,by simp only;omega,he,rfl,hr0,by omega,he0,he64,hgr,hdr1,by rw[←htl];exact hok2,by rw[←htl,hex3,hXe];rfl⟩
    rintro⟨tj,f,s⟩ ⟨a1,e1,r1,c9,tl9,hel9,ha1,hf9,hs9,r0,r64,ee0,ee64,hgc,hdr9,hok9,hex9⟩ hfx2 ag2 hag2
    simp only at ha1 hf9 hs9
    have hbA9:bl[a1]? =some (r1,c9):=by
     have h4:(bl.drop a1)[0]? =some (r1,c9):=by rw[hdr9];rfl
     rw[ye,yr]at h4
     exact h4
    have hA9:a1<bl.length:=(zn.1 hbA9).1
    have ht9:tj.toNat=a1:=by omega
    have hm9:f.tmod s=((e1%r1:Nat):Int):=by rw[hf9,hs9];exact(Int.ofNat_tmod e1 r1).symm
    have hd9:f.tdiv s=((e1/r1:Nat):Int):=by rw[hf9,hs9];exact(Int.ofNat_tdiv e1 r1).symm
    have hdl:e1/r1≤e1:=Nat.div_le_self _ _
    have hre:ex e1 r1=List.replicate (e1/r1) r1++ex r1 (e1%r1):=uN r0
    have hfo:=fun h:¬e1%r1=0=>zlN r0 (k:=e1) (fun h2=>h (Nat.mod_eq_zero_of_dvd h2))
    obtain⟨k9,hk9e⟩:∃k9,k9=e1/r1:=⟨_,rfl⟩
    rw[←hk9e]at hd9 hdl hre
    simp only[←hk9e]at hfo
    have b7:IntKind.wrap .i64 (k9:Int)=(k9:Int):=zo (by omega) (by omega)
    have b8:IntKind.wrap .i64 (tj+1)=tj+1:=zo (by omega) (by omega)
    have hs0:s≠0:=by omega
    have gA9:=gvs _ _ hbA9
    by_cases hmod:e1%r1=0
    ·have hex10:ex e1 r1=List.replicate k9 r1:=by rw[hre,hmod,zfx,yw]
     rw[hex10]at hex9
     obtain⟨hk9,hok10,hex11⟩:=zBr hok9 hex9
     obtain⟨c10,hc10⟩:∃c10,c10=c9-k9:=⟨_,rfl⟩
     rw[←hc10]at hok10 hex11
     have hm10:f.tmod s=0:=by rw[hm9,hmod];rfl
     have hc9:c9≤1000000:=by
      rw[ZG,zk,zT]at hel9
      simp only at hel9
      omega
     have hel10:(Zo ((r1,c10)::tl9)).length≤1000:=by
      rw[ZG,zk,zT]at hel9 ⊢
      simp only at hel9 ⊢
      omega
     have b9:IntKind.wrap .i64 ((c9:Int)-(k9:Int))=(c10:Int):=by
      rw[zo (by omega) (by omega)];omega
     obtain⟨vs2,hvs2⟩:∃vs2,vs2=vs.set a1 (.slc true 2 (.int .i64 0) (I [(r1:Int),(c10:Int)])):=⟨_,rfl⟩
     have hset:(I [(r1:Int),(c9:Int)]).set 1 (V.int .i64 (c10:Int))=I [(r1:Int),(c10:Int)]:=rfl
     have hv2l:vs2.length=bl.length:=by rw[hvs2,yj,hvl]
     have gA10:vs2.getD a1 (.slc true 2 (.int .i64 0) [])=.slc true 2 (.int .i64 0) (I [(r1:Int),(c10:Int)]):=by
      rw[hvs2,zd,List.getElem?_set_self (by omega)];rfl
     conv=>cbv
     simp only[zp hL,sQ,hvl,ht9,gA9,zfp,zj,zR,ui,hl2,hg0,hg1,hm10,hd9,b7,b9,hset,←hvs2,hv2l,gA10]
     refine⟨hs0,fun h=>absurd trivial h,fun _=>⟨by omega,by omega,hA9,hA9,by omega,by omega,hA9,by omega,hs0,hA9,by omega,by omega,hA9,by omega,?_⟩⟩
     have hrg:r1=Nat.gcd e' t:=by rw[←hgc];exact(Nat.gcd_eq_right (Nat.dvd_of_mod_eq_zero hmod)).symm
     have hsp:bl=bl.take a1++(r1,c9)::tl9:=by rw[←hdr9,qK]
     have hdrs:(bl.set a1 (r1,c10)).drop a1=(r1,c10)::tl9:=by
      rw[zzE hdr9 hA9]
     refine⟨hA9,by omega,by omega,hA9,by omega,fun h=>by omega,fun _=>?_⟩
     refine hag (vs2,bs2,(t:Int),tj,s) ⟨bl.set a1 (r1,c10),pre++[t],rest,t,r1,m',a1,?_,hB2,by rw[hl];simp,rfl,ha1,hs9,r0,r64,v2,by rw[hrg];exact Nat.gcd_dvd_right e' t,by rw[hrg];exact v4,by rw[yj];exact hbl,by rw[hdrs];exact hel10,by rw[hdrs];exact hok10,by rw[hdrs,hex11,hY,hrg],?_⟩ ?_
     ·simp only
      rw[hvs2,hV,zk5,←zrq]
     ·intro v c tl h3
      rw[hdrs]at h3
      injection h3 with h3 _
      injection h3 with h3 _
      exact h3.symm
     ·simp only
      have h5:r1<e':=by
       rw[hrg]
       omega
      omega
    ·obtain⟨X2,hx2,hq0,hq1⟩:=hfo hmod
     obtain⟨s1,hs1⟩:∃s1,s1=e1%r1:=⟨_,rfl⟩
     rw[←hs1]at hx2 hq0 hq1 hm9
     have hex10:Zo ((r1,c9)::tl9)=List.replicate k9 r1++s1::(X2++Y):=by rw[hex9,hx2];simp
     obtain⟨hcq9,c2,tl2,htl9,hok10,hex11⟩:=zuK hok9 (by omega) hex10
     have hdr10:bl.drop (a1+1)=(s1,c2)::tl2:=by
      have h4:(bl.drop a1).drop 1=tl9:=by rw[hdr9];rfl
      rw[uZ,htl9]at h4
      exact h4
     have hbB9:bl[a1+1]? =some (s1,c2):=by
      have h4:(bl.drop (a1+1))[0]? =some (s1,c2):=by rw[hdr10];rfl
      rw[ye,yr]at h4
      exact h4
     have hB9:a1+1<bl.length:=(zn.1 hbB9).1
     have ht10:(tj+1).toNat=a1+1:=by omega
     have gB9:=gvs _ _ hbB9
     have hxe2:ex r1 s1=s1::X2:=by
      rw[hre,←hs1]at hx2
      exact List.append_cancel_left hx2
     rw[hcq9]at gA9
     conv=>cbv
     simp only[zp hL,sQ,hvl,b8,ht9,ht10,gA9,gB9,zfp,zj,zR,ui,hl2,hg0,hg1,hm9,hd9,b7]
     refine⟨hs0,fun _=>⟨by omega,by omega,hA9,hA9,by omega,by omega,hA9,by omega,hs0,fun _=>by omega,fun _=>by omega,fun _=>hB9,fun _=>trivial,fun _=>hB9,fun _=>trivial,fun _=>by omega,fun _=>by omega,fun _=>hB9,fun _=>trivial,fun _=>by omega,fun _=>trivial,fun _=>hs0,fun h=>?_,fun _=>⟨by omega,by omega,hB9,hB9,by omega,by omega,hB9,by omega,?_⟩⟩,fun h=>by omega⟩
     ·rcases h with(h|h)|h
      ·exact absurd trivial h
      ·omega
      ·exact absurd trivial h
     ·have hgc2:Nat.gcd r1 s1=Nat.gcd e' t:=by
       rw[←hgc,uO e1 r1,Nat.gcd_rec r1 e1,←hs1,uO]
      have hel10:(Zo ((s1,c2)::tl2)).length≤1000:=by
       rw[←htl9]
       rw[ZG,zk]at hel9
       omega
      exact hag2 (tj+1,s,(s1:Int)) ⟨a1+1,r1,s1,c2,tl2,hel10,by simp only;omega,hs9,rfl,hq0,by omega,r0,r64,hgc2,hdr10,by rw[←htl9];exact hok10,by rw[←htl9,hex11,hxe2];rfl⟩ (by simp only;omega)
  ·have he9:e'=1:=by omega
   have hr0:rest=[]:=by
    cases rest with
    |nil=>rfl
    |cons t rest=>
     have h3:=hv.2.2.1
     rw[he9,Nat.gcd_one_left]at h3
     exact absurd rfl h3
   have hfb2:V.frzs bs=bs:=by rw[hB,zG]
   have hll:l=pre:=by rw[hl,hr0,yw]
   rw[←hll]at hB
   have Ei:Za bs=true:=by rw[←kb,uW,hB,zq];exact hbr.is
   conv=>cbv
   simp only[zp hL,sQ,hfb2,Ei]
   refine⟨fun h=>absurd h he1,fun _=>⟨?_,fun h=>(by cases h),fun _=>by rw[hr,hf0,hB]⟩⟩
   rw[←yv,hB]
   exact⟨⟨_,rfl⟩,by rw[zj];have:=hbr.len;omega⟩
 ·cases h
end Go.Ax
namespace Go.Ax
open Go.Proofs
def okC(cs:List Nat):Bool:=(mC cs).all fun x=>decide (x≤64)
def zkT(cs:List Nat):List Int:=zuJ (yH (mC cs))
def zlH(a:List V):List V×Int:=bif okC (zgd (qb a))then(I (zkT (zgd (qb a))),0)else([],5)
theorem zCW{cs:List Nat}(h:okC cs=true):cvm cs=(I (yH (mC cs)),true):=by
 rw[okC,zaR,List.all_cons,zh,decide_eq_true_eq]at h
 rw[cvm,if_pos h.2,decide_eq_true h.1]
theorem zDZ{cs:List Nat}(h:okC cs=false):(cvm cs).2=false:=by
 rw[okC,zaR,List.all_cons,jT,decide_eq_false_iff_not]at h
 rw[cvm]
 split
 ·rename_i h2
  rcases h with h|h
  ·exact decide_eq_false h
  ·rw[h2]at h;cases h
 ·rfl
theorem zCs{cs:List Nat}(hl:cs.length≤30)(h:okC cs=true):∃n l m,BrN n l∧mC cs=uX 0 n l++List.replicate m 1:=by
 obtain⟨n,l,m,h1,h2,_,_⟩:=zzg cs hl (fun x hx=>by
  rw[okC,yI]at h
  simpa using h x hx)
 exact⟨n,l,m,h1,h2⟩
theorem zEB(cs:List Nat):mC cs≠[]:=by rw[zaR];simp
theorem zsP{cs:List Nat}(hl:cs.length≤30)(h:okC cs=true)(k:Nat):(∃n l,zqu n l (yH (mC cs++List.replicate k 1)))∧zuJ (yH (mC cs++List.replicate k 1))=zkT cs:=by
 obtain⟨n,l,m,h1,h2⟩:=zCs hl h
 have hne:∀k,yH (mC cs++List.replicate k 1)≠[]:=fun k=>by
  rw[yH]
  simp[zEB]
 have hs:∀k,zqu n l (yH (mC cs++List.replicate k 1)):=fun k=>⟨h1,hne k,m+k,by rw[h2,yf,jq]⟩
 refine⟨⟨n,l,hs k⟩,?_⟩
 have h0:=hs 0
 rw[QE,yw]at h0
 rw[zkT,zlU (hs k),zlU h0]
theorem zhT:yT Tryz.prog 114 (zuy zlH zfa):=by
 intro args ps r h hp
 unfold zuy at h
 split at h
 ·rename_i a0
  simp only[za,zb]at h
  obtain⟨rfl,rfl⟩:=h
  have hq:zfa a0:=(zl.1 hp).1
  obtain⟨cs,hcs,hv,hl⟩:=id hq
  have g0:V.frzs a0=a0:=by rw[hcs,zG]
  have hf0:zlH a0=bif okC cs then(I (zkT cs),0)else([],5):=by rw[zlH,hcs,zq,zaV]
  have hfm:zlG a0=cvm cs:=by rw[zlG,hcs,zq,zaV]
  generalize znJ:zt5=zBH
  generalize zdG:zfa=zl0
  generalize zqZ:zlG=zDi
  generalize znN:zh5=zBJ
  generalize znF:zs5=zBE
  generalize zq7:zlK=zDm
  generalize zqB:zxQ=zDa
  refine zD (T:=tab) (B:=[(136,zux zBH zl0),(137,zuw zDi zl0),(139,zuA zBJ zBE),(138,zuz zDm zDa)]) (Bi:=[]) [0,2,3,4,5,6,7] Tryz.func114 rfl rfl (by kernel_rfl) (zg rfl) zP zQ (by subst znJ zdG zqZ znN znF zq7 zqB;exact(zm zsT (zm zjZ (zm zpG (zm zmU zy))))) (by subst znJ zdG zqZ znN znF zq7 zqB;exact zu) (by kernel_rfl) ?_
  intro L lp rr hL hr hf hlp
  conv=>cbv
  simp only[zp hL,sQ,g0]
  subst zqZ zdG zq7 zqB znN znF znJ
  rw[hfm]
  cases hok:okC cs with
  |true=>
   rw[zCW hok]
   have e1:I (yH (mC cs))++zh5 64=I (yH (mC cs++List.replicate 64 1)):=by
    rw[zh5,qr,←zbn]
    rfl
   obtain⟨⟨n,l,hs⟩,hb⟩:=zsP hl hok 64
   have e2:zlK (I (yH (mC cs++List.replicate 64 1)))=(I (zkT cs),true):=by rw[zlK,zq,hb]
   dsimp only
   rw[e1,zG,e2]
   have hone:zh5 64=I (yH (List.replicate 64 1)):=rfl
   refine⟨hq,fun h=>(by cases h),fun _=>⟨hq,fun h=>(by cases h),fun _=>⟨⟨by omega,by omega⟩,(by rw[hone];exact Ks _),?_,(by rw[hone];exact JO _),⟨n,l,_,rfl,hs,?_⟩,JP _,fun h=>(by cases h),fun _=>?_⟩⟩⟩
   ·rw[hone,zj,zj,uc,uc,QW,zT]
    omega
   ·rw[uc,zk,QW,zT]
    omega
   ·rw[hr,hf0,hok]
    rfl
  |false=>
   have h2:=zDZ hok
   refine⟨hq,fun h=>(by cases h),fun _=>⟨hq,fun _=>?_,fun h=>(nomatch (h.symm.trans h2:true=false))⟩⟩
   rw[hr,hf0,hok]
   rfl
 ·cases h
end Go.Ax
namespace Go.Ax
open Go.Proofs
def tk(ms:List (List Int))(i:Nat):Option Nat:=(List.range i).find? fun k=>decide (2≤mm ms i k)
def zjW(ms:List (List Int)):Nat→List Int×Int
 |0=>([],0)
 |i+1=>match tk ms i with
  |some k=>((zjW ms i).1++[(zjW ms i).1.getD k 0],(zjW ms i).2)
  |none=>((zjW ms i).1++[(zjW ms i).2],(zjW ms i).2+1)
end Go.Ax
namespace Go.Ax
open Go.Proofs
def plN(L:List Int)(x:Int):Nat→List Int
 |0=>[]
 |n+1=>if L.getD n 0=x then plN L x n++[(n:Int)]else plN L x n
def okS(x:List Int):Bool:=decide ((JW x).length≤399)
def stB(bs:List (List Int))(ls:List Int)(j:Nat):List (List Int):=qD (fun k=>if k<j then zEQ (bs.getD (ls.getD k 0).toNat [])else bs.getD (ls.getD k 0).toNat []) ls.length
def dcR(ms:List (List Int))(ls:List Int)(i c:Nat):List Int:=qD (fun k=>if k<c∧k≠i then mm ms (ls.getD i 0).toNat (ls.getD k 0).toNat-1 else mm ms (ls.getD i 0).toNat (ls.getD k 0).toNat) ls.length
def stM(ms:List (List Int))(ls:List Int)(j c:Nat):List (List Int):=qD (fun i=>dcR ms ls i (if i<j then ls.length else if i=j then c else 0)) ls.length
abbrev Cur:Type:=List (List Int)×List (List Int)
def blS(bs ms:List (List Int))(L:List Int):Nat→Option (List Cur)
 |0=>some []
 |t+1=>(blS bs ms L t).bind fun o=>if(plN L t L.length).all (fun i=>okS (bs.getD i.toNat []))then some (o++[(stB bs (plN L t L.length) (plN L t L.length).length,stM ms (plN L t L.length) (plN L t L.length).length 0)])else none
def bl(bs ms:List (List Int))(n:Nat):Option (List Cur):=blS bs ms (zjW ms n).1 (zjW ms n).2.toNat
end Go.Ax
namespace Go.Ax
open Go.Proofs
def zap(P S:List Int)(i:Int):List Nat:=cdN S (yW P i)
def zcQ(cs:List Nat):List V×Int:=bif okC cs then(I (zkT cs),0)else([],5)
def zo5(a b _:List V)(i:Int):List V×Int:=zcQ (zap (qb a) (qb b) i)
theorem zzG(cs:List Nat):V.noFzs (zcQ cs).1=true:=by
 rw[zcQ]
 cases okC cs with
 |true=>exact JP _
 |false=>rfl
theorem zuj(cs:List Nat):V.frzs (zcQ cs).1=(zcQ cs).1:=by
 rw[zcQ]
 cases okC cs with
 |true=>exact zG _
 |false=>rfl
theorem zC0{P S Q:List Int}(h:ClP P S Q){i:Int}(h0:0≤i)(h1:i<P.length):zfa (I (yH (zap P S i)))∧zlH (I (yH (zap P S i)))=zcQ (zap P S i):=by
 refine⟨⟨_,rfl,(zrx h i (by omega) h1).2,?_⟩,by rw[zlH,zq,zaV,zcQ]⟩
 have:=zdk h (show-1≤i by omega) h1
 rw[zap,zie]
 omega
def zBc(a b c:List V)(i:Int):Int:=0
theorem zod:yT Tryz.prog 113 (zuE zBc zkb):=by
 intro args ps r h hp
 unfold zuE at h
 split at h
 ·rename_i a0 a1 a2 i
  simp only[za,zb]at h
  obtain⟨rfl,rfl⟩:=h
  have hqp:zkb a0 a1 a2 i:=(zl.1 hp).1
  obtain⟨hqv,i0,i1⟩:=id hqp
  obtain⟨⟨⟨P,hP⟩,⟨S,hS⟩,⟨Q,hQ⟩⟩,hcl⟩:=id hqv
  rw[hP,hS,hQ,zq,zq,zq]at hcl
  have g0:V.frzs a0=a0:=by rw[hP,zG]
  have g1:V.frzs a1=a1:=by rw[hS,zG]
  have g2:V.frzs a2=a2:=by rw[hQ,zG]
  have hpl:a0.length=P.length:=by rw[hP,zj]
  have n24:=hcl.n24
  have hf2:kD a0 a1 a2=true:=by rw[kD,hP,hS,hQ,zq,zq,zq];exact zgb.2 hcl
  rw[hpl]at i1
  generalize uG:kD=zaH
  generalize Yu:q_K=zd7
  generalize yD:yG=je
  refine zD (T:=tab) (B:=[(87,zfm zaH zd7),(48,jg je)]) (Bi:=[]) [0,1,2,4] Tryz.func113 rfl rfl (by kernel_rfl) (zg rfl) zP zQ (by subst uG Yu yD;exact(zm zcz (zm YR zy))) (by subst uG Yu yD;exact zu) (by kernel_rfl) ?_
  intro L lp rr hL hr hf hlp
  have E1:∀x a b,je x a b=yG x a b:=fun x a b=>by rw[←yD]
  conv=>cbv
  simp only[zp hL,sQ,g0,g1,g2,hpl,E1]
  rw[←uG,←Yu,hf2,zo (by omega) (by omega)]
  refine⟨hqv.1,fun h=>(nomatch h),fun _=>⟨fun h=>?_,fun _=>?_⟩⟩
  ·rw[yG,jT,decide_eq_false_iff_not,decide_eq_false_iff_not]at h
   omega
  ·rw[hr,zBc]
 ·cases h
def zqq(f:List V→List V→List V→Int→List V×Int)(q:List V→List V→List V→Int→Prop):zN:=fun
 |[.agg [.slc false 2 (.int .i64 0) a0,.slc false 2 (.int .i64 0) a1,.slc false 2 (.int .i64 0) a2],.int .i64 a3]=>some ([q a0 a1 a2 a3],.tup [.agg [.slc false 2 (.int .i64 0) ((f a0 a1 a2 a3).1)],.int .i64 ((f a0 a1 a2 a3).2)])
 |_=>none
theorem ziH:yT Tryz.prog 93 (zqq zo5 zkb):=by
 intro args ps r h hp
 unfold zqq at h
 split at h
 ·rename_i a0 a1 a2 i
  simp only[za,zb]at h
  obtain⟨rfl,rfl⟩:=h
  have hqp:zkb a0 a1 a2 i:=(zl.1 hp).1
  obtain⟨hqv,i0,i1⟩:=id hqp
  obtain⟨⟨⟨P,hP⟩,⟨S,hS⟩,⟨Q,hQ⟩⟩,hcl⟩:=id hqv
  rw[hP,hS,hQ,zq,zq,zq]at hcl
  have g0:V.frzs a0=a0:=by rw[hP,zG]
  have g1:V.frzs a1=a1:=by rw[hS,zG]
  have g2:V.frzs a2=a2:=by rw[hQ,zG]
  have hpl:a0.length=P.length:=by rw[hP,zj]
  have hi1:=i1
  rw[hpl]at i1
  have hfp:zeu a0 a1 a2 i=I (yW P i):=by rw[zeu,hP,zq]
  have hfc:zlI a0 a1 a2 (I (yW P i))=I (yH (zap P S i)):=by rw[zlI,hS,zq,zq,zap]
  have hqc:zsi a0 a1 a2 (I (yW P i)):=⟨hqv,i,by rw[hP,zq],i0,hi1⟩
  obtain⟨ck1,ck2⟩:=zC0 hcl i0 i1
  have hf0:zo5 a0 a1 a2 i=zcQ (zap P S i):=by rw[zo5,hP,hS,zq,zq]
  generalize zuZ:zBc=zEh
  generalize zgE:zkb=zis
  generalize zb1:zeu=zjD
  generalize zq3:zlI=zDk
  generalize zqF:zsi=zDc
  generalize zq0:zlH=zDj
  generalize zdG:zfa=zl0
  refine zal (T:=tab) (B:=[(113,zuE zEh zis),(94,zlS zjD zis),(115,zgn zDk zDc),(114,zuy zDj zl0),(2000000114,zig)]) (Bi:=[]) [2000004807,2000004824,2000004998,0,1,2,4,5,6,7,8] Tryz.func93 rfl rfl (by kernel_rfl) (zg rfl) zP zQ (by subst zuZ zgE zb1 zq3 zqF zq0 zdG;exact(zm zod (zm zhS (zm zpD (zm zhT (zm zpQ zy)))))) (by subst zuZ zgE zb1 zq3 zqF zq0 zdG;exact zu) (by kernel_rfl) ?_
  intro L lp rr hL hr hf hlp
  conv=>cbv
  simp only[zp hL,sQ,g0,g1,g2]
  subst zuZ zgE zb1 zq3 zqF zq0 zdG
  rw[hfp,zG,hfc,zG,ck2]
  refine⟨hqp,fun h=>absurd rfl h,fun _=>⟨hqp,hqc,JP _,ck1,zzG _,?_⟩⟩
  rw[zuj,zuj,hr,hf0]
 ·cases h
end Go.Ax
