import Derived.Test.YtlkdpcjakfhnoaaGreatB04q4
import Derived.Test.YtlkdpcjakfhnoaaGreatB01q4
import Derived.Test.YtlkdpcjakfhnoaaGreatB03q4
import Derived.Test.YtlkdpcjakfhnoaaGreatB02q4
set_option linter.all false
set_option maxRecDepth 100000
set_option maxHeartbeats 4000000
open Int renaming le_refl→Zi,natCast_nonneg→ka,toNat_natCast→zC
open List renaming all_eq_true→yI,append_assoc→yf,getD_eq_getElem?_getD→zd,getElem?_eq_getElem→ze,getElem?_eq_none→zI,getElem?_map→zH,getElem?_set_ne→Zu,getElem_mem→ya,length_append→zk,length_cons→zi,length_drop→yx,length_map→yh,length_nil→zr,length_set→yj,length_take→zL,map_append→kt,map_set→Ym,mem_append→yU,mem_iff_getElem→qk,mem_or_eq_of_mem_set→KX,mem_singleton→yp,take_length→zb0,take_of_length_le→zB,take_succ_eq_append_getElem→zF
open Nat renaming le_of_ble_eq_true→zg,le_refl→zt
open Option.some renaming injEq→za
open Prod.mk renaming injEq→zb
/-
 Consistent clusters,factors,shared points. No conditions but those of the contracts.
-/
namespace Go.Ax
open Go.Proofs
def QK(P S Q:List Int):List Int:=qD (exL P S Q) P.length
def zsv(P S Q:List Int):Bool:=(QK P S Q).all fun x=>decide (0≤x)
def zcO(a b c:List V):Bool:=zsv (qb a) (qb b) (qb c)
theorem zrP{pm:List (List Int)}{w:List Int}(hw:∀i,-100000≤w.getD i 0∧w.getD i 0≤100000):∀(j:Nat) (a:Nat),j≤24→-(100000*((j:Int)+1))≤JY pm w j a∧JY pm w j a≤100000*((j:Int)+1)
 |0,a,_=>by
  have:=hw a
  rw[JY];omega
 |j+1,a,hj=>by
  have h1:=zrP (pm:=pm) hw j a (by omega)
  have h2:=hw j
  rw[JY]
  split
  ·have e:W (JY pm w j a-w.getD j 0)=JY pm w j a-w.getD j 0:=zo (by omega) (by omega)
   rw[e]
   omega
  ·omega
theorem zzz{P S Q:List Int}(h:ClP P S Q)(a:Nat): -2500000≤exL P S Q a∧exL P S Q a≤2500000:=by
 have n24:=h.n24
 have hw:∀i,-100000≤Q.getD i 0∧Q.getD i 0≤100000:=fun i=>by
  by_cases hi:i<P.length
  ·exact h.q i hi
  ·rw[zd,zI (by rw[h.ql];omega)]
   simp
 have:=zrP (pm:=cpx P S P.length P.length) hw P.length a (by omega)
 rw[exL]
 omega
theorem ziE:yT Tryz.prog 91 (zfm zcO zeK):=by
 intro args ps r h hp
 unfold zfm at h
 split at h
 ·rename_i a0 a1 a2
  simp only[za,zb]at h
  obtain⟨rfl,rfl⟩:=h
  have hqv:zeK a0 a1 a2:=(zl.1 hp).1
  obtain⟨⟨⟨P,hP⟩,⟨S,hS⟩,⟨Q,hQ⟩⟩,hcl⟩:=id hqv
  rw[hP,hS,hQ,zq,zq,zq]at hcl
  have g0:V.frzs a0=a0:=by rw[hP,zG]
  have g1:V.frzs a1=a1:=by rw[hS,zG]
  have g2:V.frzs a2=a2:=by rw[hQ,zG]
  have hpl:a0.length=P.length:=by rw[hP,zj]
  have hsl:a1.length=P.length:=by rw[hS,zj,hcl.sl]
  have hql:a2.length=P.length:=by rw[hQ,zj,hcl.ql]
  have gp:∀k,a0.getD k (.int .i64 0)=.int .i64 (P.getD k 0):=fun k=>by rw[hP,zR]
  have gs:∀k,a1.getD k (.int .i64 0)=.int .i64 (S.getD k 0):=fun k=>by rw[hS,zR]
  have gq:∀k,a2.getD k (.int .i64 0)=.int .i64 (Q.getD k 0):=fun k=>by rw[hQ,zR]
  obtain⟨n,hn⟩:∃n:Int,n=P.length:=⟨_,rfl⟩
  have n1:=hcl.n1
  have n24:=hcl.n24
  have low:=fun t ht=>hcl.low (i:=t) ht
  have hf0:zcO a0 a1 a2=zsv P S Q:=by rw[zcO,hP,hS,hQ,zq,zq,zq]
  have hfe:zcN a0 a1 a2 a2=I (QK P S Q):=by rw[zcN,hpl,hP,hS,hQ,zq,zq,zq];rfl
  obtain⟨vs,hvs⟩:∃vs,vs=I (QK P S Q):=⟨_,rfl⟩
  rw[←hvs]at hfe
  have hvl:vs.length=P.length:=by rw[hvs,zj,QK,qh]
  have gv:∀k,vs.getD k (.int .i64 0)=.int .i64 ((QK P S Q).getD k 0):=fun k=>by rw[hvs,zR]
  have hel:(QK P S Q).length=P.length:=qh _ _
  generalize zb3:zcN=zgN
  generalize zdI:zsj=zir
  refine zD (T:=tab) (B:=[(112,zgn zgN zir)]) (Bi:=[]) [0,1,2,3,4] Tryz.func91 rfl rfl (by kernel_rfl) (zg rfl) zP zQ (by subst zb3 zdI;exact(zm zfM zy)) (by subst zb3 zdI;exact zu) (by kernel_rfl) ?_
  intro L lp rr hL hr hf hlp
  have Ee:zgN a0 a1 a2 a2=vs:=by rw[←zb3];exact hfe
  have Qe:zir a0 a1 a2 a2:=by rw[←zdI];exact⟨hqv,rfl⟩
  conv=>cbv
  simp only[zp hL,sQ,g0,g1,g2,Ee]
  refine⟨Qe,?_⟩
  refine hlp (Int) _ _ _ [3,4] (fun x=>[(3,none,.val (.slc true 2 (.int .i64 0) vs)),(4,none,.val (.int .i64 x))])
   (fun x=>0≤x∧x≤P.length∧∀t,t<x.toNat→0≤(QK P S Q).getD t 0) (fun x=>(P.length-x).toNat) (0) (by subst hL;rfl) ?_ ?_
  ·exact⟨by simp,by simp,fun t ht=>by simp at ht⟩
  rintro i ⟨i0,i1,hI⟩ hfx ag hag
  conv=>cbv
  simp only[zp hL,sQ,hvl,gv]
  refine⟨fun h2=>⟨i0,h2,by omega,fun h3=>?_,fun h3=>?_⟩,fun h2=>?_⟩
  ·rw[hr,hf0,zsv]
   have:(QK P S Q).all (fun x=>decide (0≤x))=false:=by
    rw[List.all_eq_false]
    refine⟨_,znf (l:=QK P S Q) (t:=i.toNat) (by omega),?_⟩
    simpa using h3
   rw[this]
  ·rw[zo (n:=i+1) (by omega) (by omega)]
   refine hag (i+1) ⟨by omega,by omega,fun t ht=>?_⟩ (by omega)
   by_cases h4:t<i.toNat
   ·exact hI t h4
   ·rw[show t=i.toNat by omega];omega
  ·rw[hr,hf0,zsv]
   have:(QK P S Q).all (fun x=>decide (0≤x))=true:=by
    rw[yI]
    intro x hx
    obtain⟨t,ht,rfl⟩:=zDO hx
    simpa using hI t (by omega)
   rw[this]
 ·cases h
def zam(l:List Int):Nat→List (List Int)
 |0=>[]
 |i+1=>zam l i++if 0<l.getD i 0 then[[(i:Int),l.getD i 0]]else[]
theorem zno(l:List Int):∀i,(zam l i).length≤i
 |0=>by simp[zam]
 |i+1=>by
  have:=zno l i
  rw[zam,zk]
  split<;>simp<;>omega
def zh7(a b c:List V):List V:=II true (zam (QK (qb a) (qb b) (qb c)) a.length)
theorem zzV(xs:List Int):II true [xs]=[.slc true 2 (.int .i64 0) (I xs)]:=rfl
theorem zl3:yT Tryz.prog 92 (zyA zh7 zeK):=by
 intro args ps r h hp
 unfold zyA at h
 split at h
 ·rename_i a0 a1 a2
  simp only[za,zb]at h
  obtain⟨rfl,rfl⟩:=h
  have hqv:zeK a0 a1 a2:=(zl.1 hp).1
  obtain⟨⟨⟨P,hP⟩,⟨S,hS⟩,⟨Q,hQ⟩⟩,hcl⟩:=id hqv
  rw[hP,hS,hQ,zq,zq,zq]at hcl
  have g0:V.frzs a0=a0:=by rw[hP,zG]
  have g1:V.frzs a1=a1:=by rw[hS,zG]
  have g2:V.frzs a2=a2:=by rw[hQ,zG]
  have hpl:a0.length=P.length:=by rw[hP,zj]
  have hsl:a1.length=P.length:=by rw[hS,zj,hcl.sl]
  have hql:a2.length=P.length:=by rw[hQ,zj,hcl.ql]
  have gp:∀k,a0.getD k (.int .i64 0)=.int .i64 (P.getD k 0):=fun k=>by rw[hP,zR]
  have gs:∀k,a1.getD k (.int .i64 0)=.int .i64 (S.getD k 0):=fun k=>by rw[hS,zR]
  have gq:∀k,a2.getD k (.int .i64 0)=.int .i64 (Q.getD k 0):=fun k=>by rw[hQ,zR]
  obtain⟨n,hn⟩:∃n:Int,n=P.length:=⟨_,rfl⟩
  have n1:=hcl.n1
  have n24:=hcl.n24
  have low:=fun t ht=>hcl.low (i:=t) ht
  have hf0:zh7 a0 a1 a2=II true (zam (QK P S Q) P.length):=by rw[zh7,hpl,hP,hS,hQ,zq,zq,zq]
  have hfe:zcN a0 a1 a2 a2=I (QK P S Q):=by rw[zcN,hpl,hP,hS,hQ,zq,zq,zq];rfl
  obtain⟨E,hE⟩:∃E,E=QK P S Q:=⟨_,rfl⟩
  rw[←hE]at hf0 hfe
  obtain⟨vs,hvs⟩:∃vs,vs=I E:=⟨_,rfl⟩
  rw[←hvs]at hfe
  have hvl:vs.length=P.length:=by rw[hvs,zj,hE,QK,qh]
  have gv:∀k,vs.getD k (.int .i64 0)=.int .i64 (E.getD k 0):=fun k=>by rw[hvs,zR]
  generalize zb3:zcN=zgN
  generalize zdI:zsj=zir
  refine zD (T:=tab) (B:=[(112,zgn zgN zir)]) (Bi:=[]) [0,1,2,3,4,5] Tryz.func92 rfl rfl (by kernel_rfl) (zg rfl) zP zQ (by subst zb3 zdI;exact(zm zfM zy)) (by subst zb3 zdI;exact zu) (by kernel_rfl) ?_
  intro L lp rr hL hr hf hlp
  have Ee:zgN a0 a1 a2 a2=vs:=by rw[←zb3];exact hfe
  have Qe:zir a0 a1 a2 a2:=by rw[←zdI];exact⟨hqv,rfl⟩
  conv=>cbv
  simp only[zp hL,sQ,g0,g1,g2,Ee,hvl,←hn]
  refine⟨Qe,?_⟩
  refine hlp (List V×Int) _ _ _ [3,4,5] (fun x=>[(3,none,.val (.slc true 2 (.int .i64 0) vs)),(4,none,.val (.slc true 30 (.slc true 2 (.int .i64 0) []) x.1)),(5,none,.val (.int .i64 x.2))])
   (fun x=>0≤x.2∧x.2≤n∧x.1=II true (zam E x.2.toNat)) (fun x=>(n-x.2).toNat) (([],0)) (by subst hL;rfl) ?_ ?_
  ·exact⟨by simp,by simp only;omega,rfl⟩
  rintro⟨os,i⟩ ⟨i0,i1,hO⟩ hfx ag hag
  simp only at i0 i1 hO
  have hol:os.length≤24:=by
   have:=zno E i.toNat
   rw[hO,yk];omega
  conv=>cbv
  simp only[zp hL,sQ,gv,hvl,←hn]
  refine⟨fun h2=>?_,fun h2=>?_⟩
  ·rw[zo (n:=i+1) (by omega) (by omega)]
   refine⟨i0,by omega,by omega,fun h3=>?_,fun h3=>?_⟩
   ·have hnx:os++[V.slc true 2 (.int .i64 0) [V.int .i64 i,V.int .i64 (E.getD i.toNat 0)]]=II true (zam E (i.toNat+1)):=by
     rw[zam,if_pos h3,hO,show((i.toNat:Nat):Int)=i by omega,ZH,zzV]
     rfl
    (repeat' first|(exact yR _)|(exact jZ rfl)|(exact qL _)|(apply And.intro)|(intro _))<;>(try first|exact True.intro|omega|rfl|(simp only[zi,zr,zj];omega))
    refine hag (_,i+1) ⟨by simp only;omega,by simp only;omega,?_⟩ (by simp only;omega)
    simp only[zU i0]
    exact hnx
   ·refine hag (os,i+1) ⟨by simp only;omega,by simp only;omega,?_⟩ (by simp only;omega)
    simp only[zU i0]
    rw[zam,if_neg h3,List.append_nil];exact hO
  ·rw[hr,hf0,hO,show i.toNat=P.length by omega]
 ·cases h
def shN(a b:List Int):Nat:=(a.filter fun x=>decide (x∈b)).length
theorem zAn{a b:List Int}{i:Nat}(h:i<a.length):shN (a.take (i+1)) b=shN (a.take i) b+if a.getD i 0∈b then 1 else 0:=by
 rw[shN,shN,zF h,List.filter_append,zk,zwx h]
 congr 1
 by_cases hb:a.getD i 0∈b
 ·rw[List.filter_cons_of_pos (by simpa using hb),if_pos hb];rfl
 ·rw[List.filter_cons_of_neg (by simpa using hb),if_neg hb];rfl
theorem zDz(a b:List Int):shN a b≤a.length:=List.length_filter_le _ _
theorem zAo{a b:List Int}(ha:a.Nodup)(hb:b.Nodup):shN a b=shN b a:=by
 have hp:(a.filter fun x=>decide (x∈b)).Perm (b.filter fun x=>decide (x∈a)):=by
  rw[List.perm_ext_iff_of_nodup (ha.filter _) (hb.filter _)]
  intro x
  simp only[List.mem_filter,decide_eq_true_eq]
  exact⟨fun h=>⟨h.2,h.1⟩,fun h=>⟨h.2,h.1⟩⟩
 exact hp.length_eq
end Go.Ax
namespace Go.Ax
open Go.Proofs
def zcE(fs:List (List Int)):List Int:=fs.flatMap fun r=>List.replicate (r.getD 1 0).toNat (r.getD 0 0)
structure FacOk (n:Nat) (fs:List (List Int)):Prop where
 len:fs.length≤24
 row:∀r∈fs,r.length=2∧0≤r.getD 0 0∧r.getD 0 0<n∧0<r.getD 1 0∧r.getD 1 0≤2500000
theorem zt4{l:List Int}:∀{i:Nat} {r:List Int},r∈zam l i→∃k,k<i∧r=[(k:Int),l.getD k 0]∧0<l.getD k 0
 |0,r,h=>by simp[zam]at h
 |i+1,r,h=>by
  rw[zam]at h
  rcases yU.1 h with h|h
  ·obtain⟨k,h1,h2⟩:=zt4 h
   exact⟨k,by omega,h2⟩
  ·by_cases h0:0<l.getD i 0
   ·rw[if_pos h0,yp]at h
    exact⟨i,by omega,h,h0⟩
   ·rw[if_neg h0]at h
    cases h
theorem zwE{P S Q:List Int}(h:ClP P S Q):FacOk P.length (zam (QK P S Q) P.length):=by
 refine⟨Nat.le_trans (zno _ _) h.n24,fun r hr=>?_⟩
 obtain⟨k,h1,rfl,h3⟩:=zt4 hr
 have h4:=zzz h k
 have h5:(QK P S Q).getD k 0=exL P S Q k:=Zy _ _ _ _ h1
 have e0:([(k:Int),(QK P S Q).getD k 0]:List Int).getD 0 0=k:=rfl
 have e1:([(k:Int),(QK P S Q).getD k 0]:List Int).getD 1 0=exL P S Q k:=h5
 rw[h5]at h3
 rw[e0,e1]
 exact⟨rfl,by omega,by omega,by omega,by omega⟩
theorem zy2(fs:List (List Int))(r:List Int):zcE (fs++[r])=zcE fs++List.replicate (r.getD 1 0).toNat (r.getD 0 0):=by
 rw[zcE,List.flatMap_append,←zcE];simp
theorem FacOk.get{n:Nat}{fs:List (List Int)}(h:FacOk n fs){i:Nat}(hi:i<fs.length):(fs.getD i []).length=2∧0≤(fs.getD i []).getD 0 0∧(fs.getD i []).getD 0 0<n∧0<(fs.getD i []).getD 1 0∧(fs.getD i []).getD 1 0≤2500000:=
 h.row _ (zag hi)
theorem zyO{fs:List (List Int)}{i:Nat}(hi:i<fs.length):fs.take (i+1)=fs.take i++[fs.getD i []]:=zeG fs i hi
theorem zwg{n:Nat}{fs:List (List Int)}(h:FacOk n fs):∀x∈zcE fs,0≤x∧x<n:=by
 intro x hx
 rw[zcE,List.mem_flatMap]at hx
 obtain⟨r,hr,hx⟩:=hx
 have h1:=h.row r hr
 have h2:=List.eq_of_mem_replicate hx
 omega
def zkS(P S:List Int)(x:Int):List Int:=zkT (zap P S x)
def okX(P S:List Int)(x:Int):Bool:=okC (zap P S x)
theorem zBl{P S:List Int}{x:Int}(h:okX P S x=true):zcQ (zap P S x)=(I (zkS P S x),0):=by rw[zcQ,show okC (zap P S x)=true from h];rfl
theorem zCY{P S:List Int}{x:Int}(h:okX P S x=false):zcQ (zap P S x)=([],5):=by rw[zcQ,show okC (zap P S x)=false from h];rfl
theorem zBk{P S Q:List Int}(h:ClP P S Q){x:Int}(h0:0≤x)(h1:x<P.length)(hok:okX P S x=true):(zkS P S x).length≤3000:=by
 have hl:=zdk h (show-1≤x by omega) h1
 have hcl:(zap P S x).length≤30:=by rw[zap,zie];omega
 obtain⟨⟨n,l,hs⟩,_⟩:=zsP hcl hok 0
 rw[List.replicate_zero,List.append_nil]at hs
 rw[zkS,zkT,zlU hs,uc,zi]
 have hv:=zpx l n n hs.1.val (by have:=hs.1.hi;omega)
 omega
def com(P:List Int)(ps:List Int)(i k:Nat):Int:=if i=k then 0 else(shN (yW P (ps.getD i 0)) (yW P (ps.getD k 0)):Nat)
def zqg(P S:List Int)(ps:List Int):List V×List V×Int:=if ps.length=0∨6<ps.length then([],[],3)else bif ps.all (okX P S)then(BB true (ps.map (zkS P S)),II true (T2 ps.length (com P ps)),0)else([],[],5)
noncomputable def zcP(a b c:List V):List V×List V×Int:=bif kD a b c then(bif zcO a b c then zqg (qb a) (qb b) (zcE (zam (QK (qb a) (qb b) (qb c)) a.length))else([],[],5))else([],[],1)
end Go.Ax
namespace Go.Ax
open Go.Proofs
theorem zxp{pp:List Int}{x:Int}{t:Nat}(h:((pp++List.replicate t x).take 7).length≤6):(pp++List.replicate t x).take 7++[x]=(pp++List.replicate (t+1) x).take 7:=by
 rw[zL]at h
 have h2:(pp++List.replicate t x).length≤6:=by omega
 rw[zB (by omega),List.replicate_succ',←yf,zB (by rw[zk];simp only[zi,zr];omega)]
theorem zyS{pp:List Int}{x:Int}{t c:Nat}(ht:t≤c)(h:t=c∨6<((pp++List.replicate t x).take 7).length):(pp++List.replicate t x).take 7=(pp++List.replicate c x).take 7:=by
 rcases h with h|h
 ·rw[h]
 ·rw[zL]at h
  have e:pp++List.replicate c x=(pp++List.replicate t x)++List.replicate (c-t) x:=by
   rw[yf,List.replicate_append_replicate,show t+(c-t)=c by omega]
  rw[e]
  exact(List.take_append_of_le_length (by omega)).symm
end Go.Ax
namespace Go.Ax
open Go.Proofs
noncomputable def QB(a b c:List V):List V×List V×Int:=(V.frzs (zcP a b c).1,(zcP a b c).2.1,(zcP a b c).2.2)
def zuF(f:List V→List V→List V→List V×List V×Int)(q:List V→List V→List V→Prop):zN:=fun
 |[.agg [.slc false 2 (.int .i64 0) a0,.slc false 2 (.int .i64 0) a1,.slc false 2 (.int .i64 0) a2]]=>some ([q a0 a1 a2],.tup [.agg [.slc true 68 (.agg [.slc false 2 (.int .i64 0) []]) ((f a0 a1 a2).1),.slc true 30 (.slc true 2 (.int .i64 0) []) ((f a0 a1 a2).2.1)],.int .i64 ((f a0 a1 a2).2.2)])
 |_=>none
theorem zhv:yT Tryz.prog 56 (zuF QB q_K):=by
 intro args ps r h hp
 unfold zuF at h
 split at h
 ·rename_i a0 a1 a2
  simp only[za,zb]at h
  obtain⟨rfl,rfl⟩:=h
  have hq:q_K a0 a1 a2:=(zl.1 hp).1
  obtain⟨⟨P,hP⟩,⟨S,hS⟩,⟨Q,hQ⟩⟩:=id hq
  have g0:V.frzs a0=a0:=by rw[hP,zG]
  have g1:V.frzs a1=a1:=by rw[hS,zG]
  have g2:V.frzs a2=a2:=by rw[hQ,zG]
  have hpl:a0.length=P.length:=by rw[hP,zj]
  have hf1:kD a0 a1 a2=false→zcP a0 a1 a2=([],[],1):=fun h=>by rw[zcP,h];rfl
  have hf2:kD a0 a1 a2=true→zcO a0 a1 a2=false→zcP a0 a1 a2=([],[],5):=fun h h2=>by rw[zcP,h,h2];rfl
  obtain⟨fs,hfs⟩:∃fs,fs=zam (QK P S Q) P.length:=⟨_,rfl⟩
  have hf3:kD a0 a1 a2=true→zcO a0 a1 a2=true→zcP a0 a1 a2=zqg P S (zcE fs):=fun h h2=>by rw[zcP,h,h2,hpl,hP,hS,hQ,zq,zq,zq,hfs];rfl
  have hff:zh7 a0 a1 a2=II true fs:=by rw[zh7,hpl,hP,hS,hQ,zq,zq,zq,hfs]
  obtain⟨vf,hvf⟩:∃vf,vf=II true fs:=⟨_,rfl⟩
  rw[←hvf]at hff
  have hvl:vf.length=fs.length:=by rw[hvf,yk]
  have gvf:∀k,vf.getD k (.slc true 2 (.int .i64 0) [])=.slc true 2 (.int .i64 0) (I (fs.getD k [])):=fun k=>by rw[hvf,qB]
  obtain⟨n,hn⟩:∃n:Int,n=fs.length:=⟨_,rfl⟩
  generalize uG:kD=zaH
  generalize Yu:q_K=zd7
  generalize zjz:zcO=zBK
  generalize zuT:zeK=zvg
  generalize znO:zh7=zvn
  generalize zrb:zo5=zxl
  generalize zgE:zkb=zis
  generalize zb1:zeu=zjD
  generalize JU:zha=zcn
  generalize ux:zdj=Qx
  refine zBa (T:=tab) (B:=[(87,zfm zaH zd7),(91,zfm zBK zvg),(92,zyA zvn zvg),(93,zqq zxl zis),(3000000093,zig),(94,zlS zjD zis),(68,zch zcn Qx)]) (Bi:=[]) [1000016708,2000019811,2000019884,2000019998,2000023101,0,1,2,3,4,5,6,7,8,9,10,11,12,13,14,15,16,17] Tryz.func56 rfl rfl (by kernel_rfl) (zg rfl) zP zQ (by subst uG Yu zjz zuT znO zrb zgE zb1 JU ux;exact(zm zcz (zm ziE (zm zl3 (zm ziH (zm zpQ (zm zhS (zm zeI zy)))))))) (by subst uG Yu zjz zuT znO zrb zgE zb1 JU ux;exact zu) (by kernel_rfl) ?_
  intro L lp rr hL hr hf hlp
  have Ef:zvn a0 a1 a2=vf:=by rw[←znO];exact hff
  conv=>cbv
  simp only[zp hL,sQ,g0,g1,g2,Ef,hvl,←hn]
  refine⟨by rw[←Yu];exact hq,fun h=>?_,fun hcl0=>?_⟩
  ·rw[hr,QB,hf1 (by rw[←h,←uG])]
  have hcl1:kD a0 a1 a2=true:=by rw[←hcl0,←uG]
  have hqv:zeK a0 a1 a2:=zwf hq hcl1
  have hcl:ClP P S Q:=by have:=hqv.2;rwa [hP,hS,hQ,zq,zq,zq]at this
  have Qv:zvg a0 a1 a2:=by rw[←zuT];exact hqv
  have hfo:FacOk P.length fs:=by rw[hfs];exact zwE hcl
  have hl24:=hfo.len
  refine⟨Qv,fun h=>?_,fun hco0=>?_⟩
  ·rw[hr,QB,hf2 hcl1 (by rw[←h,←zjz])]
  have hco1:zcO a0 a1 a2=true:=by rw[←hco0,←zjz]
  have hf0:=hf3 hcl1 hco1
  refine⟨Qv,?_⟩
  refine hlp (List V×Int) _ _ _ [1,2,4,5,6] (fun x=>[(1,none,.val (.box 78 (.agg [.slc false 2 (.int .i64 0) a0,.slc false 2 (.int .i64 0) a1,.slc false 2 (.int .i64 0) a2]))),(2,none,.val (.box 27 (.agg [.slc true 68 (.agg [.slc true 2 (.int .i64 0) []]) [],.slc true 30 (.slc true 2 (.int .i64 0) []) []]))),(4,none,.val (.slc true 30 (.slc true 2 (.int .i64 0) []) vf)),(5,none,.val (.slc true 2 (.int .i64 0) x.1)),(6,none,.val (.int .i64 x.2))])
   (fun x=>0≤x.2∧x.2≤n∧x.1=I ((zcE (fs.take x.2.toNat)).take 7)) (fun x=>(n-x.2).toNat) (([],0)) (by subst hL;rfl) ?_ ?_
  ·exact⟨by simp,by simp only;omega,rfl⟩
  rintro⟨vp,i⟩ ⟨i0,i1,hI⟩ hfx ag hag
  simp only at i0 i1 hI
  obtain⟨ni,hni⟩:∃ni:Nat,ni=i.toNat:=⟨_,rfl⟩
  rw[←hni]at hI
  have hvpl:vp.length=((zcE (fs.take ni)).take 7).length:=by rw[hI,zj]
  conv=>cbv
  simp only[zp hL,sQ,g0,g1,g2,hvl,gvf,←hn,zR,zj,←hni]
  refine⟨fun h2=>?_,fun h2=>?_⟩
  ·obtain⟨r1,r2,r3,r4,r5⟩:=hfo.get (i:=ni) (by omega)
   obtain⟨xx,hx⟩:∃xx,xx=(fs.getD ni []).getD 0 0:=⟨_,rfl⟩
   rw[←hx]at r2 r3
   obtain⟨c,hc⟩:∃c,c=(fs.getD ni []).getD 1 0:=⟨_,rfl⟩
   rw[←hc]at r4 r5
   obtain⟨pp,hpp⟩:∃pp,pp=zcE (fs.take ni):=⟨_,rfl⟩
   rw[←hpp]at hI
   have hnx:zcE (fs.take (ni+1))=pp++List.replicate c.toNat xx:=by rw[zyO (by omega),zy2,←hpp,←hx,←hc]
   simp only[←hc]
   refine⟨i0,h2,by omega,by omega,by omega,by omega,by omega,by omega,?_⟩
   refine hlp (List V×Int) _ _ _ [1,2,4,5,6,7] (fun x=>[(1,none,.val (.box 78 (.agg [.slc false 2 (.int .i64 0) a0,.slc false 2 (.int .i64 0) a1,.slc false 2 (.int .i64 0) a2]))),(2,none,.val (.box 27 (.agg [.slc true 68 (.agg [.slc true 2 (.int .i64 0) []]) [],.slc true 30 (.slc true 2 (.int .i64 0) []) []]))),(4,none,.val (.slc true 30 (.slc true 2 (.int .i64 0) []) vf)),(5,none,.val (.slc true 2 (.int .i64 0) x.1)),(6,none,.val (.int .i64 i)),(7,none,.val (.int .i64 x.2))])
    (fun x=>0≤x.2∧x.2≤c∧x.1=I ((pp++List.replicate (c-x.2).toNat xx).take 7)) (fun x=>x.2.toNat) ((vp,c)) (by subst hL;rfl) ?_ ?_
   ·exact⟨by simp only;omega,by simp,by simp only;rw[hI];simp⟩
   rintro⟨vp2,e⟩ ⟨e0,e1,hI2⟩ hfx2 ag2 hag2
   simp only at e0 e1 hI2
   have hvl2:vp2.length=((pp++List.replicate (c-e).toNat xx).take 7).length:=by rw[hI2,zj]
   have hv7:vp2.length≤7:=by rw[hvl2,zL];omega
   conv=>cbv
   simp only[zp hL,sQ,hvl,gvf,←hn,zR,zj,←hni,←hx]
   refine⟨fun h5=>⟨i0,h2,by omega,by omega,by omega,by omega,by omega,by omega,rfl,by simp only[zi,zr];omega,fun z hz=>by(simp only[yp]at hz;subst hz;rfl),?_⟩,fun h5=>?_⟩
   ·rw[zo (n:=e-1) (by omega) (by omega)]
    refine hag2 (_,e-1) ⟨by simp only;omega,by simp only;omega,?_⟩ (by simp only;omega)
    simp only
    rw[show(c-(e-1)).toNat=(c-e).toNat+1 by omega,←zxp (by rw[←hvl2];omega),←qr,←hI2]
    rfl
   ·rw[zo (n:=i+1) (by omega) (by omega)]
    refine hag (vp2,i+1) ⟨by simp only;omega,by simp only;omega,?_⟩ (by simp only;omega)
    simp only
    rw[show(i+1).toNat=ni+1 by omega,hnx,hI2,zyS (t:=(c-e).toNat) (c:=c.toNat) (by omega) (by
     rcases h5 with h5|h5
     ·exact .inl (by omega)
     ·exact .inr (by rw[←hvl2];omega))]
  have htk:fs.take ni=fs:=zB (by omega)
  obtain⟨ps,hps⟩:∃ps,ps=zcE fs:=⟨_,rfl⟩
  rw[htk,←hps]at hI hvpl
  rw[←hps]at hf0
  rw[zL]at hvpl
  refine⟨fun h3=>?_,fun h3=>?_⟩
  ·have h4:ps.length=0∨6<ps.length:=by omega
   rw[hr,QB,hf0,zqg,if_pos h4]
  have hp6:1≤ps.length∧ps.length≤6:=by omega
  have hf4:zqg P S ps=bif ps.all (okX P S)then(BB true (ps.map (zkS P S)),II true (T2 ps.length (com P ps)),0)else([],[],5):=by rw[zqg,if_neg (by omega)]
  rw[zB (by omega)]at hI
  have hvl3:vp.length=ps.length:=by rw[hI,zj]
  have gvp:∀k,vp.getD k (.int .i64 0)=.int .i64 (ps.getD k 0):=fun k=>by rw[hI,zR]
  have hbatx:∀x:Int,0≤x→x<P.length→zxl a0 a1 a2 x=zcQ (zap P S x):=fun x h1 h2=>by rw[←zrb,zo5,hP,hS,zq,zq]
  have Qp:∀x:Int,0≤x→x<P.length→zis a0 a1 a2 x:=by
   rw[←zgE]
   exact fun x h1 h2=>⟨hqv,h1,by rw[hpl];exact h2⟩
  have Ep:∀x:Int,zjD a0 a1 a2 x=I (yW P x):=fun x=>by rw[←zb1,zeu,hP,zq]
  have hpin:∀k,k<ps.length→0≤ps.getD k 0∧ps.getD k 0<P.length:=fun k hk=>zwg hfo (ps.getD k 0) (by rw[←hps];exact znf hk)
  obtain⟨m,hm⟩:∃m:Int,m=ps.length:=⟨_,rfl⟩
  clear hag hfx ag
  refine hlp ((List V×List V)×Int) _ _ _ [1,2,5,8,9,10] (fun x=>[(1,none,.val (.box 78 (.agg [.slc false 2 (.int .i64 0) a0,.slc false 2 (.int .i64 0) a1,.slc false 2 (.int .i64 0) a2]))),(2,none,.val (.box 27 (.agg [.slc true 68 (.agg [.slc true 2 (.int .i64 0) []]) [],.slc true 30 (.slc true 2 (.int .i64 0) []) []]))),(5,none,.val (.slc true 2 (.int .i64 0) vp)),(8,none,.val (.box 27 (.agg [.slc true 68 (.agg [.slc false 2 (.int .i64 0) []]) x.1.1,.slc true 30 (.slc true 2 (.int .i64 0) []) []]))),(9,none,.val (.slc true 30 (.slc true 2 (.int .i64 0) []) x.1.2)),(10,none,.val (.int .i64 x.2))])
   (fun x=>0≤x.2∧x.2≤m∧x.1.1=BB false ((ps.take x.2.toNat).map (zkS P S))∧x.1.2=II true ((ps.take x.2.toNat).map (yW P))∧∀y∈ps.take x.2.toNat,okX P S y=true) (fun x=>(m-x.2).toNat) ((([],[]),0)) (by subst hL;rfl) ?_ ?_
  ·exact⟨by simp,by simp only;omega,rfl,rfl,fun y hy=>by cases hy⟩
  rintro⟨⟨bs,qs⟩,j⟩ ⟨j0,j1,hB,hQ2,hok⟩ hfx ag hag
  simp only at j0 j1 hB hQ2 hok
  obtain⟨nj,hnj⟩:∃nj:Nat,nj=j.toNat:=⟨_,rfl⟩
  rw[←hnj]at hB hQ2 hok
  have hbl:bs.length≤6:=by rw[hB,yK,yh,zL];omega
  have hql:qs.length≤6:=by rw[hQ2,yk,yh,zL];omega
  conv=>cbv
  simp only[zp hL,sQ,g0,g1,g2,hvl3,gvp,←hm,←hnj,Ep]
  refine⟨fun h4=>?_,fun h4=>?_⟩
  ·have hnl:nj<ps.length:=by omega
   obtain⟨x,hx⟩:∃x,x=ps.getD nj 0:=⟨_,rfl⟩
   obtain⟨x0,x1⟩:=hpin nj hnl
   rw[←hx]at x0 x1
   simp only[←hx,hbatx x x0 x1]
   have hxm:x∈ps:=by rw[hx];exact znf hnl
   have htk2:ps.take (nj+1)=ps.take nj++[x]:=by rw[zF hnl,zwx hnl,hx]
   refine⟨j0,h4,hnl,Qp x x0 x1,?_⟩
   cases hox:okX P S x with
   |false=>
    rw[zCY hox]
    refine⟨fun _=>?_,fun h=>by cases h⟩
    have hall:ps.all (okX P S)=false:=by rw[List.all_eq_false];exact⟨x,hxm,by rw[hox];simp⟩
    rw[hr,QB,hf0,hf4,hall]
    rfl
   |true=>
    rw[zBl hox,zo (n:=j+1) (by omega) (by omega)]
    refine⟨fun h=>absurd rfl h,fun _=>⟨by simp only[zi,zr];omega,fun z hz=>by(simp only[yp]at hz;subst hz;rfl),j0,h4,hnl,Qp x x0 x1,by simp only[zi,zr];omega,fun z hz=>by(simp only[yp]at hz;subst hz;rfl),?_⟩⟩
    refine hag ((_,_),j+1) ⟨by simp only;omega,by simp only;omega,?_,?_,fun y hy=>?_⟩ (by simp only;omega)
    ·simp only
     rw[show(j+1).toNat=nj+1 by omega,htk2,kt,hB]
     simp[BB]
    ·simp only
     rw[show(j+1).toNat=nj+1 by omega,htk2,kt,hQ2]
     simp[II]
    ·simp only at hy
     rw[show(j+1).toNat=nj+1 by omega,htk2]at hy
     rcases yU.1 hy with hy|hy
     ·exact hok y hy
     ·rw[yp]at hy;rw[hy];exact hox
  have htj:ps.take nj=ps:=zB (by omega)
  rw[htj]at hB hQ2 hok
  have hall:ps.all (okX P S)=true:=by rw[yI];exact hok
  have hf5:zcP a0 a1 a2=(BB true (ps.map (zkS P S)),II true (T2 ps.length (com P ps)),0):=by rw[hf0,hf4,hall];rfl
  have hqsl:qs.length=ps.length:=by rw[hQ2,yk,yh]
  have gqs:∀k,k<ps.length→qs.getD k (.slc true 2 (.int .i64 0) [])=.slc true 2 (.int .i64 0) (I (yW P (ps.getD k 0))):=fun k hk=>by
   rw[hQ2,qB]
   congr 2
   rw[zd,zH,ze hk,zd,ze hk]
   rfl
  have Eh:∀(xs:List Int) (y:Int),zcn (I xs) y=decide (y∈xs):=fun xs y=>by rw[←JU,zha,zq];rw[Bool.eq_iff_iff];simp
  have hplen:∀k,k<ps.length→(yW P (ps.getD k 0)).length≤24:=fun k hk=>zdk hcl (by have:=hpin k hk;omega) (hpin k hk).2
  have Qh:∀(k:Nat) (y:Int),k<ps.length→Qx (I (yW P (ps.getD k 0))) y:=by
   rw[←ux]
   exact fun k y hk=>⟨⟨_,rfl⟩,by rw[zj];have:=hplen k hk;omega⟩
  clear hag hfx ag
  refine hlp (List V×Int) _ _ _ [2,5,8,9,13] (fun x=>[(2,none,.val (.box 27 (.agg [.slc true 68 (.agg [.slc true 2 (.int .i64 0) []]) [],.slc true 30 (.slc true 2 (.int .i64 0) []) []]))),(5,none,.val (.slc true 2 (.int .i64 0) vp)),(8,none,.val (.box 27 (.agg [.slc true 68 (.agg [.slc false 2 (.int .i64 0) []]) bs,.slc true 30 (.slc true 2 (.int .i64 0) []) x.1]))),(9,none,.val (.slc true 30 (.slc true 2 (.int .i64 0) []) qs)),(13,none,.val (.int .i64 x.2))])
   (fun x=>0≤x.2∧x.2≤m∧x.1=II true (qD (fun a=>qD (com P ps a) ps.length) x.2.toNat)) (fun x=>(m-x.2).toNat) (([],0)) (by subst hL;rfl) ?_ ?_
  ·exact⟨by simp,by simp only;omega,rfl⟩
  rintro⟨ms,i⟩ ⟨i0,i1,hM⟩ hfx ag hag
  simp only at i0 i1 hM
  obtain⟨ni,hni⟩:∃ni:Nat,ni=i.toNat:=⟨_,rfl⟩
  rw[←hni]at hM
  have hml:ms.length=ni:=by rw[hM,yk,qh]
  conv=>cbv
  simp only[zp hL,sQ,hvl3,←hm,←hni]
  refine⟨fun h5=>?_,fun h5=>?_⟩
  ·have hnil:ni<ps.length:=by omega
   refine hlp (List V×Int) _ _ _ [2,5,8,9,13,14,15] (fun x=>[(2,none,.val (.box 27 (.agg [.slc true 68 (.agg [.slc true 2 (.int .i64 0) []]) [],.slc true 30 (.slc true 2 (.int .i64 0) []) []]))),(5,none,.val (.slc true 2 (.int .i64 0) vp)),(8,none,.val (.box 27 (.agg [.slc true 68 (.agg [.slc false 2 (.int .i64 0) []]) bs,.slc true 30 (.slc true 2 (.int .i64 0) []) ms]))),(9,none,.val (.slc true 30 (.slc true 2 (.int .i64 0) []) qs)),(13,none,.val (.int .i64 i)),(14,none,.val (.slc true 2 (.int .i64 0) x.1)),(15,none,.val (.int .i64 x.2))])
    (fun x=>0≤x.2∧x.2≤m∧x.1=I (qD (com P ps ni) x.2.toNat)) (fun x=>(m-x.2).toNat) (([],0)) (by subst hL;rfl) ?_ ?_
   ·exact⟨by simp,by simp only;omega,rfl⟩
   rintro⟨rs,k⟩ ⟨k0,k1,hR⟩ hfx2 ag2 hag2
   simp only at k0 k1 hR
   obtain⟨nk,hnk⟩:∃nk:Nat,nk=k.toNat:=⟨_,rfl⟩
   rw[←hnk]at hR
   have hrl:rs.length=nk:=by rw[hR,zj,qh]
   conv=>cbv
   simp only[zp hL,sQ,hvl3,←hm,←hnk]
   refine⟨fun h6=>?_,fun h6=>?_⟩
   ·have hkl:nk<ps.length:=by omega
    refine hlp (Int×Int) _ _ _ [2,5,8,9,13,14,15,16,17] (fun x=>[(2,none,.val (.box 27 (.agg [.slc true 68 (.agg [.slc true 2 (.int .i64 0) []]) [],.slc true 30 (.slc true 2 (.int .i64 0) []) []]))),(5,none,.val (.slc true 2 (.int .i64 0) vp)),(8,none,.val (.box 27 (.agg [.slc true 68 (.agg [.slc false 2 (.int .i64 0) []]) bs,.slc true 30 (.slc true 2 (.int .i64 0) []) ms]))),(9,none,.val (.slc true 30 (.slc true 2 (.int .i64 0) []) qs)),(13,none,.val (.int .i64 i)),(14,none,.val (.slc true 2 (.int .i64 0) rs)),(15,none,.val (.int .i64 k)),(16,none,.val (.int .i64 x.1)),(17,none,.val (.int .i64 x.2))])
     (fun x=>0≤x.2∧x.2≤24∧(i=k→x.2=0)∧x.1=(shN ((yW P (ps.getD nk 0)).take x.2.toNat) (yW P (ps.getD ni 0)):Nat)) (fun x=>(24-x.2).toNat) ((0,0)) (by subst hL;rfl) ?_ ?_
    ·exact⟨by simp,by simp,fun _=>rfl,by simp[shN]⟩
    rintro⟨s,j⟩ ⟨j0',j1',hjk,hS2⟩ hfx3 ag3 hag3
    simp only at j0' j1' hjk hS2
    conv=>cbv
    simp only[zp hL,sQ,hqsl,←hm,←hnk,←hni,gqs nk hkl,gqs ni hnil,zR,zj,Eh]
    have hpk:=hplen nk hkl
    refine⟨k0,h6,hkl,hkl,fun h7=>⟨i0,h5,hnil,k0,h6,hkl,hkl,j0',h7.1,hkl,by omega,hnil,Qh ni _ hnil,?_⟩,fun h7=>⟨rfl,by simp only[zi,zr];omega,fun z hz=>by(simp only[yp]at hz;subst hz;rfl),?_⟩⟩
    ·have hst:=zAn (b:=yW P (ps.getD ni 0)) (show j.toNat<(yW P (ps.getD nk 0)).length by omega)
     have hsl:=zDz ((yW P (ps.getD nk 0)).take j.toNat) (yW P (ps.getD ni 0))
     rw[zL]at hsl
     have hj1:(j+1).toNat=j.toNat+1:=by omega
     refine⟨fun h8=>?_,fun h8=>?_⟩
     ·rw[if_pos h8]at hst
      rw[zo (n:=s+1) (by omega) (by omega),zo (n:=j+1) (by omega) (by omega)]
      exact hag3 (s+1,j+1) ⟨by simp only;omega,by simp only;omega,fun h9=>absurd h9 h7.2,by simp only;rw[hj1,hst,hS2];simp⟩ (by simp only;omega)
     ·rw[if_neg h8]at hst
      rw[zo (n:=j+1) (by omega) (by omega)]
      exact hag3 (s,j+1) ⟨by simp only;omega,by simp only;omega,fun h9=>absurd h9 h7.2,by simp only;rw[hj1,hst,hS2];simp⟩ (by simp only;omega)
    ·have hsv:s=com P ps ni nk:=by
      by_cases hik:i=k
      ·have h8:=hjk hik
       rw[com,if_pos (by omega),hS2,h8]
       rfl
      ·have h8:(yW P (ps.getD nk 0)).length≤j.toNat:=by
        rcases h7 with h7|h7
        ·omega
        ·exact absurd h7 hik
       have h9:=hpin ni hnil
       have h10:=hpin nk hkl
       rw[com,if_neg (by omega),hS2,zB h8,zAo (ziT hcl (by omega) h10.2) (ziT hcl (by omega) h9.2)]
     rw[zo (n:=k+1) (by omega) (by omega)]
     refine hag2 (_,k+1) ⟨by simp only;omega,by simp only;omega,?_⟩ (by simp only;omega)
     simp only
     rw[show(k+1).toNat=nk+1 by omega,Jj,←qr,←hR,←hsv]
     rfl
   ·rw[zo (n:=i+1) (by omega) (by omega)]
    refine⟨by simp only[zi,zr];omega,jZ (by simp[V.solid]),?_⟩
    refine hag (_,i+1) ⟨by simp only;omega,by simp only;omega,?_⟩ (by simp only;omega)
    simp only
    rw[show(i+1).toNat=ni+1 by omega,Jj,ZH,←hM,zzV,hR,show nk=ps.length by omega]
  ·have hin:ni=ps.length:=by omega
   rw[hr,QB,hf5,hM,hB,hin]
   simp only[yL]
   rfl
 ·cases h
end Go.Ax
namespace Go.Ax
open Go.Proofs
def znY(A B:List V):Prop:=∃bs ms:List (List Int),A=BB false bs∧B=II true ms∧1≤bs.length∧bs.length≤6∧ms.length=bs.length∧(∀i,i<bs.length→(bs.getD i []).length≤3000)∧∀i,i<bs.length→(ms.getD i []).length=bs.length
theorem zua{a b c:List V}(h:(QB a b c).2.2=0):znY (QB a b c).1 (QB a b c).2.1:=by
 simp only[QB,zcP]at h ⊢
 cases hh:kD a b c with
 |false=>rw[hh]at h;cases h
 |true=>
  rw[hh]at h
  cases h2:zcO a b c with
  |false=>rw[h2]at h;cases h
  |true=>
   rw[h2]at h
   have hc:ClP (qb a) (qb b) (qb c):=zgb.1 hh
   have hal:a.length=(qb a).length:=by rw[qb,yh]
   have hfo:=zwE hc
   rw[hal]at h ⊢
   obtain⟨ps,hps⟩:∃ps,ps=zcE (zam (QK (qb a) (qb b) (qb c)) (qb a).length):=⟨_,rfl⟩
   simp only[cond_true,←hps,zqg]at h ⊢
   by_cases hn:ps.length=0∨6<ps.length
   ·rw[if_pos hn]at h;cases h
   ·rw[if_neg hn]at h
    rw[if_neg hn]
    cases ha:ps.all (okX (qb a) (qb b))with
    |false=>rw[ha]at h;cases h
    |true=>
     rw[yI]at ha
     refine⟨ps.map (zkS (qb a) (qb b)),T2 ps.length (com (qb a) ps),by simp only[cond_true];rw[yL],rfl,by rw[yh];omega,by rw[yh];omega,by rw[yh,T2,qh],fun i hi=>?_,fun i hi=>?_⟩
     ·rw[yh]at hi
      rw[zd,zH,ze hi]
      have hm:=ya hi
      have:=zwg hfo _ (by rw[←hps];exact hm)
      exact zBk hc this.1 this.2 (ha _ hm)
     ·rw[yh]at hi ⊢
      rw[T2,Zy _ _ _ _ hi,qh]
def dwL(es:List V)(n:Int):Nat→List Int×Int×Int→List Int×Int×Int
 |0,x=>x
 |k+1,x=>dwL es n k (x.1.set (jI es x.2 n).toNat (W (x.1.getD (jI es x.2 n).toNat 0+1)),qa es x.2 n)
abbrev CvR:Type:=List V×List V×Int×Int
noncomputable def dwU(es:List V)(P S:List Int)(σ:Int×Int):Option (List V×List V)×Int×Int:=
 let l:=dwL es P.length (1+jI es σ 4).toNat (List.replicate P.length 0,qa es σ 4)
 let d:=Zb (I P) (I S) (I (List.replicate P.length 0)) (I l.1)
 if d.2.2.2=0 then
  if 0<jI es l.2 5∧(QB d.1 d.2.1 d.2.2.1).2.2=0 then(some ((QB d.1 d.2.1 d.2.2.1).1,(QB d.1 d.2.1 d.2.2.1).2.1),qa es l.2 5)else(none,qa es l.2 5)
 else(none,l.2)
noncomputable def dwT(es:List V)(σ:Int×Int):Option (List V×List V)×Int×Int:=
 let p:=ptF es (Kx es σ [3,5,8]) (Yd es σ [3,5,8])
 dwU es p.1 p.2.1 p.2.2
theorem zCO{a b c:List V}(h:q_K a b c):q_K (KW a b c).1 (KW a b c).2.1 (KW a b c).2.2.1:=by
 rw[KW]
 cases kD a b c with
 |false=>exact⟨⟨[],rfl⟩,⟨[],rfl⟩,⟨[],rfl⟩⟩
 |true=>exact h
theorem zCP{a b c d:List V}(h:q_K a b c):q_K (Zb a b c d).1 (Zb a b c d).2.1 (Zb a b c d).2.2.1:=by
 rw[Zb]
 cases kD a b c with
 |false=>exact⟨⟨[],rfl⟩,⟨[],rfl⟩,⟨[],rfl⟩⟩
 |true=>
  cases decide (d.length=a.length)&&zjo (qb d)with
  |false=>exact⟨⟨[],rfl⟩,⟨[],rfl⟩,⟨[],rfl⟩⟩
  |true=>exact zCO ⟨h.1,h.2.1,⟨_,rfl⟩⟩
def dwB(l:List Int):List Int:=if YT l=true then l else[2,3]
def dwE(es:List V)(σ:Int×Int):CvR:=
 let s:=smF es σ.1 σ.2 8 40
 let b:=dwB s.1
 let τ:=qa es s.2 2
 if jI es s.2 2=0 then(BB false [b],II true [[0]],τ)
 else(BB false [b,b],II true [[0,W ((JW b).length+jI es τ 3)],[W ((JW b).length+jI es τ 3),0]],qa es τ 3)
noncomputable def dwN(es:List V):Nat→Int×Int→CvR
 |0,σ=>dwE es σ
 |k+1,σ=>match (dwT es σ).1 with
  |some r=>(r.1,r.2,(dwT es σ).2)
  |none=>dwN es k (dwT es σ).2
noncomputable def YH(es:List V)(a h:Int):CvR:=dwN es 4 (a,h)
theorem zzC{es:List V}{n:Int}(h1:1≤n):∀(k:Nat) {x:List Int×Int×Int},yi es x.2.1 x.2.2→yi es (dwL es n k x).2.1 (dwL es n k x).2.2∧(dwL es n k x).1.length=x.1.length
 |0,_,h=>⟨h,rfl⟩
 |k+1,x,h=>by
  have:=zzC h1 k (x:=(x.1.set (jI es x.2 n).toNat (W (x.1.getD (jI es x.2 n).toNat 0+1)),qa es x.2 n)) (jv (σ:=x.2) h)
  simpa [dwL]using this
theorem zCT{es:List V}{P S:List Int}{σ:Int×Int}(h:yi es σ.1 σ.2)(hn:1≤P.length):yi es (dwU es P S σ).2.1 (dwU es P S σ).2.2:=by
 have h1:=jv (σ:=σ) (n:=4) h
 have h2:=(zzC (n:=P.length) (by omega) (1+jI es σ 4).toNat (x:=(List.replicate P.length 0,qa es σ 4)) h1).1
 have h3:=jv (n:=5) h2
 unfold dwU
 simp only
 split
 ·split<;>exact h3
 ·exact h2
theorem zDW{es:List V}{P S:List Int}{σ:Int×Int}{r:List V×List V}(h:(dwU es P S σ).1=some r):znY r.1 r.2:=by
 unfold dwU at h
 simp only at h
 split at h
 ·split at h
  ·rename_i h2
   simp only[za]at h
   subst h
   exact zua h2.2
  ·cases h
 ·cases h
theorem zxX{es:List V}{σ:Int×Int}(h:yi es σ.1 σ.2):1≤Yd es σ [3,5,8]∧Yd es σ [3,5,8]≤24:=by
 have:=zfZ (σ:=σ) (l:=[3,5,8]) h (by simp)
 simp at this
 omega
theorem zCU{es:List V}{σ:Int×Int}(h:yi es σ.1 σ.2):yi es (dwT es σ).2.1 (dwT es σ).2.2:=by
 have h1:=zy4 (zaM (σ:=σ) (l:=[3,5,8]) h) (zxX h).1 (zxX h).2
 exact zCT h1.src h1.n1
theorem zue(l:List Int):Br (dwB l):=by
 unfold dwB
 split
 ·rename_i h;exact YI h
 ·exact YI (by decide+kernel)
theorem zDX{es:List V}{σ:Int×Int}(h:yi es σ.1 σ.2):znY (dwE es σ).1 (dwE es σ).2.1∧yi es (dwE es σ).2.2.1 (dwE es σ).2.2.2:=by
 have h1:=(zlo (most:=8) (term:=40) ⟨h,by omega,by omega⟩).1
 have h2:=jv (n:=2) h1
 have h3:=jv (n:=3) h2
 have hb:=(zue (smF es σ.1 σ.2 8 40).1).len
 unfold dwE
 simp only
 split
 ·refine⟨⟨_,_,rfl,rfl,by simp,by simp,rfl,fun i hi=>?_,fun i hi=>?_⟩,h2⟩
  ·simp only[zi,zr]at hi
   obtain rfl:i=0:=by omega
   show(dwB _).length≤3000
   omega
  ·simp only[zi,zr]at hi
   obtain rfl:i=0:=by omega
   rfl
 ·refine⟨⟨_,_,rfl,rfl,by simp,by simp,rfl,fun i hi=>?_,fun i hi=>?_⟩,h3⟩
  ·simp only[zi,zr]at hi
   rcases (show i=0∨i=1 by omega)with rfl|rfl
   ·show(dwB _).length≤3000
    omega
   ·show(dwB _).length≤3000
    omega
  ·simp only[zi,zr]at hi
   rcases (show i=0∨i=1 by omega)with rfl|rfl<;>rfl
theorem zzB{es:List V}:∀(k:Nat) {σ:Int×Int},yi es σ.1 σ.2→znY (dwN es k σ).1 (dwN es k σ).2.1∧yi es (dwN es k σ).2.2.1 (dwN es k σ).2.2.2
 |0,σ,h=>zDX h
 |k+1,σ,h=>by
  have h1:=zCU h
  rw[dwN]
  split
  ·rename_i r hr
   exact⟨zDW hr,h1⟩
  ·exact zzB k h1
theorem zgg{es:List V}{a h:Int}(hq:yi es a h):znY (YH es a h).1 (YH es a h).2.1∧yi es (YH es a h).2.2.1 (YH es a h).2.2.2:=zzB 4 (σ:=(a,h)) hq
def zoQ(f:List V→Int→Int→List V×List V×Int×Int)(q:List V→Int→Int→Prop):jz:=fun
 |[.box 71 (.agg [.slc false 5 (.int .u8 0) a0,.int .i64 a1,.int .u64 a2])]=>some ([q a0 a1 a2],.agg [.slc true 68 (.agg [.slc false 2 (.int .i64 0) []]) (f a0 a1 a2).1,.slc true 30 (.slc true 2 (.int .i64 0) []) (f a0 a1 a2).2.1],.box 71 (.agg [.slc false 5 (.int .u8 0) a0,.int .i64 (f a0 a1 a2).2.2.1,.int .u64 (f a0 a1 a2).2.2.2]))
 |_=>none
theorem zhR:zcY Tryz.prog 26 1000 (zoQ YH yi):=by
 intro args ps r y h hp
 unfold zoQ at h
 split at h
 ·rename_i a0 a1 a2
  simp only[za,zb]at h
  obtain⟨rfl,rfl,rfl⟩:=h
  have hq:yi a0 a1 a2:=(zl.1 hp).1
  obtain⟨E,hE⟩:∃E,E=YH a0 a1 a2:=⟨_,rfl⟩
  have hE0:dwN a0 4 (a1,a2)=E:=hE.symm
  generalize yP:jm=qZ
  generalize yO:jl=qY
  generalize yN:jx=qX
  generalize qz:zdi=kI
  generalize jE:QC=ZC
  generalize jD:Ja=ZB
  generalize jC:QZ=ZA
  generalize kf:zfU=YF
  generalize zqO:zsp=zw8
  generalize zqz:zxK=zw0
  generalize zq2:Zb=zxg
  generalize zqE:zxT=zDb
  generalize zq4:QB=zxh
  generalize Yu:q_K=zd7
  generalize zgF:zkD=zvl
  generalize zgB:zm1=zvc
  generalize kb:uW=Za
  generalize yv:jU=qA
  generalize zq5:zlJ=zDl
  generalize jP:ZR=Yo
  generalize qu:same=jB
  refine zCM (T:=tab) (B:=[(55,zqo zxg zDb),(56,zuF zxh zd7),(52,Ko Za qA),(58,zlT zDl Yo),(59,zhf jB qA)]) (Bi:=[(25,0,false,zaX qZ qY qX kI),(50,0,false,zfg ZC ZB ZA YF),(54,1000,false,ztP zw8 zw0),(57,1000,false,zsm zvl zvc)]) 0 [1000011004,1000011005,1000022012,2000004820,2000022089,2000022090,2000022092,2000022094,2000022095,0,2,3,4,5,6,7,8,9,10,11,12,13] Tryz.func26 rfl rfl (by kernel_rfl) (zg rfl) zP zQ (by subst yP yO yN qz jE jD jC kf zqO zqz zq2 zqE zq4 Yu zgF zgB kb yv zq5 jP qu;exact(zm zfQ (zm zhv (zm zcA (zm zof (zm zjH zy)))))) (by subst yP yO yN qz jE jD jC kf zqO zqz zq2 zqE zq4 Yu zgF zgB kb yv zq5 jP qu;exact(qg ki (qg ZM (qg zmT (qg zgT zu))))) (by kernel_rfl) rfl rfl zbj rfl ?_
  intro L lp rr yy hL hr hy hf hlp
  have Qn:∀a h n,yi a0 a h→kI a0 a h n:=fun a h n hs=>by rw[←qz];exact hs
  conv=>cbv
  refine hlp (Int×Int×Int) _ _ _ [0,2,3] (fun x=>[(0,none,.val (.box 71 (.agg [.slc false 5 (.int .u8 0) a0,.int .i64 x.1,.int .u64 x.2.1]))),(2,none,.val (.box 27 (.agg [.slc true 68 (.agg [.slc true 2 (.int .i64 0) []]) [],.slc true 30 (.slc true 2 (.int .i64 0) []) []]))),(3,none,.val (.int .i64 x.2.2))])
   (fun x=>0≤x.2.2∧x.2.2≤4∧yi a0 x.1 x.2.1∧dwN a0 (4-x.2.2).toNat (x.1,x.2.1)=E) (fun x=>(4-x.2.2).toNat) ((a1,a2,0)) (by subst hL;rfl) ?_ ?_
  ·exact⟨by simp,by simp,hq,hE0⟩
  rintro⟨a,h,k⟩ ⟨k0,k1,hs,hN⟩ hfx ag hag
  simp only at k0 k1 hs hN
  obtain⟨m,hm⟩:∃m,m=QC a0 a h (I [3,5,8]):=⟨_,rfl⟩
  obtain⟨A1,hA1⟩:∃A1,A1=Ja a0 a h (I [3,5,8]):=⟨_,rfl⟩
  obtain⟨H1,hH1⟩:∃H1,H1=QZ a0 a h (I [3,5,8]):=⟨_,rfl⟩
  have hm24:1≤m∧m≤24:=by rw[hm];exact zxX (σ:=(a,h)) hs
  have s1:yi a0 A1 H1:=by rw[hA1,hH1];exact uf hs
  obtain⟨⟨P,S,A2,H2⟩,hpt⟩:∃z:PtS,z=ptF a0 (A1,H1) m:=⟨_,rfl⟩
  have hok:=zy4 (σ:=(A1,H1)) s1 hm24.1 hm24.2
  rw[←hpt]at hok
  have n1:=hok.n1
  have n24:=hok.n
  have nsl:=hok.sl
  have s2:yi a0 A2 H2:=hok.src
  simp only at n1 n24 nsl
  have hT:dwT a0 (a,h)=dwU a0 P S (A2,H2):=by
   have:ptF a0 (Kx a0 (a,h) [3,5,8]) (Yd a0 (a,h) [3,5,8])=(P,S,A2,H2):=by rw[hpt,hA1,hH1,hm]
   rw[dwT,this]
  obtain⟨n,hn⟩:∃n:Int,n=P.length:=⟨_,rfl⟩
  obtain⟨c,hc⟩:∃c,c=1+jm a0 A2 H2 4:=⟨_,rfl⟩
  have c1:=YA (n:=4) s2 (by omega)
  obtain⟨A3,hA3⟩:∃A3,A3=jl a0 A2 H2 4:=⟨_,rfl⟩
  obtain⟨H3,hH3⟩:∃H3,H3=jx a0 A2 H2 4:=⟨_,rfl⟩
  have s3:yi a0 A3 H3:=by rw[hA3,hH3];exact uf s2
  obtain⟨EL,hEL⟩:∃EL,EL=dwL a0 n c.toNat (List.replicate P.length 0,A3,H3):=⟨_,rfl⟩
  have hU:dwU a0 P S (A2,H2)=if(Zb (I P) (I S) (I (List.replicate P.length 0)) (I EL.1)).2.2.2=0 then
   (if 0<jI a0 EL.2 5∧(QB (Zb (I P) (I S) (I (List.replicate P.length 0)) (I EL.1)).1 (Zb (I P) (I S) (I (List.replicate P.length 0)) (I EL.1)).2.1 (Zb (I P) (I S) (I (List.replicate P.length 0)) (I EL.1)).2.2.1).2.2=0 then
    (some ((QB (Zb (I P) (I S) (I (List.replicate P.length 0)) (I EL.1)).1 (Zb (I P) (I S) (I (List.replicate P.length 0)) (I EL.1)).2.1 (Zb (I P) (I S) (I (List.replicate P.length 0)) (I EL.1)).2.2.1).1,(QB (Zb (I P) (I S) (I (List.replicate P.length 0)) (I EL.1)).1 (Zb (I P) (I S) (I (List.replicate P.length 0)) (I EL.1)).2.1 (Zb (I P) (I S) (I (List.replicate P.length 0)) (I EL.1)).2.2.1).2.1),qa a0 EL.2 5)else(none,qa a0 EL.2 5))else(none,EL.2):=by
   rw[hEL,hA3,hH3,hc,hn];rfl
  obtain⟨vp,hvp⟩:∃vp,vp=I P:=⟨_,rfl⟩
  obtain⟨vs,hvs⟩:∃vs,vs=I S:=⟨_,rfl⟩
  obtain⟨vw,hvw⟩:∃vw,vw=I (List.replicate P.length 0):=⟨_,rfl⟩
  rw[←hvp,←hvs,←hvw]at hU
  have hvpl:vp.length=P.length:=by rw[hvp,zj]
  have fvp:V.frzs vp=vp:=by rw[hvp,zG]
  have fvs:V.frzs vs=vs:=by rw[hvs,zG]
  have fvw:V.frzs vw=vw:=by rw[hvw,zG]
  have g3:∀l,l=I [3,5,8]→ZC a0 a h l=m∧ZB a0 a h l=A1∧ZA a0 a h l=H1∧YF a0 a h l:=by
   intro l hl
   rw[hl,←jE,←jD,←jC,←kf,hm,hA1,hH1]
   exact⟨rfl,rfl,rfl,hs,⟨_,rfl⟩,by simp,by simp⟩
  obtain⟨g4,g5,g6,g7⟩:=g3 (V.frzs (V.frzs [V.int IntKind.i64 3,V.int IntKind.i64 5,V.int IntKind.i64 8])) rfl
  have g8:zw8 a0 A1 H1 m=(vp,vs,vw,A2,H2):=by rw[←zqO,zsp,←hpt,hvp,hvs,hvw]
  have g9:zw0 a0 A1 H1 m:=by rw[←zqz];exact⟨s1,hm24.1,hm24.2⟩
  have g10:qZ a0 A2 H2 4=c-1:=by rw[←yP];omega
  have g11:qY a0 A2 H2 4=A3:=by rw[←yO,hA3]
  have g12:qX a0 A2 H2 4=H3:=by rw[←yN,hH3]
  conv=>cbv
  simp only[zp hL,sQ,g4,g5,g6,g7,g8,g9,g10,g11,g12,hvpl,←hn,show 1+(c-1)=c by omega,zo (n:=c) (by omega) (by omega)]
  refine⟨fun hk=>?_,fun hk=>?_⟩
  ·refine⟨by omega,Zi _,by omega,Qn _ _ _ s2,?_⟩
   obtain⟨vz,hvz⟩:∃vz,vz=List.replicate n.toNat (V.int .i64 0):=⟨_,rfl⟩
   have hvz2:vz=I (List.replicate P.length 0):=by rw[hvz,zd6,hn,zC]
   rw[←hvz]
   refine hlp (List V×Int×Int×Int) _ _ _ [0,2,3,4,5,6] (fun x=>[(0,none,.val (.box 71 (.agg [.slc false 5 (.int .u8 0) a0,.int .i64 x.2.1,.int .u64 x.2.2.1]))),(2,none,.val (.box 27 (.agg [.slc true 68 (.agg [.slc true 2 (.int .i64 0) []]) [],.slc true 30 (.slc true 2 (.int .i64 0) []) []]))),(3,none,.val (.int .i64 k)),(4,none,.val (.box 78 (.agg [.slc true 2 (.int .i64 0) vp,.slc true 2 (.int .i64 0) vs,.slc true 2 (.int .i64 0) vw]))),(5,none,.val (.slc true 2 (.int .i64 0) x.1)),(6,none,.val (.int .i64 x.2.2.2))])
    (fun x=>0≤x.2.2.2∧x.2.2.2≤4∧∃l:List Int,x.1=I l∧l.length=P.length∧yi a0 x.2.1 x.2.2.1∧dwL a0 n x.2.2.2.toNat (l,x.2.1,x.2.2.1)=EL) (fun x=>x.2.2.2.toNat) ((vz,A3,H3,c)) (by subst hL;rfl) ?_ ?_
   ·exact⟨by simp only;omega,by simp only;omega,_,hvz2,List.length_replicate,s3,hEL.symm⟩
   rintro⟨vl,b,g,i⟩ ⟨i0,i4,l,hl,hll,hsl,hdl⟩ hfx2 ag2 hag2
   simp only at i0 i4 hl hll hsl hdl
   have hvll:vl.length=P.length:=by rw[hl,zj,hll]
   have fvl:V.frzs vl=vl:=by rw[hl,zG]
   obtain⟨t,ht⟩:∃t,t=jm a0 b g n:=⟨_,rfl⟩
   obtain⟨B1,hB1⟩:∃B1,B1=jl a0 b g n:=⟨_,rfl⟩
   obtain⟨G1,hG1⟩:∃G1,G1=jx a0 b g n:=⟨_,rfl⟩
   have t1:=YA (n:=n) hsl (by omega)
   have sB:yi a0 B1 G1:=by rw[hB1,hG1];exact uf hsl
   have gl:∀j,vl.getD j (.int .i64 0)=.int .i64 (l.getD j 0):=fun j=>by rw[hl,zR]
   have gset:∀j x,vl.set j (.int .i64 x)=I (l.set j x):=fun j x=>by rw[hl,KY]
   have e0:qZ a0 b g n=t:=by rw[←yP,ht]
   have e1:qY a0 b g n=B1:=by rw[←yO,hB1]
   have e2:qX a0 b g n=G1:=by rw[←yN,hG1]
   obtain⟨⟨D1,D2,D3,code⟩,hD⟩:∃d,d=Zb vp vs vw vl:=⟨_,rfl⟩
   obtain⟨⟨cb,cm,bad⟩,hC⟩:∃d,d=QB D1 D2 D3:=⟨_,rfl⟩
   obtain⟨v,hv⟩:∃v,v=jm a0 b g 5:=⟨_,rfl⟩
   obtain⟨B5,hB5⟩:∃B5,B5=jl a0 b g 5:=⟨_,rfl⟩
   obtain⟨G5,hG5⟩:∃G5,G5=jx a0 b g 5:=⟨_,rfl⟩
   have e3:zxg vp vs vw vl=(D1,D2,D3,code):=by rw[←zq2,hD]
   have e4:zxh D1 D2 D3=(cb,cm,bad):=by rw[←zq4,hC]
   have e5:qZ a0 b g 5=v:=by rw[←yP,hv]
   have e6:qY a0 b g 5=B5:=by rw[←yO,hB5]
   have e7:qX a0 b g 5=G5:=by rw[←yN,hG5]
   have hDK:=zCP (a:=vp) (b:=vs) (c:=vw) (d:=vl) ⟨⟨_,hvp⟩,⟨_,hvs⟩,⟨_,hvw⟩⟩
   rw[←hD]at hDK
   simp only at hDK
   obtain⟨x1,fD1⟩:∃x,D1=I x:=hDK.1
   obtain⟨x2,fD2⟩:∃x,D2=I x:=hDK.2.1
   obtain⟨x3,fD3⟩:∃x,D3=I x:=hDK.2.2
   have fD1:V.frzs D1=D1:=by rw[fD1,zG]
   have fD2:V.frzs D2=D2:=by rw[fD2,zG]
   have fD3:V.frzs D3=D3:=by rw[fD3,zG]
   clear g3 g4 g5 g6 g7 g8 g9 g10 g11 g12 hm hA1 hH1 hA3 hH3 hpt
   conv=>cbv
   simp only[zp hL,sQ,e0,e1,e2,e3,e4,e5,e6,e7,hvll,hvpl,←hn,gl,gset,fvp,fvs,fvw,fvl,fD1,fD2,fD3]
   have wk:IntKind.wrap .i64 (k+1)=k+1:=zo (by omega) (by omega)
   rw[zo (n:=i-1) (by omega) (by omega),wk]
   refine⟨fun h2=>?_,fun h2=>?_⟩
   ·refine⟨Qn _ _ _ hsl,by omega,by omega,by omega,by omega,by omega,by omega,?_⟩
    refine hag2 (_,B1,G1,i-1) ⟨by simp only;omega,by simp only;omega,_,rfl,by rw[yj,hll],sB,?_⟩ (by simp only;omega)
    simp only
    rw[show i.toNat=(i-1).toNat+1 by omega,dwL]at hdl
    rw[ht,hB1,hG1]
    exact hdl
   have hEL2:EL=(l,b,g):=by rw[←hdl,show i.toNat=0 by omega];rfl
   have hU2:dwU a0 P S (A2,H2)=if code=0 then(if 0<v∧bad=0 then(some (cb,cm),B5,G5)else(none,B5,G5))else(none,b,g):=by
    subst hG5 hB5 hv
    rw[hU,hEL2]
    simp only[←hl,←hD,←hC]
   have hN2:(match (dwT a0 (a,h)).1 with
    |some r=>(r.1,r.2,(dwT a0 (a,h)).2)
    |none=>dwN a0 (4-(k+1)).toNat (dwT a0 (a,h)).2)=E:=by
    rw[show(4-k).toNat=(4-(k+1)).toNat+1 by omega]at hN
    exact hN
   rw[hT,hU2]at hN2
   have s5:yi a0 B5 G5:=by rw[hB5,hG5];exact uf hsl
   refine⟨by rw[←zqE];exact⟨⟨⟨_,hvp⟩,⟨_,hvs⟩,⟨_,hvw⟩⟩,⟨_,hl⟩⟩,fun hc0=>⟨hc0,Qn _ _ _ hsl,fun h3=>⟨by rw[←Yu];exact hDK,fun hb0=>?_,fun hb0=>?_⟩,fun h3=>?_⟩,fun hc0=>⟨fun h3=>absurd h3.1 hc0,fun _=>?_⟩⟩
   ·rw[if_pos hc0,if_pos ⟨h3.2,hb0⟩]at hN2
    obtain⟨bs',ms',q1,_⟩:=zua (a:=D1) (b:=D2) (c:=D3) (by rw[←hC];exact hb0)
    rw[←hC]at q1
    simp only at q1
    rw[hr,hy,←hE,←hN2,show V.frzs cb=cb by rw[q1,yL]]
    exact⟨rfl,rfl⟩
   ·rw[if_pos hc0,if_neg (fun h4=>hb0 h4.2)]at hN2
    exact hag (B5,G5,k+1) ⟨by simp only;omega,by simp only;omega,s5,hN2⟩ (by simp only;omega)
   ·rw[if_pos hc0,if_neg (fun h4=>by omega)]at hN2
    exact hag (B5,G5,k+1) ⟨by simp only;omega,by simp only;omega,s5,hN2⟩ (by simp only;omega)
   ·rw[if_neg hc0]at hN2
    exact hag (b,g,k+1) ⟨by simp only;omega,by simp only;omega,hsl,hN2⟩ (by simp only;omega)
  ·have hk4:(4-k).toNat=0:=by omega
   rw[hk4]at hN
   obtain⟨⟨sl,A6,H6⟩,hsm⟩:∃z,z=smF a0 a h 8 40:=⟨_,rfl⟩
   have hqs:zm1 a0 a h 8 40:=⟨hs,by omega,by omega⟩
   have hs6:=zlo hqs
   rw[←hsm]at hs6
   obtain⟨s6,l6,l7⟩:=hs6
   simp only at s6 l6 l7
   have Esm:zkD a0 a h 8 40=(I sl,A6,H6):=by rw[zkD,←hsm]
   have Eb:uW (I sl)=YT sl:=by rw[uW,zq]
   have hN3:(dwE a0 (a,h))=E:=hN
   rw[dwE]at hN3
   simp only[←hsm]at hN3
   subst yP yO yN qz zgF zgB kb yv zq5 jP qu
   have e23:V.frzs [V.int .i64 2,V.int .i64 3]=I [2,3]:=rfl
   have Ec:∀l:List Int,zlJ (I l)=((JW l).length:Int):=fun l=>by rw[zlJ,zq]
   have fin:∀(b:List Int),dwB sl=b→(jm a0 A6 H6 2=0→(BB false [b],II true [[0]],qa a0 (A6,H6) 2)=E)∧
    (¬jm a0 A6 H6 2=0→(BB false [b,b],II true [[0,W ((JW b).length+jI a0 (qa a0 (A6,H6) 2) 3)],[W ((JW b).length+jI a0 (qa a0 (A6,H6) 2) 3),0]],qa a0 (qa a0 (A6,H6) 2) 3)=E):=by
    intro b hb
    rw[hb]at hN3
    exact⟨fun h=>by rw[←hN3];exact(if_pos h).symm,fun h=>by rw[←hN3];exact(if_neg h).symm⟩
   simp only[Esm,zG,Eb,e23,Ec,same]
   have isl:∀l:List Int,l.length≤4→jU (I l):=fun l h=>⟨⟨l,rfl⟩,by rw[zj];omega⟩
   refine⟨hqs,isl sl l7,fun hb=>?_,fun hb=>?_⟩
   ·have hd:dwB sl=[2,3]:=by rw[dwB,if_neg (by rw[hb];decide)]
    obtain⟨f1,f2⟩:=fin _ hd
    refine⟨s6,fun h5=>?_,fun h5=>⟨⟨_,rfl,by rw[←hd];exact zue sl⟩,uf s6,isl _ (by decide),?_⟩⟩
    ·rw[hr,hy,←hE,←f1 h5]
     exact⟨rfl,rfl⟩
    ·rw[hr,hy,←hE,←f2 h5]
     exact⟨rfl,rfl⟩
   ·have hd:dwB sl=sl:=by rw[dwB,if_pos (by simpa using hb)]
    obtain⟨f1,f2⟩:=fin _ hd
    have eb1:V.frzs [V.agg [V.slc true 2 (V.int IntKind.i64 0) (I sl)]]=BB false [sl]:=yL true [sl]
    have eb2:V.frzs [V.agg [V.slc false 2 (V.int IntKind.i64 0) (I sl)],V.agg [V.slc true 2 (V.int IntKind.i64 0) (I sl)]]=BB false [sl,sl]:=by
     simp only[V.frzs,V.frz,zG]
     rfl
    refine⟨s6,fun h5=>?_,fun h5=>⟨⟨_,rfl,by rw[←hd];exact zue sl⟩,uf s6,isl _ l7,?_⟩⟩
    ·rw[hr,hy,←hE,←f1 h5,eb1]
     exact⟨rfl,rfl⟩
    ·rw[hr,hy,←hE,←f2 h5,eb2]
     exact⟨rfl,rfl⟩
 ·cases h
end Go.Ax
namespace Go.Ax
open Go.Proofs
theorem zgs:∀xs:List Int,V.frzs (U8 xs)=U8 xs
 |[]=>rfl
 |x::xs=>by
  have:=zgs xs
  simp only[U8]at this
  simp only[U8,List.map_cons,V.frzs,V.frz,this]
def cnF(es:List V)(σ:Int×Int)(most:Int):Int×Int×Int:=
 if jI es σ 14=0 then(Yd es (qa es σ 14) [-1,W (most+1),1099511627776,-4611686018427387904],Kx es (qa es σ 14) [-1,W (most+1),1099511627776,-4611686018427387904])
 else(jI es (qa es σ 14) (W (most+1)),qa es (qa es σ 14) (W (most+1)))
def znp(es:List V)(a h m:Int):Int×Int×Int:=cnF es (a,h) m
def zyk(f:List V→Int→Int→Int→Int×Int×Int)(q:List V→Int→Int→Int→Prop):jz:=fun
 |[.box 71 (.agg [.slc false 5 (.int .u8 0) a0,.int .i64 a1,.int .u64 a2]),.int .i64 a3]=>some ([q a0 a1 a2 a3],.int .i64 (f a0 a1 a2 a3).1,.box 71 (.agg [.slc false 5 (.int .u8 0) a0,.int .i64 (f a0 a1 a2 a3).2.1,.int .u64 (f a0 a1 a2 a3).2.2]))
 |_=>none
theorem zok:zcY Tryz.prog 79 1000 (zyk znp zdi):=by
 intro args ps r y h hp
 unfold zyk at h
 split at h
 ·rename_i a0 a1 a2 a3
  simp only[za,zb]at h
  obtain⟨rfl,rfl,rfl⟩:=h
  have hq:yi a0 a1 a2:=(zl.1 hp).1
  generalize yP:jm=qZ
  generalize yO:jl=qY
  generalize yN:jx=qX
  generalize qz:zdi=kI
  generalize jE:QC=ZC
  generalize jD:Ja=ZB
  generalize jC:QZ=ZA
  generalize kf:zfU=YF
  refine zfv (T:=tab) (B:=[]) (Bi:=[(25,0,false,zaX qZ qY qX kI),(50,0,false,zfg ZC ZB ZA YF)]) 0 [2000002811,0,1,4] Tryz.func79 rfl rfl (by kernel_rfl) (zg rfl) zP zQ (by subst yP yO yN qz jE jD jC kf;exact zy) (by subst yP yO yN qz jE jD jC kf;exact(qg ki (qg ZM zu))) (by kernel_rfl) rfl rfl zbj rfl ?_
  intro L lp rr yy hL hr hy hf hlp
  conv=>cbv
  subst yP yO yN qz jE jD jC kf
  simp only[zp hL,sQ,true_and]
  have s1:yi a0 (jl a0 a1 a2 14) (jx a0 a1 a2 14):=uf hq
  have fin:∀(l A H:Int),cnF a0 (a1,a2) a3=(l,A,H)→V.int .i64 l=rr∧V.box 71 (V.agg [.slc false 5 (.int .u8 0) a0,.int .i64 A,.int .u64 H])=yy:=by
   intro l A H e
   rw[hr,hy,znp,e]
   exact⟨rfl,rfl⟩
  refine⟨hq,fun h=>⟨⟨s1,⟨[-1,W (a3+1),1099511627776,-4611686018427387904],rfl⟩,(by show(1:Nat)≤4;decide),(by show(4:Nat)≤2147483647;decide)⟩,?_⟩,fun h=>⟨s1,?_⟩⟩
  ·have e:cnF a0 (a1,a2) a3=(Yd a0 (qa a0 (a1,a2) 14) [-1,W (a3+1),1099511627776,-4611686018427387904],Kx a0 (qa a0 (a1,a2) 14) [-1,W (a3+1),1099511627776,-4611686018427387904]):=if_pos h
   exact fin _ _ _ e
  ·have e:cnF a0 (a1,a2) a3=(jI a0 (qa a0 (a1,a2) 14) (W (a3+1)),qa a0 (qa a0 (a1,a2) 14) (W (a3+1))):=if_neg h
   exact fin _ _ _ e
 ·cases h
end Go.Ax
namespace Go.Ax
open Go.Proofs
def setM(ms:List (List Int))(i k x:Int):List (List Int):=ms.set i.toNat ((ms.getD i.toNat []).set k.toNat x)
abbrev CvS:Type:=List (List Int)×List (List Int)×Int×Int
def spC(es:List V)(bs ms:List (List Int))(τ:Int×Int):CvS:=
 let r:Int:=bs.length
 let v:=jI es τ 30
 let τ1:=qa es τ 30
 let i:=jI es τ1 r
 let τ2:=qa es τ1 r
 let k:=jI es τ2 r
 let τ3:=qa es τ2 r
 if v=0 then(bs,setM ms i k (Yd es τ3 [0,1,2,201,-1]),Kx es τ3 [0,1,2,201,-1])
 else if v=1 then(bs.set i.toNat (spF es τ2.1 τ2.2).1,ms,(spF es τ2.1 τ2.2).2)
 else if v=2 then(bs,ms.drop 1,τ1)
 else if v=3 then
  (if i=k then(bs,ms,qa es τ3 4)else(bs,setM (setM ms i k (1+jI es τ3 4)) k i (1+jI es τ3 4),qa es τ3 4))
 else(bs,ms,τ1)
structure CvD (es:List V) (z:CvS):Prop where
 n1:1≤z.1.length
 n6:z.1.length≤6
 row:∀x∈z.1,x.length≤3000
 m6:z.2.1.length≤6
 mrow:∀x∈z.2.1,x.length≤6
 src:yi es z.2.2.1 z.2.2.2
theorem zpA{ms:List (List Int)}{i k x:Int}(h6:ms.length≤6)(h:∀x∈ms,x.length≤6):(setM ms i k x).length≤6∧∀y∈setM ms i k x,y.length≤6:=by
 refine⟨by rw[setM,yj];exact h6,fun y hy=>?_⟩
 rw[setM]at hy
 rcases KX hy with hy|rfl
 ·exact h y hy
 ·rw[yj,zd]
  by_cases hi:i.toNat<ms.length
  ·rw[ze hi];exact h _ (ya hi)
  ·rw[zI (by omega)];simp
theorem zDx{es:List V}{bs ms:List (List Int)}{τ:Int×Int}(hs:yi es τ.1 τ.2)(h1:1≤bs.length)(h6:bs.length≤6)(hr:∀x∈bs,x.length≤3000)(hm:ms.length≤6)(hmr:∀x∈ms,x.length≤6):CvD es (spC es bs ms τ):=by
 have s1:=jv (n:=30) hs
 have s2:=jv (n:=bs.length) s1
 have s3:=jv (n:=bs.length) s2
 unfold spC
 simp only
 split
 ·obtain⟨a,b⟩:=zpA (i:=jI es (qa es τ 30) bs.length) (k:=jI es (qa es (qa es τ 30) bs.length) bs.length) (x:=Yd es (qa es (qa es (qa es τ 30) bs.length) bs.length) [0,1,2,201,-1]) hm hmr
  exact⟨h1,h6,hr,a,b,zaM s3⟩
 ·split
  ·obtain⟨a,b⟩:=zCf s2
   refine⟨by simpa using h1,by simpa using h6,fun x hx=>?_,hm,hmr,a⟩
   rcases KX hx with hx|rfl
   ·exact hr x hx
   ·exact Nat.le_trans b (by decide)
  ·split
   ·exact⟨h1,h6,hr,by simp only[yx];omega,fun x hx=>hmr x (List.mem_of_mem_drop hx),s1⟩
   ·split
    ·split
     ·exact⟨h1,h6,hr,hm,hmr,jv s3⟩
     ·obtain⟨a,b⟩:=zpA (i:=jI es (qa es τ 30) bs.length) (k:=jI es (qa es (qa es τ 30) bs.length) bs.length) (x:=1+jI es (qa es (qa es (qa es τ 30) bs.length) bs.length) 4) hm hmr
      obtain⟨a,b⟩:=zpA (k:=jI es (qa es τ 30) bs.length) (i:=jI es (qa es (qa es τ 30) bs.length) bs.length) (x:=1+jI es (qa es (qa es (qa es τ 30) bs.length) bs.length) 4) a b
      exact⟨h1,h6,hr,a,b,jv s3⟩
    ·exact⟨h1,h6,hr,hm,hmr,s1⟩
noncomputable def zhr(es:List V)(a h:Int):CvS:=spC es (ur (YH es a h).1) (kw (YH es a h).2.1) (YH es a h).2.2
theorem zCe{es:List V}{a h:Int}(hq:yi es a h):CvD es (zhr es a h):=by
 obtain⟨⟨bs,ms,e1,e2,h1,h6,hm,hb,hr⟩,hs⟩:=zgg hq
 rw[zhr,e1,e2,zW,zO]
 refine zDx hs h1 h6 (fun x hx=>?_) (by omega) (fun x hx=>?_)
 ·obtain⟨i,hi,rfl⟩:=qk.1 hx
  have:=hb i hi
  rwa [zd,ze hi]at this
 ·obtain⟨i,hi,rfl⟩:=qk.1 hx
  have:=hr i (by omega)
  rw[zd,ze hi]at this
  simp only[Option.getD_some]at this
  omega
noncomputable def zd1(es:List V)(a h:Int):List V×List V×Int×Int:=(BB false (zhr es a h).1,II false (zhr es a h).2.1,(zhr es a h).2.2)
def zkv(f:List V→Int→Int→List V×List V×Int×Int)(q:List V→Int→Int→Prop):jz:=fun
 |[.box 71 (.agg [.slc false 5 (.int .u8 0) a0,.int .i64 a1,.int .u64 a2])]=>some ([q a0 a1 a2],.agg [.slc false 68 (.agg [.slc false 2 (.int .i64 0) []]) (f a0 a1 a2).1,.slc false 30 (.slc false 2 (.int .i64 0) []) (f a0 a1 a2).2.1],.box 71 (.agg [.slc false 5 (.int .u8 0) a0,.int .i64 (f a0 a1 a2).2.2.1,.int .u64 (f a0 a1 a2).2.2.2]))
 |_=>none
theorem zcy:zcY Tryz.prog 23 1000 (zkv zd1 yi):=by
 intro args ps r y h hp
 unfold zkv at h
 split at h
 ·rename_i a0 a1 a2
  simp only[za,zb]at h
  obtain⟨rfl,rfl,rfl⟩:=h
  have hq:yi a0 a1 a2:=(zl.1 hp).1
  obtain⟨⟨bs,ms,hb,hm,h1,h6,hml,hbl,hrl⟩,hs⟩:=zgg hq
  obtain⟨⟨vb,vm,A,H⟩,hd⟩:∃d,d=YH a0 a1 a2:=⟨_,rfl⟩
  rw[←hd]at hb hm hs
  simp only at hb hm hs
  have hS:zhr a0 a1 a2=spC a0 bs ms (A,H):=by rw[zhr,←hd];simp only[hb,hm,zW,zO]
  obtain⟨r,hr0⟩:∃r:Int,r=bs.length:=⟨_,rfl⟩
  have hvb:vb.length=bs.length:=by rw[hb,yK]
  have hvm:vm.length=ms.length:=by rw[hm,yk]
  have gm:∀k,vm.getD k (.slc true 2 (.int .i64 0) [])=.slc true 2 (.int .i64 0) (I (ms.getD k [])):=fun k=>by rw[hm,qB]
  generalize yP:jm=qZ
  generalize yO:jl=qY
  generalize yN:jx=qX
  generalize qz:zdi=kI
  generalize jE:QC=ZC
  generalize jD:Ja=ZB
  generalize jC:QZ=ZA
  generalize kf:zfU=YF
  generalize zdP:YH=zrh
  generalize uA:yi=JV
  generalize zuX:zt6=zEg
  refine zCN (T:=tab) (B:=[]) (Bi:=[(25,0,false,zaX qZ qY qX kI),(50,0,false,zfg ZC ZB ZA YF),(26,1000,false,zoQ zrh JV),(51,1000,false,zyi zEg JV)]) 0 [1000010003,2000005800,2000005820,2000005821,2000005824,2000005995,2000006832,2000008800,2000008837,2000008838,2000008841,2000008843,2000008995,2000015069,2000015074,3000008005,3000015007,0,2,3,4,5,6,7,8,9,10,17] Tryz.func23 rfl rfl (by kernel_rfl) (zg rfl) zP zQ (by subst yP yO yN qz jE jD jC kf zdP uA zuX;exact zy) (by subst yP yO yN qz jE jD jC kf zdP uA zuX;exact(qg ki (qg ZM (qg zhR (qg zog zu))))) (by kernel_rfl) rfl rfl zbj rfl ?_
  intro L lp rr yy hL hr hy hf hlp
  conv=>cbv
  subst yP yO yN qz jE jD jC kf zdP uA zuX
  obtain⟨v,hv⟩:∃v,v=jm a0 A H 30:=⟨_,rfl⟩
  obtain⟨A1,hA1⟩:∃A1,A1=jl a0 A H 30:=⟨_,rfl⟩
  obtain⟨H1,hH1⟩:∃H1,H1=jx a0 A H 30:=⟨_,rfl⟩
  obtain⟨i,hi⟩:∃i,i=jm a0 A1 H1 r:=⟨_,rfl⟩
  obtain⟨A2,hA2⟩:∃A2,A2=jl a0 A1 H1 r:=⟨_,rfl⟩
  obtain⟨H2,hH2⟩:∃H2,H2=jx a0 A1 H1 r:=⟨_,rfl⟩
  obtain⟨k,hk⟩:∃k,k=jm a0 A2 H2 r:=⟨_,rfl⟩
  obtain⟨A3,hA3⟩:∃A3,A3=jl a0 A2 H2 r:=⟨_,rfl⟩
  obtain⟨H3,hH3⟩:∃H3,H3=jx a0 A2 H2 r:=⟨_,rfl⟩
  have s1:yi a0 A1 H1:=by rw[hA1,hH1];exact uf hs
  have s2:yi a0 A2 H2:=by rw[hA2,hH2];exact uf s1
  have s3:yi a0 A3 H3:=by rw[hA3,hH3];exact uf s2
  have i1:=YA (n:=r) s1 (by omega)
  have k1:=YA (n:=r) s2 (by omega)
  rw[←hi]at i1
  rw[←hk]at k1
  obtain⟨x,hx⟩:∃x,x=QC a0 A3 H3 (I [0,1,2,201,-1]):=⟨_,rfl⟩
  obtain⟨A4,hA4⟩:∃A4,A4=Ja a0 A3 H3 (I [0,1,2,201,-1]):=⟨_,rfl⟩
  obtain⟨H4,hH4⟩:∃H4,H4=QZ a0 A3 H3 (I [0,1,2,201,-1]):=⟨_,rfl⟩
  obtain⟨n,hn⟩:∃n,n=1+jm a0 A3 H3 4:=⟨_,rfl⟩
  obtain⟨A5,hA5⟩:∃A5,A5=jl a0 A3 H3 4:=⟨_,rfl⟩
  obtain⟨H5,hH5⟩:∃H5,H5=jx a0 A3 H3 4:=⟨_,rfl⟩
  have n1:=YA (n:=4) s3 (by omega)
  obtain⟨⟨sl,A6,H6⟩,hsp⟩:∃z,z=spF a0 A2 H2:=⟨_,rfl⟩
  have hS2:zhr a0 a1 a2=if v=0 then(bs,setM ms i k x,A4,H4)else if v=1 then(bs.set i.toNat sl,ms,A6,H6)else if v=2 then(bs,ms.drop 1,A1,H1)
   else if v=3 then(if i=k then(bs,ms,A5,H5)else(bs,setM (setM ms i k n) k i n,A5,H5))else(bs,ms,A1,H1):=by
   have e1:sl=(spF a0 A2 H2).1:=by rw[←hsp]
   have e2:(A6,H6)=(spF a0 A2 H2).2:=by rw[←hsp]
   rw[hS,e1,e2,hn,hA5,hH5,hx,hA4,hH4,hk,hA3,hH3,hi,hA2,hH2,hv,hA1,hH1,hr0]
   rfl
  have fin:∀(xs ys:List (List Int)) (B G:Int),zhr a0 a1 a2=(xs,ys,B,G)→V.agg [V.slc false 68 (V.agg [V.slc false 2 (V.int IntKind.i64 0) []]) (BB false xs),V.slc false 30 (V.slc false 2 (V.int IntKind.i64 0) []) (II false ys)]=rr∧
   V.box 71 (V.agg [V.slc false 5 (V.int IntKind.u8 0) a0,V.int IntKind.i64 B,V.int IntKind.u64 G])=yy:=by
   intro xs ys B G e
   rw[hr,hy,zd1,e]
   exact⟨rfl,rfl⟩
  have hset:∀(j:Nat) (l:List Int),vm.set j (.slc true 2 (.int .i64 0) (I l))=II true (ms.set j l):=fun j l=>by rw[hm,II,II,Ym]
  have hbset:∀(j:Nat) (l:List Int),vb.set j (.agg [.slc false 2 (.int .i64 0) (I l)])=BB false (bs.set j l):=fun j l=>by rw[hb,BB,BB,Ym]
  have gb:∀j,vb.getD j (.agg [.slc false 2 (.int .i64 0) []])=.agg [.slc false 2 (.int .i64 0) (I (bs.getD j []))]:=fun j=>by rw[hb,uo]
  have gset:∀j l,(II true l).getD j (.slc true 2 (.int .i64 0) [])=.slc true 2 (.int .i64 0) (I (l.getD j [])):=fun j l=>qB true l j
  have fvb:V.frzs vb=BB false bs:=by rw[hb,yL]
  have fvm:V.frzs vm=II false ms:=by rw[hm,yF]
  have fpk:∀l,l=I [0,1,2,201,-1]→QC a0 A3 H3 l=x∧Ja a0 A3 H3 l=A4∧QZ a0 A3 H3 l=H4:=fun l hl=>by rw[hl,hx,hA4,hH4];exact⟨rfl,rfl,rfl⟩
  obtain⟨p0,p1,p2⟩:=fpk (V.frzs (V.frzs [V.int IntKind.i64 0,V.int IntKind.i64 1,V.int IntKind.i64 2,V.int IntKind.i64 201,V.int IntKind.i64 (-1)])) rfl
  have fsp:zt6 a0 A2 H2=(I sl,A6,H6):=by rw[zt6,←hsp]
  have hn2:jm a0 A3 H3 4=n-1:=by omega
  have wn:IntKind.wrap .i64 (1+(n-1))=n:=by rw[show 1+(n-1)=n by omega];exact zo (by omega) (by omega)
  simp only[zp hL,sQ,←hd,hvb,←hr0,hvm,gm,←hv,←hA1,←hH1,←hi,←hA2,←hH2,←hk,←hA3,←hH3,hn2,←hA5,←hH5,p0,p1,p2,fsp,hset,hbset,gb,gset,KY,uk,fvb,fvm,yL,yF,wn,yk,yj]
  have hri:=hrl i.toNat (by omega)
  have hrk:=hrl k.toNat (by omega)
  have hgk:i≠k→∀l,(ms.set i.toNat l).getD k.toNat []=ms.getD k.toNat []:=fun hne l=>by
   rw[zd,Zu (by omega),←zd]
  refine⟨hq,hs,fun h=>?_,fun h=>⟨fun h2=>?_,fun h2=>⟨fun h3=>?_,fun h3=>⟨fun h4=>⟨s1,s2,s3,fun h5=>?_,fun h5=>?_⟩,fun h4=>?_⟩⟩⟩⟩
  ·rw[if_pos h]at hS2
   exact⟨s1,i1.1,by omega,by omega,s2,⟨s3,⟨[0,1,2,201,-1],rfl⟩,by decide,by decide⟩,by omega,k1.1,by omega,by omega,by omega,fin _ _ _ _ hS2⟩
  ·rw[if_neg h,if_pos h2]at hS2
   exact⟨s1,s2,i1.1,i1.2,by omega,fin _ _ _ _ hS2⟩
  ·rw[if_neg h,if_neg h2,if_pos h3]at hS2
   refine⟨by omega,by omega,Zi _,?_⟩
   have e:V.frzs (List.drop 1 (List.take ((ms.length:Int)).toNat (II false ms)))=II false (ms.drop 1):=by
    rw[zC,zB (by rw[yk];exact zt _),show List.drop 1 (II false ms)=II false (ms.drop 1) by rw[II,II,List.map_drop],yF]
   rw[e]
   exact fin _ _ _ _ hS2
  ·rw[if_neg h,if_neg h2,if_neg h3,if_pos h4,if_neg h5]at hS2
   simp only[hgk h5]
   iterate 20 try refine⟨by omega,?_⟩
   have hset2:∀(X:List (List Int)) (j:Nat) (l:List Int),(II true X).set j (.slc true 2 (.int .i64 0) (I l))=II true (X.set j l):=fun X j l=>by rw[II,II,Ym]
   simp only[setM,hgk h5]at hS2
   rw[hset2,yF]
   exact fin _ _ _ _ hS2
  ·rw[if_neg h,if_neg h2,if_neg h3,if_pos h4,if_pos h5]at hS2
   exact fin _ _ _ _ hS2
  ·rw[if_neg h,if_neg h2,if_neg h3,if_neg h4]at hS2
   exact fin _ _ _ _ hS2
 ·cases h
def odN(es:List V):Nat→List Int×Int×Int→List Int×Int×Int
 |0,x=>x
 |k+1,x=>
  let y:=odN es k x
  let at0:=jI es y.2 ((k:Int)+1)
  (y.1.take at0.toNat++((k:Int)::y.1.drop at0.toNat),qa es y.2 ((k:Int)+1))
def zoZ(es:List V)(a h r:Int):List V×Int×Int:=(I (odN es r.toNat ([],a,h)).1,(odN es r.toNat ([],a,h)).2)
theorem zoA{es:List V}:∀(k:Nat) {x:List Int×Int×Int},yi es x.2.1 x.2.2→x.1=[]→yi es (odN es k x).2.1 (odN es k x).2.2∧(odN es k x).1.Perm (yq k)
 |0,x,h,hx=>⟨h,by rw[odN,hx];exact .refl _⟩
 |k+1,x,h,hx=>by
  obtain⟨h1,h2⟩:=zoA k h hx
  refine⟨jv h1,?_⟩
  simp only[odN]
  have h3:yq (k+1)=yq k++[(k:Int)]:=Jj _ _
  rw[h3]
  have h4:=List.perm_middle (a:=(k:Int)) (l₁:=(odN es k x).1.take (jI es (odN es k x).2 ((k:Int)+1)).toNat) (l₂:=(odN es k x).1.drop (jI es (odN es k x).2 ((k:Int)+1)).toNat)
  refine h4.trans ?_
  rw[List.take_append_drop]
  exact(List.Perm.cons _ h2).trans (List.perm_append_comm (l₁:=[(k:Int)]))
def zxL(es:List V)(a h r:Int):Prop:=yi es a h∧0≤r∧r≤6
def ztQ(f:List V→Int→Int→Int→List V×Int×Int)(q:List V→Int→Int→Int→Prop):jz:=fun
 |[.box 71 (.agg [.slc false 5 (.int .u8 0) a0,.int .i64 a1,.int .u64 a2]),.int .i64 a3]=>some ([q a0 a1 a2 a3],.slc true 2 (.int .i64 0) (f a0 a1 a2 a3).1,.box 71 (.agg [.slc false 5 (.int .u8 0) a0,.int .i64 (f a0 a1 a2 a3).2.1,.int .u64 (f a0 a1 a2 a3).2.2]))
 |_=>none
theorem zob:zcY Tryz.prog 28 1000 (ztQ zoZ zxL):=by
 intro args ps r y h hp
 unfold ztQ at h
 split at h
 ·rename_i a0 a1 a2 a3
  simp only[za,zb]at h
  obtain⟨rfl,rfl,rfl⟩:=h
  obtain⟨hq,r0,r6⟩:zxL a0 a1 a2 a3:=(zl.1 hp).1
  generalize yP:jm=qZ
  generalize yO:jl=qY
  generalize yN:jx=qX
  generalize qz:zdi=kI
  refine zfv (T:=tab) (B:=[]) (Bi:=[(25,0,false,zaX qZ qY qX kI)]) 0 [0,1,4,5,6,7,8] Tryz.func28 rfl rfl (by kernel_rfl) (zg rfl) zP zQ (by subst yP yO yN qz;exact zy) (by subst yP yO yN qz;exact(qg ki zu)) (by kernel_rfl) rfl rfl zbj rfl ?_
  intro L lp rr yy hL hr hy hf hlp
  have Qn:∀a h n,yi a0 a h→kI a0 a h n:=fun a h n hs=>by rw[←qz];exact hs
  conv=>cbv
  refine hlp (List V×Int×Int×Int) _ _ _ [0,1,5,6] (fun x=>[(0,none,.val (.box 71 (.agg [.slc false 5 (.int .u8 0) a0,.int .i64 x.2.1,.int .u64 x.2.2.1]))),(1,none,.val (.int .i64 a3)),(5,none,.val (.slc true 2 (.int .i64 0) x.1)),(6,none,.val (.int .i64 x.2.2.2))])
   (fun x=>0≤x.2.2.2∧x.2.2.2≤a3∧∃l:List Int,x.1=I l∧(l,x.2.1,x.2.2.1)=odN a0 x.2.2.2.toNat ([],a1,a2)) (fun x=>(a3-x.2.2.2).toNat) (([],a1,a2,0)) (by subst hL;rfl) ?_ ?_
  ·exact⟨by simp,by simp only;omega,[],rfl,rfl⟩
  rintro⟨vl,a,h,i⟩ ⟨i0,i1,l,hl,hz⟩ hfx ag hag
  simp only at i0 i1 hl hz
  obtain⟨hs,hpm⟩:=zoA (es:=a0) i.toNat (x:=([],a1,a2)) hq rfl
  rw[←hz]at hs hpm
  simp only at hs hpm
  have hll:l.length=i.toNat:=by rw[hpm.length_eq,qd]
  have hvl:vl.length=l.length:=by rw[hl,zj]
  have fvl:V.frzs vl=vl:=by rw[hl,zG]
  have w1:IntKind.wrap .i64 (i+1)=i+1:=zo (by omega) (by omega)
  obtain⟨t,ht⟩:∃t,t=jm a0 a h (i+1):=⟨_,rfl⟩
  obtain⟨B1,hB1⟩:∃B1,B1=jl a0 a h (i+1):=⟨_,rfl⟩
  obtain⟨G1,hG1⟩:∃G1,G1=jx a0 a h (i+1):=⟨_,rfl⟩
  have t1:=YA (n:=i+1) hs (by omega)
  have e0:qZ a0 a h (i+1)=t:=by rw[←yP,ht]
  have e1:qY a0 a h (i+1)=B1:=by rw[←yO,hB1]
  have e2:qX a0 a h (i+1)=G1:=by rw[←yN,hG1]
  have hnx:odN a0 (i.toNat+1) ([],a1,a2)=(l.take t.toNat++(i::l.drop t.toNat),B1,G1):=by
   simp only[odN,←hz]
   rw[show((i.toNat:Nat):Int)=i by omega,ht,hB1,hG1]
  have d1:List.drop t.toNat (List.take ((l.length:Int)).toNat vl)=I (l.drop t.toNat):=by rw[zC,zB (by omega),hl,zzU]
  have d2:List.drop 0 (List.take t.toNat vl)=I (l.take t.toNat):=by rw[List.drop_zero,hl,zim]
  have d3:∀xs:List Int,[V.int IntKind.i64 i]++I xs=I (i::xs):=fun xs=>rfl
  have d4:∀xs:List V,([]:List V)++xs=xs:=fun xs=>rfl
  have dl:(l.drop t.toNat).length≤6:=by rw[yx];omega
  have tl:(l.take t.toNat).length≤6:=by rw[zL];omega
  conv=>cbv
  simp only[zp hL,sQ,hvl,fvl,w1,e0,e1,e2,d1,d2,d3,d4,qr,Ks,zi,zr]
  refine⟨fun h2=>?_,fun h2=>?_⟩
  ·refine⟨Qn _ _ _ hs,by omega,by omega,Zi _,Zi _,by omega,JO _,by omega,by omega,by omega,by omega,JO _,by omega,JO _,?_⟩
   refine hag (_,B1,G1,i+1) ⟨by simp only;omega,by simp only;omega,_,rfl,?_⟩ (by simp only;omega)
   simp only
   rw[show(i+1).toNat=i.toNat+1 by omega,hnx]
  ·rw[hr,hy,zoZ,show a3.toNat=i.toNat by omega,←hz,hl]
   exact⟨rfl,rfl⟩
 ·cases h
end Go.Ax
namespace Go.Ax
open Go.Proofs
noncomputable def Jt(es:List V):CvS:=zhr es 0 (QQ es)
theorem zo9{es:List V}(hq:IsU es):CvD es (Jt es):=zCe ⟨hq,Zi _,ka _⟩
noncomputable def atF(es:List V):Int×Int:=
 let c:=Jt es
 let r:Int:=c.1.length
 let i:=(cnF es c.2.2 (r-1)).1
 let τ:=(cnF es c.2.2 (r-1)).2
 if 1<r∧0≤i∧i<r then
  if 0<jI es τ 6 then(i,(i+1+jI es (qa es τ 6) (r-1)).tmod r)else(i,(cnF es (qa es τ 6) (r-1)).1)
 else(i,(cnF es τ (r-1)).1)
def zqj(f:List V→List V×List V×Int×Int)(q:List V→Prop):zN:=fun
 |[.slc false 5 (.int .u8 0) a0]=>some ([q a0],.tup [.agg [.slc false 68 (.agg [.slc false 2 (.int .i64 0) []]) ((f a0).1),.slc false 30 (.slc false 2 (.int .i64 0) []) ((f a0).2.1)],.int .i64 ((f a0).2.2.1),.int .i64 ((f a0).2.2.2)])
 |_=>none
noncomputable def zyp(a:List V):List V×List V×Int×Int:=(BB false (Jt a).1,II false (Jt a).2.1,(atF a).1,(atF a).2)
theorem zC1{es:List V}{σ:Int×Int}{m:Int}(hq:yi es σ.1 σ.2):yi es (cnF es σ m).2.1 (cnF es σ m).2.2:=by
 unfold cnF
 split
 ·exact zaM (jv hq)
 ·exact jv (jv hq)
theorem zsS:yT Tryz.prog 45 (zqj zyp IsU):=by
 intro args ps r h hp
 unfold zqj at h
 split at h
 ·rename_i a0
  simp only[za,zb]at h
  obtain⟨rfl,rfl⟩:=h
  have hq:IsU a0:=(zl.1 hp).1
  have hfr:V.frzs a0=a0:=by
   obtain⟨xs,hxs,_⟩:=hq
   rw[hxs,zgs]
  have s0:yi a0 0 (QQ a0):=⟨hq,Zi _,ka _⟩
  obtain⟨⟨bs,ms,A,H⟩,hd⟩:∃d,d=Jt a0:=⟨_,rfl⟩
  have hok:=zo9 hq
  rw[←hd]at hok
  have n1:=hok.n1
  have n6:=hok.n6
  have hs:=hok.src
  simp only at n1 n6 hs
  have Es:zd1 a0 0 (QQ a0)=(BB false bs,II false ms,A,H):=by rw[zd1,←Jt,←hd]
  obtain⟨r,hr0⟩:∃r:Int,r=bs.length:=⟨_,rfl⟩
  obtain⟨vb,hvb⟩:∃vb,vb=BB false bs:=⟨_,rfl⟩
  obtain⟨vm,hvm⟩:∃vm,vm=II false ms:=⟨_,rfl⟩
  have hvl:vb.length=bs.length:=by rw[hvb,yK]
  have fvb:V.frzs vb=vb:=by rw[hvb,yL]
  have fvm:V.frzs vm=vm:=by rw[hvm,yF]
  rw[←hvb,←hvm]at Es
  generalize Yn:QQ=zeC
  generalize YL:IsU=zbQ
  generalize yP:jm=qZ
  generalize yO:jl=qY
  generalize yN:jx=qX
  generalize qz:zdi=kI
  generalize JR:zd1=zit
  generalize uA:yi=JV
  generalize zu6:znp=zEk
  refine zal (T:=tab) (B:=[(22,zkW zeC zbQ)]) (Bi:=[(25,0,false,zaX qZ qY qX kI),(23,1000,false,zkv zit JV),(79,1000,false,zyk zEk kI)]) [2000006802,2000006805,2000006836,2000006839,2000006843,2000006844,2000006846,2000006995,2000006998,2000007805,2000007847,2000007852,2000007995,3000006001,3000006002,3000006009,3000007001,0,2,3,4,5,6,7,8] Tryz.func45 rfl rfl (by kernel_rfl) (zg rfl) zP zQ (by subst Yn YL yP yO yN qz JR uA zu6;exact(zm zdf zy)) (by subst Yn YL yP yO yN qz JR uA zu6;exact(qg ki (qg zcy (qg zok zu)))) (by kernel_rfl) ?_
  intro L lp rr hL hr hf hlp
  conv=>cbv
  subst Yn YL yP yO yN qz JR uA zu6
  have wr:IntKind.wrap .i64 (r-1)=r-1:=zo (by omega) (by omega)
  obtain⟨⟨i,B,G⟩,hc⟩:∃z,z=cnF a0 (A,H) (r-1):=⟨_,rfl⟩
  have Ec:znp a0 A H (r-1)=(i,B,G):=by rw[znp,←hc]
  have sB:yi a0 B G:=by have:=zC1 (m:=r-1) (σ:=(A,H)) hs;rw[←hc]at this;exact this
  obtain⟨v,hv⟩:∃v,v=jm a0 B G 6:=⟨_,rfl⟩
  obtain⟨B1,hB1⟩:∃B1,B1=jl a0 B G 6:=⟨_,rfl⟩
  obtain⟨G1,hG1⟩:∃G1,G1=jx a0 B G 6:=⟨_,rfl⟩
  have sB1:yi a0 B1 G1:=by rw[hB1,hG1];exact uf sB
  obtain⟨u,hu⟩:∃u,u=jm a0 B1 G1 (r-1):=⟨_,rfl⟩
  have hat:atF a0=if 1<r∧0≤i∧i<r then(if 0<v then(i,(i+1+u).tmod r)else(i,(znp a0 B1 G1 (r-1)).1))else(i,(znp a0 B G (r-1)).1):=by
   subst hu hG1 hB1 hv hr0
   rw[atF,←hd]
   simp only[←hc]
   rfl
  have fin:∀i k,atF a0=(i,k)→V.tup [V.agg [V.slc false 68 (V.agg [V.slc false 2 (V.int IntKind.i64 0) []]) vb,V.slc false 30 (V.slc false 2 (V.int IntKind.i64 0) []) vm],V.int .i64 i,V.int .i64 k]=rr:=by
   intro i k e
   rw[hr,zyp,←hd,e,hvb,hvm]
  simp only[zp hL,sQ,hfr,Es,hvl,←hr0,fvb,fvm,wr,Ec,←hv,←hB1,←hG1,←hu]
  refine⟨hq,s0,hs,fun h=>⟨h,sB,fun h2=>⟨sB1,by omega,?_⟩,fun h2=>⟨sB1,?_⟩⟩,fun h=>⟨fun h2=>absurd h2.1 (by omega),fun h2=>⟨sB,?_⟩⟩⟩
  ·have u1:=YA (n:=r-1) sB1 (by omega)
   rw[←hu]at u1
   rw[if_pos ⟨h.1.1,h.1.2,h.2⟩,if_pos h2.2]at hat
   rw[zo (n:=i+1) (by omega) (by omega),zo (n:=i+1+u) (by omega) (by omega)]
   exact fin _ _ hat
  ·rw[if_pos ⟨h.1.1,h.1.2,h.2⟩,if_neg (by omega)]at hat
   exact fin _ _ hat
  ·rw[if_neg (by omega)]at hat
   exact fin _ _ hat
 ·cases h
def zyt(f:List V→List V×List V)(q:List V→Prop):zN:=fun
 |[.slc false 5 (.int .u8 0) a0]=>some ([q a0],.agg [.slc false 68 (.agg [.slc false 2 (.int .i64 0) []]) ((f a0).1),.slc false 30 (.slc false 2 (.int .i64 0) []) ((f a0).2)])
 |_=>none
noncomputable def zst(a:List V):List V×List V:=(BB false (Jt a).1,II false (Jt a).2.1)
theorem zhu:yT Tryz.prog 13 (zyt zst IsU):=by
 intro args ps r h hp
 unfold zyt at h
 split at h
 ·rename_i a0
  simp only[za,zb]at h
  obtain⟨rfl,rfl⟩:=h
  have hq:IsU a0:=(zl.1 hp).1
  have hfr:V.frzs a0=a0:=by
   obtain⟨xs,hxs,_⟩:=hq
   rw[hxs,zgs]
  have s0:yi a0 0 (QQ a0):=⟨hq,Zi _,ka _⟩
  generalize Yn:QQ=zeC
  generalize YL:IsU=zbQ
  generalize JR:zd1=zit
  generalize uA:yi=JV
  refine zal (T:=tab) (B:=[(22,zkW zeC zbQ)]) (Bi:=[(23,1000,false,zkv zit JV)]) [0,2] Tryz.func13 rfl rfl (by kernel_rfl) (zg rfl) zP zQ (by subst Yn YL JR uA;exact(zm zdf zy)) (by subst Yn YL JR uA;exact(qg zcy zu)) (by kernel_rfl) ?_
  intro L lp rr hL hr hf hlp
  conv=>cbv
  subst Yn YL JR uA
  have Es:zd1 a0 0 (QQ a0)=(BB false (Jt a0).1,II false (Jt a0).2.1,(Jt a0).2.2):=rfl
  simp only[zp hL,sQ,hfr,Es,yL,yF]
  exact⟨hq,s0,hr.symm⟩
 ·cases h
def zuq(f:List V→List V×List V×Int)(q:List V→Prop):zN:=fun
 |[.slc false 5 (.int .u8 0) a0]=>some ([q a0],.tup [.agg [.slc false 68 (.agg [.slc false 2 (.int .i64 0) []]) ((f a0).1),.slc false 30 (.slc false 2 (.int .i64 0) []) ((f a0).2.1)],.int .i64 ((f a0).2.2)])
 |_=>none
noncomputable def zss(a:List V):List V×List V×Int:=(BB false (Jt a).1,II false (Jt a).2.1,(atF a).1)
theorem zdg:yT Tryz.prog 18 (zuq zss IsU):=by
 intro args ps r h hp
 unfold zuq at h
 split at h
 ·rename_i a0
  simp only[za,zb]at h
  obtain⟨rfl,rfl⟩:=h
  have hq:IsU a0:=(zl.1 hp).1
  have hfr:V.frzs a0=a0:=by
   obtain⟨xs,hxs,_⟩:=hq
   rw[hxs,zgs]
  generalize zu7:zyp=zEl
  generalize YL:IsU=zbQ
  refine zal (T:=tab) (B:=[(45,zqj zEl zbQ)]) (Bi:=[]) [0,2,3,4,5] Tryz.func18 rfl rfl (by kernel_rfl) (zg rfl) zP zQ (by subst zu7 YL;exact(zm zsS zy)) (by subst zu7 YL;exact zu) (by kernel_rfl) ?_
  intro L lp rr hL hr hf hlp
  conv=>cbv
  subst zu7 YL
  have Es:zyp a0=(BB false (Jt a0).1,II false (Jt a0).2.1,(atF a0).1,(atF a0).2):=rfl
  simp only[zp hL,sQ,hfr,Es,yL,yF]
  exact⟨hq,hr.symm⟩
 ·cases h
theorem zx0{ms:List (List Int)}{l r:List Int}(h:r∈partM ms l):r.length=l.length:=by
 obtain⟨i,_,rfl⟩:=List.mem_map.1 h
 exact yh _
noncomputable def ceF(es:List V):CvS×List (List Int)×List (List Int):=
 let c:=Jt es
 if Yx c.1 c.2.1=true∧¬jI es c.2.2 5=0 then
  let τ:=qa es c.2.2 5
  let o:=odN es c.1.length ([],τ.1,τ.2)
  let d:=(partB c.1 o.1,partM c.2.1 o.1)
  if jI es o.2 5=0∧1<d.1.length then(c,d.1,setM (setM d.2 0 1 (W (mm d.2 0 1+1))) 1 0 (W (mm d.2 1 0+1)))
  else(c,d)
 else
  let τ:=if Yx c.1 c.2.1=true then qa es c.2.2 5 else c.2.2
  let d:=YH es τ.1 τ.2
  (c,ur d.1,kw d.2.1)
def zur(f:List V→List V×List V×List V×List V)(q:List V→Prop):zN:=fun
 |[.slc false 5 (.int .u8 0) a0]=>some ([q a0],.tup [.agg [.slc false 68 (.agg [.slc false 2 (.int .i64 0) []]) ((f a0).1),.slc false 30 (.slc false 2 (.int .i64 0) []) ((f a0).2.1)],.agg [.slc false 68 (.agg [.slc false 2 (.int .i64 0) []]) ((f a0).2.2.1),.slc false 30 (.slc false 2 (.int .i64 0) []) ((f a0).2.2.2)]])
 |_=>none
noncomputable def zo2(a:List V):List V×List V×List V×List V:=(BB false (ceF a).1.1,II false (ceF a).1.2.1,BB false (ceF a).2.1,II false (ceF a).2.2)
theorem zfO:yT Tryz.prog 5 (zur zo2 IsU):=by
 intro args ps r h hp
 unfold zur at h
 split at h
 ·rename_i a0
  simp only[za,zb]at h
  obtain⟨rfl,rfl⟩:=h
  have hq:IsU a0:=(zl.1 hp).1
  have hfr:V.frzs a0=a0:=by
   obtain⟨xs,hxs,_⟩:=hq
   rw[hxs,zgs]
  have s0:yi a0 0 (QQ a0):=⟨hq,Zi _,ka _⟩
  obtain⟨⟨bs,ms,A,H⟩,hd⟩:∃d,d=Jt a0:=⟨_,rfl⟩
  have hok:=zo9 hq
  rw[←hd]at hok
  have n1:=hok.n1
  have n6:=hok.n6
  have hs:=hok.src
  simp only at n1 n6 hs
  have Es:zd1 a0 0 (QQ a0)=(BB false bs,II false ms,A,H):=by rw[zd1,←Jt,←hd]
  obtain⟨r,hr0⟩:∃r:Int,r=bs.length:=⟨_,rfl⟩
  obtain⟨vb,hvb⟩:∃vb,vb=BB false bs:=⟨_,rfl⟩
  obtain⟨vm,hvm⟩:∃vm,vm=II false ms:=⟨_,rfl⟩
  have hvl:vb.length=bs.length:=by rw[hvb,yK]
  have fvb:V.frzs vb=vb:=by rw[hvb,yL]
  have fvm:V.frzs vm=vm:=by rw[hvm,yF]
  rw[←hvb,←hvm]at Es
  generalize Yn:QQ=zeC
  generalize YL:IsU=zbQ
  generalize yP:jm=qZ
  generalize yO:jl=qY
  generalize yN:jx=qX
  generalize qz:zdi=kI
  generalize JR:zd1=zit
  generalize uA:yi=JV
  generalize zdP:YH=zrh
  generalize zqR:zoZ=zDf
  generalize zqA:zxL=zC9
  generalize zY:yB=ji
  generalize qf:uj=jR
  generalize Qq:Yh=zb5
  generalize Qf:zor=zgK
  refine zal (T:=tab) (B:=[(22,zkW zeC zbQ),(24,Jc ji jR),(27,zbx zb5 zgK)]) (Bi:=[(25,0,false,zaX qZ qY qX kI),(23,1000,false,zkv zit JV),(26,1000,false,zoQ zrh JV),(28,1000,false,ztQ zDf zC9)]) [1000010006,2000004804,2000004821,2000004823,2000004995,2000005006,2000005804,2000005806,2000005824,2000005829,2000005995,2000007043,2000007047,2000010802,2000010803,2000010859,2000010998,3000004001,0,2,3,4,5,6,7,8] Tryz.func5 rfl rfl (by kernel_rfl) (zg rfl) zP zQ (by subst Yn YL yP yO yN qz JR uA zdP zqR zqA zY qf Qq Qf;exact(zm zdf (zm zaa (zm zdc zy)))) (by subst Yn YL yP yO yN qz JR uA zdP zqR zqA zY qf Qq Qf;exact(qg ki (qg zcy (qg zhR (qg zob zu))))) (by kernel_rfl) ?_
  intro L lp rr hL hr hf hlp
  conv=>cbv
  subst Yn YL yP yO yN qz JR uA zdP zqR zqA zY qf Qq Qf
  have hqC:uj vb vm:=by
   have h1:=hok.row
   have h2:=hok.m6
   have h3:=hok.mrow
   simp only at h1 h2 h3
   exact⟨⟨bs,hvb,by omega,fun x hx=>by have:=h1 x hx;omega⟩,⟨ms,hvm,by omega,fun x hx=>by have:=h3 x hx;omega⟩⟩
  have Eis:yB vb vm=Yx bs ms:=by rw[yB,hvb,hvm,zW,zO]
  obtain⟨v,hv⟩:∃v,v=jm a0 A H 5:=⟨_,rfl⟩
  obtain⟨A1,hA1⟩:∃A1,A1=jl a0 A H 5:=⟨_,rfl⟩
  obtain⟨H1,hH1⟩:∃H1,H1=jx a0 A H 5:=⟨_,rfl⟩
  have s1:yi a0 A1 H1:=by rw[hA1,hH1];exact uf hs
  obtain⟨⟨o,B,G⟩,ho⟩:∃o,o=odN a0 bs.length ([],A1,H1):=⟨_,rfl⟩
  obtain⟨sB,hpm⟩:=zoA (es:=a0) bs.length (x:=([],A1,H1)) s1 rfl
  rw[←ho]at sB hpm
  simp only at sB hpm
  have hce:ceF a0=if Yx bs ms=true∧¬v=0 then
   (if jm a0 B G 5=0∧1<(partB bs o).length then((bs,ms,A,H),partB bs o,setM (setM (partM ms o) 0 1 (W (mm (partM ms o) 0 1+1))) 1 0 (W (mm (partM ms o) 1 0+1)))else((bs,ms,A,H),partB bs o,partM ms o))
   else((bs,ms,A,H),ur (YH a0 (if Yx bs ms=true then(A1,H1)else(A,H)).1 (if Yx bs ms=true then(A1,H1)else(A,H)).2).1,kw (YH a0 (if Yx bs ms=true then(A1,H1)else(A,H)).1 (if Yx bs ms=true then(A1,H1)else(A,H)).2).2.1):=by
   have e1:o=(odN a0 bs.length ([],jl a0 A H 5,jx a0 A H 5)).1:=by rw[←hA1,←hH1,←ho]
   have e2:(B,G)=(odN a0 bs.length ([],jl a0 A H 5,jx a0 A H 5)).2:=by rw[←hA1,←hH1,←ho]
   have e3:B=(odN a0 bs.length ([],jl a0 A H 5,jx a0 A H 5)).2.1:=by rw[←e2]
   have e4:G=(odN a0 bs.length ([],jl a0 A H 5,jx a0 A H 5)).2.2:=by rw[←e2]
   rw[ceF,←hd,e3,e4,e1,hA1,hH1,hv]
  have fin:∀xs ys,ceF a0=((bs,ms,A,H),xs,ys)→V.tup [V.agg [V.slc false 68 (V.agg [V.slc false 2 (V.int IntKind.i64 0) []]) vb,V.slc false 30 (V.slc false 2 (V.int IntKind.i64 0) []) vm],
   V.agg [V.slc false 68 (V.agg [V.slc false 2 (V.int IntKind.i64 0) []]) (BB false xs),V.slc false 30 (V.slc false 2 (V.int IntKind.i64 0) []) (II false ys)]]=rr:=by
   intro xs ys e
   rw[hr,zo2,e,hvb,hvm]
  have fdr:∀a h,yi a0 a h→V.frzs (YH a0 a h).1=BB false (ur (YH a0 a h).1)∧V.frzs (YH a0 a h).2.1=II false (kw (YH a0 a h).2.1):=by
   intro a h hs
   obtain⟨⟨xs,ys,e1,e2,_⟩,_⟩:=zgg hs
   rw[e1,e2,zW,zO,yL,yF]
   exact⟨rfl,rfl⟩
  have Eo:zoZ a0 A1 H1 r=(I o,B,G):=by rw[zoZ,hr0,zC,←ho]
  have Ept:Yh vb vm (I o)=(BB true (partB bs o),II true (partM ms o)):=by rw[Yh,hvb,hvm,zW,zO,zq]
  have hdl:(partB bs o).length=bs.length:=by rw[kB,hpm.length_eq,qd]
  have hnl:(partM ms o).length=bs.length:=by rw[partM,yh,hpm.length_eq,qd]
  have hset2:∀(X:List (List Int)) (j:Nat) (l:List Int),(II true X).set j (.slc true 2 (.int .i64 0) (I l))=II true (X.set j l):=fun X j l=>by rw[II,II,Ym]
  have hg1:∀l,((partM ms o).set 0 l).getD 1 []=(partM ms o).getD 1 []:=fun l=>by
   rw[zd,Zu (by decide),←zd]
  have hrow:∀j,j<bs.length→((partM ms o).getD j []).length=bs.length:=fun j hj=>by
   refine(zx0 (ms:=ms) (l:=o) ?_).trans (by rw[hpm.length_eq,qd])
   rw[zd,ze (by omega)]
   exact ya _
  simp only[zp hL,sQ,hfr,Es,hvl,←hr0,fvb,fvm,Eis,←hv,←hA1,←hH1,Eo,Ept,yL,yF,yK,yk,hdl,hnl,qB,KY,hset2,hg1,yj]
  refine⟨hq,s0,hqC,fun hc=>⟨hc,hs,fun h2=>⟨s1,?_⟩,fun h2=>⟨⟨s1,by omega,by omega⟩,?_,zaL _,Kt _,sB,fun h3=>?_,fun h3=>?_⟩⟩,fun hc=>⟨fun h2=>⟨hs,?_⟩,fun h2=>?_⟩⟩
  ·rw[if_neg (fun h=>by rcases h2 with h2|h2<;>simp_all),if_pos hc]at hce
   rw[(fdr A1 H1 s1).1,(fdr A1 H1 s1).2]
   exact fin _ _ hce
  ·refine⟨⟨hqC,by rw[hvb,hvm,zW,zO];exact Zm.1 hc⟩,o,rfl,fun k hk=>?_,by rw[hpm.length_eq,qd];omega⟩
   have:=Jl.1 (hpm.mem_iff.1 (show o.getD k 0∈o by
    rw[zd,ze hk]
    exact ya _))
   rw[hvl]
   exact this
  ·rw[if_pos h2,if_pos (by omega)]at hce
   have r0:=hrow 0 (by omega)
   have r1:=hrow 1 (by omega)
   iterate 40 try refine⟨by omega,?_⟩
   simp only[setM,show(0:Int).toNat=0 from rfl,show(1:Int).toNat=1 from rfl,hg1]at hce
   exact fin _ _ hce
  ·rw[if_pos h2,if_neg (by omega)]at hce
   exact fin _ _ hce
  ·rw[if_neg (fun h=>by rw[hc]at h;cases h.1),if_neg (by rw[hc];decide)]at hce
   rw[(fdr A H hs).1,(fdr A H hs).2]
   exact fin _ _ hce
  ·rw[hc]at h2;cases h2.1
 ·cases h
end Go.Ax
namespace Go.Ax
open Go.Proofs Go.Sort Go.RowKit
theorem zCw(d:List Int)(i k:Nat):(npS d i k).length=d.length:=by rw[npS,yj,yj]
theorem zwo(d:List Int):(uH d).length=d.length:=by
 rw[uH,zbl]
 cases npI d (d.length-1)with
 |zero=>rfl
 |succ j=>
  show(npR _ _).length=_
  rw[npR,zk,List.length_reverse,zL,yx,zCw]
  omega
def zg9(a:List V):List V:=I (uH (qb a))
def zjj(a:List V):Bool:=Ky (qb a)
def zxM(a:List V):Prop:=∃xs,a=I xs∧1≤xs.length∧xs.length≤1000
def zsn(f0:List V→Bool)(f1:List V→List V)(q:List V→Prop):jz:=fun
 |[.slc true 2 (.int .i64 0) a0]=>some ([q a0],.bool (f0 a0),.slc true 2 (.int .i64 0) (f1 a0))
 |_=>none
theorem zyV:zcY Tryz.prog 34 0 (zsn zjj zg9 zxM):=by
 intro args ps r y h hp
 unfold zsn at h
 split at h
 ·rename_i a0
  simp only[za,zb]at h
  obtain⟨rfl,rfl,rfl⟩:=h
  obtain⟨xs,hxs,hx1,hx2⟩:zxM a0:=(zl.1 hp).1
  have hxl:a0.length=xs.length:=by rw[hxs,zj]
  have hf1:zg9 a0=I (uH xs):=by rw[zg9,hxs,zq]
  have hf0:zjj a0=Ky xs:=by rw[zjj,hxs,zq]
  refine⟨⟨_,Tryz.func34,by kernel_rfl,rfl⟩,⟨_,rfl,by rw[hxs,zg9,zq];exact Sh.ints (zwo xs).symm,fun h=>absurd h (by decide)⟩,fun yg w F Oj css hsz hv hF hO=>?_⟩
  obtain⟨hreg,hrep⟩:=hv 0 _ rfl
  rw[if_pos rfl]at hrep
  have hvs:yg= #[yg.getD 0 undef]:=by
   apply Array.ext
   ·simpa using hsz
   ·intro i h1 h2
    have:i=0:=by simp at h2;omega
    subst this
    simp[Array.getD,show 0<yg.size by omega]
  have hreg':yg.getD 0 undef=(css 0).headD undef:=hreg
  show Calls _ _ _ _ fun e w'=>∃(v:Value) (cs:List Value) (On Fr Xn:Nat→Prop),_∧_∧_∧V.reg _ (css 0) (yg.getD 0 undef)∧Rep _ _ _ _ (css 0) Xn∧_
  generalize css 0=cs0 at*
  generalize yg.getD 0 undef=v0 at*
  cases hrep with
  |own0=>
   exfalso
   have h9:=congrArg List.length hxs
   rw[zj]at h9
   simp at h9
   omega
  |own e d es b len cap cur cs Os O hb hcz hln hc hm hOb hOs hdis hcs hr=>
   have hv0:v0=.slice (some ⟨b,0,none⟩) len cap:=hreg'
   have hbs:b<w.heap.size:=(Array.getElem?_eq_some_iff.1 hb).1
   have hce: Tryz.prog.cellsOf 2 =1:=cz1
   have hcell:∀i,i<xs.length→cs i=[.int .i64 (xs.getD i 0)]:=fun i hi=>by
    refine zv9 (hr i _ ?_)
    rw[hxs,I,zH,ze hi,zd,ze hi]
    rfl
   have hH:Go.Sort.Holds (Value.int .i64) w b 0 xs.toArray:=fun j hj=>by
    have hj':j<xs.length:=by simpa using hj
    refine⟨?_,?_⟩
    ·have h1:=(hcs j (by omega)).2 0 (.int .i64 (xs.getD j 0)) (by rw[hcell j hj'];rfl)
     rw[hce]at h1
     rw[show(0:Nat)+j=j*1+0 by omega,h1]
     refine congrArg (fun z=>some (Value.int .i64 z)) ?_
     exact(zsa hj').symm
    ·simp[World.frozen?,hb]
   have hlx:len=xs.length:=by rw[hln,hxl]
   rw[hvs,hv0,hlx]
   refine(zCt b 0 cap xs w hH hx1 hx2 (by omega)).mono ?_
   rintro e1 w' ⟨rfl,q,k2⟩
   obtain⟨ys,hys⟩:∃ys,ys=uH xs:=⟨_,rfl⟩
   have hyl:ys.length=xs.length:=by rw[hys,zwo]
   rw[←hys]at k2
   have hH2:=holds_putRow (Value.int .i64) (Sort.ahead w q) b 0 xs.toArray ys.toArray hH (by simp[hyl])
   have hb2:w'.heap[b]? =some (.cells (putCells (Value.int .i64) 0 ys.toArray cur) 2 (0,0)):=by
    rw[k2]
    exact zmy (w:=Sort.ahead w q) hb _
   refine⟨.bool (Ky xs),[.bool (Ky xs)],fun _=>False,fun _=>False,fun x=>x=b,rfl,by rw[hf0];rfl,by rw[hf0];exact .bool _ _,?_,?_,?_⟩
   ·rw[hlx]at hv0
    exact rfl
   ·rw[hf1,←hys,←hlx]
    refine .own _ _ _ b _ cap (putCells (Value.int .i64) 0 ys.toArray cur) (fun i=>[.int .i64 (ys.getD i 0)]) (fun _ _=>False) _ hb2 ?_ (by rw[zj];omega) (by rw[zj];omega) hm rfl (fun _ _ h=>h.elim) (fun _ _ _ _ h=>h.elim) (fun i hi=>?_) (fun i x hx=>?_) (fun h=>by cases h)
    ·rw[putCells,Array.size_mapIdx];exact hcz
    ·rw[zj]at hi
     refine⟨by rw[hce];rfl,fun k v hk=>?_⟩
     cases k with
     |succ k=>simp at hk
     |zero=>
      simp only[List.getElem?_cons_zero,za]at hk
      subst hk
      have h1:=(hH2 i (by simpa using hi)).1
      rw[hce,k2,show i*1+0=0+i by omega,h1]
      refine congrArg (fun z=>some (Value.int .i64 z)) ?_
      exact zsa hi
    ·rw[I,zH]at hx
     cases hyi:ys[i]? with
     |none=>rw[hyi]at hx;cases hx
     |some z=>
      rw[hyi]at hx
      simp only[Option.map_some,za]at hx
      subst hx
      rw[zd,hyi]
      exact .int _ _ _
   ·refine⟨by rw[k2,Go.Sort.size_putRow];exact zt _,by rw[k2];rfl,by rw[k2];rfl,by rw[k2];exact⟨rfl,Nat.le_add_right _ _⟩,fun k hk hx=>?_,fun b hb=>hb.elim False.elim False.elim,fun x hx=>.inl (by rw[hx];exact hOb),fun b hb=>hb.elim,fun b hb=>⟨fun h=>h,fun h=>h⟩,fun _ k off u hx hu hcu=>?_⟩
    ·rw[k2,zh3 (fun h=>hx (by rw[h];exact hOb))]
     rfl
    ·rw[k2,cell?_putRow_other]
     ·exact hcu
     ·by_cases hkb:k=b
      ·by_cases hof:off<xs.length
       ·exfalso
        have h1:=(hH off (by simpa using hof)).1
        rw[hkb]at hcu
        rw[show(0:Nat)+off=off by omega]at h1
        rw[h1]at hcu
        simp only[za]at hcu
        rw[←hcu]at hu
        simp[QA]at hu
       ·refine .inr (.inr ?_)
        simp only[List.size_toArray]
        omega
      ·exact .inl hkb
 ·cases h
end Go.Ax
namespace Go.Ax
open Go.Proofs
theorem zmY:yT Tryz.prog 103 (zyu zkI zjx):=by
 intro args ps r h hp
 unfold zyu at h
 split at h
 ·rename_i a0
  simp only[za,zb]at h
  obtain⟨rfl,rfl⟩:=h
  obtain⟨xss,hes,hl1,hl2⟩:zjx a0:=(zl.1 hp).1
  have hel:a0.length=xss.length:=by rw[hes,yk]
  have hf0:zkI a0=II true xss:=by rw[zkI,hes,zO]
  have g0:V.frzs a0=a0:=by rw[hes,yF]
  have ges:∀k,a0.getD k (.slc false 2 (.int .i64 0) [])=.slc false 2 (.int .i64 0) (I (xss.getD k [])):=fun k=>by rw[hes,qB]
  obtain⟨n,hn⟩:∃n:Int,n=xss.length:=⟨_,rfl⟩
  generalize qu:same=jB
  generalize yv:jU=qA
  refine zD (T:=tab) (B:=[(75,jJ jB qA)]) (Bi:=[]) [0,2,3,5,9,10,11] Tryz.func103 rfl rfl (by kernel_rfl) (zg rfl) zP zQ (by subst qu yv;exact(zm zpP zy)) (by subst qu yv;exact zu) (by kernel_rfl) ?_
  intro L lp rr hL hr hf hlp
  have Es:∀xs:List Int,jB (I xs)=I xs:=fun xs=>by rw[←qu,same]
  conv=>cbv
  simp only[zp hL,sQ,g0,hel,←hn]
  refine⟨by omega,by omega,by omega,?_⟩
  refine hlp (List V×Int) _ _ _ [3,9,10,11] (fun x=>[(3,none,.val (.slc true 30 (.slc true 2 (.int .i64 0) []) x.1)),(9,none,.val (.slc false 30 (.slc false 2 (.int .i64 0) []) a0)),(10,none,.val (.int .i64 n)),(11,none,.val (.int .i64 x.2))])
   (fun x=>0≤x.2∧x.2≤n∧x.1=II true (xss.take x.2.toNat)) (fun x=>(n-x.2).toNat) (([],0)) (by subst hL;rw[hn,←hel];rfl) ?_ ?_
  ·exact⟨by simp,by simp only;omega,rfl⟩
  rintro⟨os,i⟩ ⟨i0,i1,hI⟩ hfx ag hag
  simp only at i0 i1 hI
  have hol:os.length=i.toNat:=by rw[hI,yk,zL];omega
  conv=>cbv
  simp only[zp hL,sQ,hel,ges,Es]
  refine⟨fun h2=>?_,fun h2=>?_⟩
  ·have hin:i.toNat<xss.length:=by omega
   have hm:=zag hin
   rw[zo (n:=i+1) (by omega) (by omega)]
   refine⟨i0,by omega,by rw[←yv];exact⟨⟨_,rfl⟩,by rw[zj];exact hl2 _ hm⟩,by simp only[zi,zr];omega,jZ (by simp[V.solid]),?_⟩
   refine hag (_,i+1) ⟨by simp only;omega,by simp only;omega,?_⟩ (by simp only;omega)
   simp only[zU i0]
   rw[hI,zeG _ _ hin,ZH]
   rfl
  ·rw[hr,hf0,hI,zB (by omega)]
 ·cases h
end Go.Ax
namespace Go.Ax
open Go.Proofs
def zlF(n:Int):List V:=I (yq n.toNat)
def zsh(n:Int):Prop:=0≤n∧n≤1000000
def zpe(f:Int→List V)(q:Int→Prop):zN:=fun
 |[.int .i64 a0]=>some ([q a0],.slc true 2 (.int .i64 0) (f a0))
 |_=>none
theorem zmn:yT Tryz.prog 31 (zpe zlF zsh):=by
 intro args ps r h hp
 unfold zpe at h
 split at h
 ·rename_i m
  simp only[za,zb]at h
  obtain⟨rfl,rfl⟩:=h
  obtain⟨m0,m1⟩:zsh m:=(zl.1 hp).1
  refine zD (T:=tab) (B:=[]) (Bi:=[]) [0,2,3,4,6,7] Tryz.func31 rfl rfl (by kernel_rfl) (zg rfl) zP zQ (by exact zy) (by exact zu) (by kernel_rfl) ?_
  intro L lp rr hL hr hf hlp
  conv=>cbv
  refine hlp (List V×Int) _ _ _ [3,6,7] (fun x=>[(3,none,.val (.slc true 2 (.int .i64 0) x.1)),(6,none,.val (.int .i64 m)),(7,none,.val (.int .i64 x.2))])
   (fun x=>0≤x.2∧x.2≤m∧x.1=I (yq x.2.toNat)) (fun x=>(m-x.2).toNat) (([],0)) (by subst hL;rfl) ?_ ?_
  ·exact⟨by simp,m0,rfl⟩
  rintro⟨os,i⟩ ⟨i0,i1,hO⟩ hfx ag hag
  simp only at i0 i1 hO
  have hol:os.length=i.toNat:=by rw[hO,zj,qd]
  conv=>cbv
  simp only[zp hL,sQ,hol]
  rw[zo (n:=i+1) (by omega) (by omega)]
  refine⟨fun h2=>⟨rfl,by simp only[List.length_singleton];omega,yR _,?_⟩,fun h2=>?_⟩
  ·refine hag (_,i+1) ⟨by simp only;omega,by simp only;omega,?_⟩ (by simp only;omega)
   simp only[zU i0]
   rw[hO,show yq (i.toNat+1)=yq i.toNat++[((i.toNat:Nat):Int)]from Jj _ _,←qr,show((i.toNat:Nat):Int)=i by omega]
   rfl
  ·rw[hr,hO,zlF,show i.toNat=m.toNat by omega]
 ·cases h
structure KcP (bs ms:List (List Int)):Prop where
 b6:bs.length≤6
 m6:ms.length≤6
 bl:∀i,i<bs.length→(bs.getD i []).length≤1000
 ml:∀i,i<ms.length→(ms.getD i []).length≤6
def Jv(a b:List V):List V:=I (ud (ur a) (kw b))
def zgZ(a b:List V):Prop:=∃bs ms,a=BB false bs∧b=II false ms∧KcP bs ms
def zgo(f:List V→List V→List V)(q:List V→List V→Prop):zN:=fun
 |[.agg [.slc false 68 (.agg [.slc false 2 (.int .i64 0) []]) a0,.slc false 30 (.slc false 2 (.int .i64 0) []) a1]]=>some ([q a0 a1],.slc true 2 (.int .i64 0) (f a0 a1))
 |_=>none
def zcK(bs:List (List Int))(k:Nat):List Int:=zhB (bs.take k)
def zcC(ms:List (List Int))(k:Nat):List Int:=(ms.take k).flatten
theorem zkp{bs:List (List Int)}{k:Nat}(h:k<bs.length):zcK bs (k+1)=zcK bs k++[((bs.getD k []).length:Int)]++bs.getD k []:=by
 rw[zcK,zF h,zhB,kt,List.flatten_append,zd,ze h]
 simp[zcK,zhB]
theorem zf9{bs:List (List Int)}(hb:∀i,i<bs.length→(bs.getD i []).length≤1000):∀k,k≤bs.length→(zcK bs k).length≤k*1001
 |0,_=>by simp[zcK,zhB]
 |k+1,h=>by
  have h1:=zf9 hb k (by omega)
  have h2:=hb k (by omega)
  rw[zkp (by omega),zk,zk]
  simp only[zi,zr]
  omega
theorem zj7{ms:List (List Int)}{k:Nat}(h:k<ms.length):zcC ms (k+1)=zcC ms k++ms.getD k []:=by
 rw[zcC,zF h,List.flatten_append,zd,ze h]
 simp[zcC]
theorem zm0{ms:List (List Int)}(hb:∀i,i<ms.length→(ms.getD i []).length≤6):∀k,k≤ms.length→(zcC ms k).length≤k*6
 |0,_=>by simp[zcC]
 |k+1,h=>by
  have h1:=zm0 hb k (by omega)
  have h2:=hb k (by omega)
  rw[zj7 (by omega),zk]
  omega
theorem ztH(bs ms:List (List Int)):zcK bs bs.length++zcC ms ms.length=ud bs ms:=by
 rw[zcK,zcC,zb0,zb0,ud]
theorem zj1:yT Tryz.prog 30 (zgo Jv zgZ):=by
 intro args ps r h hp
 unfold zgo at h
 split at h
 ·rename_i a0 a1
  simp only[za,zb]at h
  obtain⟨rfl,rfl⟩:=h
  obtain⟨bs,ms,hbs,hms,hk⟩:zgZ a0 a1:=(zl.1 hp).1
  have g0:V.frzs a0=a0:=by rw[hbs,yL]
  have g1:V.frzs a1=a1:=by rw[hms,yF]
  have hbl:a0.length=bs.length:=by rw[hbs,yK]
  have hml:a1.length=ms.length:=by rw[hms,yk]
  have gb:∀k,a0.getD k (.agg [.slc false 2 (.int .i64 0) []])=.agg [.slc false 2 (.int .i64 0) (I (bs.getD k []))]:=fun k=>by rw[hbs,uo]
  have gm:∀k,a1.getD k (.slc false 2 (.int .i64 0) [])=.slc false 2 (.int .i64 0) (I (ms.getD k [])):=fun k=>by rw[hms,qB]
  have hf0:Jv a0 a1=I (zcK bs bs.length++zcC ms ms.length):=by rw[Jv,hbs,hms,zW,zO,ztH]
  obtain⟨n,hn⟩:∃n:Int,n=bs.length:=⟨_,rfl⟩
  obtain⟨m,hm⟩:∃m:Int,m=ms.length:=⟨_,rfl⟩
  have b6:=hk.b6
  have m6:=hk.m6
  refine zD (T:=tab) (B:=[]) (Bi:=[]) [0,1,2,3,5,7,10,11,12,28,29,30] Tryz.func30 rfl rfl (by kernel_rfl) (zg rfl) zP zQ (by exact zy) (by exact zu) (by kernel_rfl) ?_
  intro L lp rr hL hr hf hlp
  conv=>cbv
  simp only[zp hL,sQ,g0,g1]
  refine hlp (List V×Int) _ _ _ [1,3,10,11,12] (fun x=>[(1,none,.val (.box 27 (.agg [.slc false 68 (.agg [.slc false 2 (.int .i64 0) []]) a0,.slc false 30 (.slc false 2 (.int .i64 0) []) a1]))),(3,none,.val (.slc true 2 (.int .i64 0) x.1)),(10,none,.val (.slc false 68 (.agg [.slc false 2 (.int .i64 0) []]) a0)),(11,none,.val (.int .i64 n)),(12,none,.val (.int .i64 x.2))])
   (fun x=>0≤x.2∧x.2≤n∧x.1=I (zcK bs x.2.toNat)) (fun x=>(n-x.2).toNat) (([],0)) (by subst hL;rw[hn,←hbl];rfl) ?_ ?_
  ·exact⟨by simp,by simp only;omega,rfl⟩
  rintro⟨os,i⟩ ⟨i0,i1,hO⟩ hfx ag hag
  simp only at i0 i1 hO
  conv=>cbv
  simp only[zp hL,sQ,hbl,hml,gb,ut,uv]
  refine⟨fun h2=>?_,fun h2=>?_⟩
  ·have hin:i.toNat<bs.length:=by omega
   have l1:=zf9 hk.bl i.toNat (by omega)
   have l2:=hk.bl i.toNat hin
   have l3:os.length≤6006:=by rw[hO,zj];omega
   rw[zo (n:=i+1) (by omega) (by omega)]
   refine⟨i0,by omega,uk _ _ _,rfl,by first|omega|(simp only[zi,zr];omega),yR _,Ks _,by rw[zk];simp only[zi,zr];omega,JO _,?_⟩
   refine hag (_,i+1) ⟨by simp only;omega,by simp only;omega,?_⟩ (by simp only;omega)
   simp only[zU i0]
   rw[hO,zkp hin,←qr,←qr]
   rfl
  ·refine hlp (List V×Int) _ _ _ [3,28,29,30] (fun y=>[(3,none,.val (.slc true 2 (.int .i64 0) y.1)),(28,none,.val (.slc false 30 (.slc false 2 (.int .i64 0) []) a1)),(29,none,.val (.int .i64 m)),(30,none,.val (.int .i64 y.2))])
    (fun y=>0≤y.2∧y.2≤m∧y.1=I (zcK bs bs.length++zcC ms y.2.toNat)) (fun y=>(m-y.2).toNat) ((os,0)) (by subst hL;rw[hm,←hml];rfl) ?_ ?_
   ·refine⟨by simp,by simp only;omega,?_⟩
    simp only
    rw[hO,show i.toNat=bs.length by omega]
    simp[zcC]
   rintro⟨ks,j⟩ ⟨j0,j1,hK⟩ hfx2 ag2 hag2
   simp only at j0 j1 hK
   have l1:=zf9 hk.bl bs.length (zt _)
   conv=>cbv
   simp only[zp hL,sQ,hbl,hml,gm]
   refine⟨fun h3=>?_,fun h3=>?_⟩
   ·have hjm:j.toNat<ms.length:=by omega
    have l4:=zm0 hk.ml j.toNat (by omega)
    have l5:=hk.ml j.toNat hjm
    have l6:ks.length≤6100:=by rw[hK,zj,zk];omega
    rw[zo (n:=j+1) (by omega) (by omega)]
    refine⟨j0,by omega,Ks _,by omega,JO _,?_⟩
    refine hag2 (_,j+1) ⟨by simp only;omega,by simp only;omega,?_⟩ (by simp only;omega)
    simp only[zU j0]
    rw[hK,zj7 hjm,←qr,←yf,←qr,←qr]
   ·rw[hr,hf0,hK,show j.toNat=ms.length by omega]
 ·cases h
def zos(a b:List V):Prop:=∃bs ms,a=BB false bs∧b=II false ms∧KcP bs ms
def zh8(a b:List V):List V×List V:=(BB true (ur a),II true (kw b))
def zii(f:List V→List V→List V×List V)(q:List V→List V→Prop):zN:=fun
 |[.agg [.slc false 68 (.agg [.slc false 2 (.int .i64 0) []]) a0,.slc false 30 (.slc false 2 (.int .i64 0) []) a1]]=>some ([q a0 a1],.agg [.slc true 68 (.agg [.slc true 2 (.int .i64 0) []]) ((f a0 a1).1),.slc true 30 (.slc true 2 (.int .i64 0) []) ((f a0 a1).2)])
 |_=>none
theorem zmZ:yT Tryz.prog 71 (zii zh8 zos):=by
 intro args ps r h hp
 unfold zii at h
 split at h
 ·rename_i a0 a1
  simp only[za,zb]at h
  obtain⟨rfl,rfl⟩:=h
  obtain⟨bs,ms,hbs,hms,hk⟩:zos a0 a1:=(zl.1 hp).1
  have g0:V.frzs a0=a0:=by rw[hbs,yL]
  have g1:V.frzs a1=a1:=by rw[hms,yF]
  have hbl:a0.length=bs.length:=by rw[hbs,yK]
  have gb:∀k,a0.getD k (.agg [.slc false 2 (.int .i64 0) []])=.agg [.slc false 2 (.int .i64 0) (I (bs.getD k []))]:=fun k=>by rw[hbs,uo]
  have hf0:zh8 a0 a1=(BB true bs,II true ms):=by rw[zh8,hbs,hms,zW,zO]
  obtain⟨n,hn⟩:∃n:Int,n=bs.length:=⟨_,rfl⟩
  obtain⟨vm,hvm⟩:∃vm,vm=II true ms:=⟨_,rfl⟩
  have b6:=hk.b6
  have hqm:zjx a1:=⟨ms,hms,by have:=hk.m6;omega,fun e he=>by
   obtain⟨i,hi,rfl⟩:=qk.1 he
   have:=hk.ml i hi
   rw[zd,ze hi]at this
   have h2:ms[i].length≤6:=this
   omega⟩
  generalize qu:same=jB
  generalize yv:jU=qA
  generalize znQ:zkI=zvp
  generalize zrc:zjx=zDn
  refine zD (T:=tab) (B:=[(66,zhf jB qA),(103,zyu zvp zDn)]) (Bi:=[]) [2000005021,0,1,2,3,5,12,13,14] Tryz.func71 rfl rfl (by kernel_rfl) (zg rfl) zP zQ (by subst qu yv znQ zrc;exact(zm zeU (zm zmY zy))) (by subst qu yv znQ zrc;exact zu) (by kernel_rfl) ?_
  intro L lp rr hL hr hf hlp
  have qcp:∀x:List Int,x.length≤1000→qA (I x):=fun x hx=>by rw[←yv];exact⟨⟨_,rfl⟩,by rw[zj];omega⟩
  have ecp:∀x,jB (I x)=I x:=fun x=>by rw[←qu];rfl
  have Em:zvp a1=vm:=by rw[←znQ,zkI,hms,zO,hvm]
  conv=>cbv
  simp only[zp hL,sQ,g0,g1,Em]
  refine⟨by rw[←zrc];exact hqm,?_⟩
  refine hlp (List V×Int) _ _ _ [1,2,3,12,13,14] (fun x=>[(1,none,.val (.box 27 (.agg [.slc false 68 (.agg [.slc false 2 (.int .i64 0) []]) a0,.slc false 30 (.slc false 2 (.int .i64 0) []) a1]))),(2,none,.val (.box 27 (.agg [.slc true 68 (.agg [.slc true 2 (.int .i64 0) []]) [],.slc true 30 (.slc true 2 (.int .i64 0) []) []]))),(3,none,.val (.box 27 (.agg [.slc true 68 (.agg [.slc true 2 (.int .i64 0) []]) x.1,.slc true 30 (.slc true 2 (.int .i64 0) []) vm]))),(12,none,.val (.slc false 68 (.agg [.slc false 2 (.int .i64 0) []]) a0)),(13,none,.val (.int .i64 n)),(14,none,.val (.int .i64 x.2))])
   (fun x=>0≤x.2∧x.2≤n∧x.1=BB true (bs.take x.2.toNat)) (fun x=>(n-x.2).toNat) (([],0)) (by subst hL;rw[hn,←hbl];rfl) ?_ ?_
  ·exact⟨by simp,by simp only;omega,rfl⟩
  rintro⟨fs,i⟩ ⟨i0,i1,hF⟩ hfx ag hag
  simp only at i0 i1 hF
  have hfl:fs.length≤6:=by rw[hF,yK,zL];omega
  conv=>cbv
  simp only[zp hL,sQ,hbl,gb,ut,uv,ecp]
  refine⟨fun h2=>?_,fun h2=>?_⟩
  ·have hin:i.toNat<bs.length:=by omega
   rw[zo (n:=i+1) (by omega) (by omega)]
   refine⟨i0,by omega,uk _ _ _,qcp _ (hk.bl _ hin),by first|omega|(simp only[zi,zr];omega),jZ (by simp[V.solid,V.solids]),?_⟩
   refine hag (_,i+1) ⟨by simp only;omega,by simp only;omega,?_⟩ (by simp only;omega)
   simp only[zU i0]
   rw[hF,show bs.take (i.toNat+1)=bs.take i.toNat++[bs.getD i.toNat []] by rw[zF hin,zd,ze hin];rfl,BB,BB,kt]
   rfl
  ·rw[hr,hf0,hF,hvm,show i.toNat=bs.length by omega,zb0]
 ·cases h
end Go.Ax
namespace Go.Ax
open Go.Proofs
theorem zBZ{bs ms:List (List Int)}(h:CvP bs ms):KcP bs ms where
 b6:=h.n6
 m6:=by have:=h.tab.len;have:=h.n6;omega
 bl:=fun i hi=>by have:=(YI (h.br i hi)).len;omega
 ml:=fun i hi=>by
  have h1:=h.tab.len
  have h2:=(h.tab.row i (by omega)).1
  have:=h.n6
  omega
theorem zly{bs ms:List (List Int)}(h:CvP bs ms){q:List Int}(hq:q.Perm (yq bs.length)):KcP (partB bs q) (partM ms q) where
 b6:=by rw[kB,hq.length_eq,qd];exact h.n6
 m6:=by rw[ub,hq.length_eq,qd];exact h.n6
 bl:=fun i hi=>by
  rw[kB]at hi
  rw[zac hi]
  obtain⟨hp,hl⟩:=ul hq
  have h1:=hp.inr i hi
  rw[hl]at h1
  have:=(YI (h.br (q.getD i 0).toNat (by omega))).len
  omega
 ml:=fun i hi=>by
  have h1:((partM ms q).getD i []).length=q.length:=by
   refine ZE (ms:=ms) (l:=q) ?_
   rw[zd,ze hi]
   exact ya _
  rw[h1,hq.length_eq,qd]
  exact h.n6
theorem zm4{n:Nat}{q:List Int}(h:q.Perm (yq n)):(qj q).Perm (yq n):=by
 obtain⟨k1,k2⟩:=ul h
 exact zhX (zfs k1) (by rw[uu,k2])
def Kl(a b c d:List V):List Int:=kh (ZQ (ur a) (kw b) (ur c) (kw d)) a.length a.length []
noncomputable def zbM(a b c d:List V):List V×Int:=bif yB a b&&yB c d then(bif decide (a.length=c.length)then(bif (Kl a b c d).isEmpty then([],4)else(I (Kl a b c d),0))else([],4))else([],1)
def zs8(a b c d:List V):Prop:=uj a b∧uj c d
def zfB(f:List V→List V→List V→List V→List V×Int)(q:List V→List V→List V→List V→Prop):zN:=fun
 |[.agg [.slc false 68 (.agg [.slc false 2 (.int .i64 0) []]) a0,.slc false 30 (.slc false 2 (.int .i64 0) []) a1],.agg [.slc false 68 (.agg [.slc false 2 (.int .i64 0) []]) a2,.slc false 30 (.slc false 2 (.int .i64 0) []) a3]]=>some ([q a0 a1 a2 a3],.tup [.slc true 2 (.int .i64 0) ((f a0 a1 a2 a3).1),.int .i64 ((f a0 a1 a2 a3).2)])
 |_=>none
theorem zkM{a b c d:List V}(h:yB a b=false∨yB c d=false):zbM a b c d=([],1):=by
 rw[zbM]
 rcases h with h|h
 ·rw[h];rfl
 ·rw[h,Bool.and_false];rfl
theorem zkL{a b c d:List V}(h:yB a b=true)(h2:yB c d=true)(h3:a.length≠c.length):zbM a b c d=([],4):=by
 rw[zbM,h,h2,decide_eq_false h3];rfl
theorem zhb{a b c d:List V}(h:yB a b=true)(h2:yB c d=true)(h3:a.length=c.length):zbM a b c d=bif (Kl a b c d).isEmpty then([],4)else(I (Kl a b c d),0):=by
 rw[zbM,h,h2,decide_eq_true h3];rfl
theorem ziM:yT Tryz.prog 6 (zfB zbM zs8):=by
 intro args ps r h hp
 unfold zfB at h
 split at h
 ·rename_i a0 a1 a2 a3
  simp only[za,zb]at h
  obtain⟨rfl,rfl⟩:=h
  obtain⟨hqa,hqb⟩:zs8 a0 a1 a2 a3:=(zl.1 hp).1
  have g0:=uV hqa.1.isBB
  have g1:=uU hqa.2.isII
  have g2:=uV hqb.1.isBB
  have g3:=uU hqb.2.isII
  obtain⟨⟨bs,hbs,hb1,hb2⟩,⟨ms,hms,hm1,hm2⟩⟩:=id hqa
  obtain⟨⟨ds,hds,hd1,hd2⟩,⟨ns,hns,hn1,hn2⟩⟩:=id hqb
  have hbl:a0.length=bs.length:=by rw[hbs,yK]
  have hdl:a2.length=ds.length:=by rw[hds,yK]
  obtain⟨n,hn⟩:∃n:Int,n=bs.length:=⟨_,rfl⟩
  have hkd:Jv a2 a3=I (ud ds ns):=by rw[Jv,hds,hns,zW,zO]
  have hqkd:yB a2 a3=true→zgZ a2 a3:=fun h=>⟨ds,ns,hds,hns,zBZ (by rw[yB,hds,hns,zW,zO]at h;exact Zm.1 h)⟩
  have hcv1:yB a0 a1=true→CvP bs ms:=fun h=>by rw[yB,hbs,hms,zW,zO]at h;exact Zm.1 h
  have hcv2:yB a2 a3=true→CvP ds ns:=fun h=>by rw[yB,hds,hns,zW,zO]at h;exact Zm.1 h
  have hfm:Kl a0 a1 a2 a3=kh (ZQ bs ms ds ns) bs.length bs.length []:=by rw[Kl,hbl,hbs,hms,hds,hns,zW,zO,zW,zO]
  have hrn:∀p:List Int,za2 a0 a1 (I p)=(BB true (partB bs (qj p)),II true (partM ms (qj p))):=fun p=>by rw[za2,Yh,hbs,hms,zq,zq,zW,zO]
  have hfr:∀p:List Int,Jv (BB false (partB bs (qj p))) (II false (partM ms (qj p)))=I (kP bs ms (qj p)):=fun p=>by rw[Jv,zW,zO,kP]
  generalize zY:yB=ji
  generalize qf:uj=jR
  generalize YO:Jv=YP
  generalize Yt:zgZ=zio
  generalize zdO:zlF=ziy
  generalize zdE:zsh=zrd
  generalize JS:za2=za4
  generalize JQ:zsf=zin
  generalize kQ:Yi=Zw
  generalize kq:zbU=Qy
  generalize zdM:zjj=zdS
  generalize zdL:zg9=zdR
  generalize zgD:zxM=zve
  refine zD (T:=tab) (B:=[(29,Jc ji jR),(30,zgo YP zio),(31,zpe ziy zrd),(33,zbx za4 zin),(32,Yj Zw Qy)]) (Bi:=[(34,0,false,zsn zdS zdR zve)]) [0,1,2,3,4,5,6,7] Tryz.func6 rfl rfl (by kernel_rfl) (zg rfl) zP zQ (by subst zY qf YO Yt zdO zdE JS JQ kQ kq zdM zdL zgD;exact(zm uT (zm zj1 (zm zmn (zm za9 (zm zjI zy)))))) (by subst zY qf YO Yt zdO zdE JS JQ kQ kq zdM zdL zgD;exact(qg zyV zu)) (by kernel_rfl) ?_
  intro L lp rr hL hr hf hlp
  have Ek:YP a2 a3=I (ud ds ns):=by rw[←YO,hkd]
  have Ef:ziy n=I (yq bs.length):=by rw[←zdO,zlF,hn,zC]
  have Er:∀p:List Int,za4 a0 a1 (I p)=(BB true (partB bs (qj p)),II true (partM ms (qj p))):=fun p=>by rw[←JS,hrn]
  have Ekr:∀p:List Int,YP (BB false (partB bs (qj p))) (II false (partM ms (qj p)))=I (kP bs ms (qj p)):=fun p=>by rw[←YO,hfr]
  have Ee:∀u v:List Int,Zw (I u) (I v)=decide (u=v):=fun u v=>by rw[←kQ,Yi,zq,zq]
  have E0:∀p:List Int,zdS (I p)=Ky p:=fun p=>by rw[←zdM,zjj,zq]
  have E1:∀p:List Int,zdR (I p)=I (uH p):=fun p=>by rw[←zdL,zg9,zq]
  obtain⟨wv,hwv⟩:∃wv,wv=I (ud ds ns):=⟨_,rfl⟩
  obtain⟨is0,his0⟩:∃is0,is0=I (yq bs.length):=⟨_,rfl⟩
  rw[←hwv]at Ek
  rw[←his0]at Ef
  conv=>cbv
  simp only[zp hL,sQ,g0,g1,g2,g3,hbl,hdl,←hn,Ek,Ef]
  have hm1l:∀p:List Int,p.Perm (yq bs.length)→p.length=bs.length:=fun p h=>by rw[h.length_eq,qd]
  refine⟨by rw[←qf];exact hqa,fun _=>by rw[←qf];exact hqb,fun h=>?_,fun h=>⟨fun h2=>?_,fun h2=>⟨?_,?_,?_⟩⟩⟩
  ·rw[hr,zkM (by rw[zY];exact h)]
  ·obtain⟨k1,k2⟩:=h
   rw[hr,zkL (by rw[zY];exact k1) (by rw[zY];exact k2) (by rw[hbl,hdl];omega)]
  ·rw[←Yt]
   exact hqkd (by rw[zY];exact h.2)
  ·rw[←zdE]
   exact⟨by omega,by rw[hn];have:=(hcv1 (by rw[zY];exact h.1)).n6;omega⟩
  have k1:yB a0 a1=true:=by rw[zY];exact h.1
  have k2:yB a2 a3=true:=by rw[zY];exact h.2
  have v1:=hcv1 k1
  have v2:=hcv2 k2
  have hnd:ds.length=bs.length:=by omega
  have n1:=v1.n1
  have n6:=v1.n6
  have hfy:=zhb k1 k2 (by rw[hbl,hdl,hnd])
  rw[hfm]at hfy
  have v2t:=v2.tab
  rw[hnd]at v2t
  refine hlp (List V) _ _ _ [2,6,7] (fun x=>[(2,none,.val (.box 27 (.agg [.slc false 68 (.agg [.slc false 2 (.int .i64 0) []]) a0,.slc false 30 (.slc false 2 (.int .i64 0) []) a1]))),(6,none,.val (.slc true 2 (.int .i64 0) wv)),(7,none,.val (.slc true 2 (.int .i64 0) x))])
   (fun x=>∃p:List Int,x=I p∧p.Perm (yq bs.length)∧∀q:List Int,q.Perm (yq bs.length)→yo q p=true→¬kP bs ms (qj q)=ud ds ns) (fun x=>zeb bs.length (qb x)) (is0) (by subst hL;rfl) ?_ ?_
  ·refine⟨yq bs.length,his0,.refl _,fun q hq h=>?_⟩
   rw[zoP hq]at h
   cases h
  rintro os ⟨p,hO,hpp,hlt⟩ hfx ag hag
  have hpl:=hm1l p hpp
  obtain⟨pm,_⟩:=ul hpp
  have gO:V.frzs os=os:=by rw[hO,zG]
  have gW:V.frzs wv=wv:=by rw[hwv,zG]
  obtain⟨fs,hfs⟩:∃fs,fs=BB true (partB bs (qj p)):=⟨_,rfl⟩
  obtain⟨gs,hgs⟩:∃gs,gs=II true (partM ms (qj p)):=⟨_,rfl⟩
  obtain⟨kv,hkv⟩:∃kv,kv=I (kP bs ms (qj p)):=⟨_,rfl⟩
  obtain⟨os',hos'⟩:∃os',os'=I (uH p):=⟨_,rfl⟩
  have Er':za4 a0 a1 os=(fs,gs):=by rw[hO,Er,hfs,hgs]
  have Ek':YP (V.frzs fs) (V.frzs gs)=kv:=by rw[hfs,hgs,yL,yF,Ekr,hkv]
  have gK:V.frzs kv=kv:=by rw[hkv,zG]
  have Ee':Zw kv wv=decide (kP bs ms (qj p)=ud ds ns):=by rw[hkv,hwv,Ee]
  have E0':zdS os=Ky p:=by rw[hO,E0]
  have E1':zdR os=os':=by rw[hO,E1,hos']
  conv=>cbv
  simp only[zp hL,sQ,g0,g1,gO,gW,gK,Er',Ek',Ee',E0',E1']
  refine⟨?_,by rw[hfs];exact zaL _,by rw[hgs];exact Kt _,?_,by rw[hkv];exact JP _,?_,fun he=>?_,fun he=>⟨?_,fun hb=>?_,fun hb=>?_⟩⟩
  ·rw[←JQ]
   refine⟨⟨hqa,by rw[hbs,hms,zW,zO];exact v1⟩,p,hO,pm,by rw[hbl];exact hpl⟩
  ·rw[←Yt]
   exact⟨_,_,by rw[hfs,yL],by rw[hgs,yF],zly v1 (zm4 hpp)⟩
  ·rw[←kq]
   exact⟨⟨_,hkv⟩,⟨_,hwv⟩⟩
  ·have hm:=zAT rfl hnd v1.tab v2t n1 hpp hlt he
   have hne:p.isEmpty=false:=by
    cases p with
    |nil=>simp at hpl;omega
    |cons _ _=>rfl
   rw[hr,hfy,hm,hne,hO]
   rfl
  ·rw[←zgD]
   exact⟨p,hO,by omega,by omega⟩
  ·have hm:=zCB rfl hnd v1.tab v2t n1 hpp (fun q hq h=>by
    rcases h with h|rfl
    ·exact hlt q hq h
    ·exact he) hb
   rw[hr,hfy,hm]
   rfl
  ·refine hag os' ⟨uH p,hos',zlx hpp hb,fun q hq h=>?_⟩ ?_
   ·rcases (zlw hpp hb hq).1 h with h|rfl
    ·exact hlt q hq h
    ·exact he
   ·rw[hos',hO,zq,zq]
    exact zrm hpp hb
 ·cases h
end Go.Ax
namespace Go.Ax
open Go.Proofs
theorem zpB:yT Tryz.prog 74 (zgo Jv zgZ):=by
 intro args ps r h hp
 unfold zgo at h
 split at h
 ·rename_i a0 a1
  simp only[za,zb]at h
  obtain⟨rfl,rfl⟩:=h
  obtain⟨bs,ms,hbs,hms,hk⟩:zgZ a0 a1:=(zl.1 hp).1
  have g0:V.frzs a0=a0:=by rw[hbs,yL]
  have g1:V.frzs a1=a1:=by rw[hms,yF]
  have hbl:a0.length=bs.length:=by rw[hbs,yK]
  have hml:a1.length=ms.length:=by rw[hms,yk]
  have gb:∀k,a0.getD k (.agg [.slc false 2 (.int .i64 0) []])=.agg [.slc false 2 (.int .i64 0) (I (bs.getD k []))]:=fun k=>by rw[hbs,uo]
  have gm:∀k,a1.getD k (.slc false 2 (.int .i64 0) [])=.slc false 2 (.int .i64 0) (I (ms.getD k [])):=fun k=>by rw[hms,qB]
  have hf0:Jv a0 a1=I (zcK bs bs.length++zcC ms ms.length):=by rw[Jv,hbs,hms,zW,zO,ztH]
  obtain⟨n,hn⟩:∃n:Int,n=bs.length:=⟨_,rfl⟩
  obtain⟨m,hm⟩:∃m:Int,m=ms.length:=⟨_,rfl⟩
  have b6:=hk.b6
  have m6:=hk.m6
  refine zD (T:=tab) (B:=[]) (Bi:=[]) [0,1,2,3,4,5] Tryz.func74 rfl rfl (by kernel_rfl) (zg rfl) zP zQ (by exact zy) (by exact zu) (by kernel_rfl) ?_
  intro L lp rr hL hr hf hlp
  conv=>cbv
  refine hlp (List V×Int) _ _ _ [1,3,4] (fun x=>[(1,none,.val (.box 27 (.agg [.slc false 68 (.agg [.slc false 2 (.int .i64 0) []]) a0,.slc false 30 (.slc false 2 (.int .i64 0) []) a1]))),(3,none,.val (.slc true 2 (.int .i64 0) x.1)),(4,none,.val (.int .i64 x.2))])
   (fun x=>0≤x.2∧x.2≤n∧x.1=I (zcK bs x.2.toNat)) (fun x=>(n-x.2).toNat) (([],0)) (by subst hL;rfl) ?_ ?_
  ·exact⟨by simp,by simp only;omega,rfl⟩
  rintro⟨os,i⟩ ⟨i0,i1,hO⟩ hfx ag hag
  simp only at i0 i1 hO
  conv=>cbv
  simp only[zp hL,sQ,hbl,hml,gb,ut,uv]
  refine⟨fun h2=>?_,fun h2=>?_⟩
  ·have hin:i.toNat<bs.length:=by omega
   have l1:=zf9 hk.bl i.toNat (by omega)
   have l2:=hk.bl i.toNat hin
   have l3:os.length≤6006:=by rw[hO,zj];omega
   have hb:=uk false false (bs.getD i.toNat [])
   rw[zo (n:=i+1) (by omega) (by omega)]
   have hL1:∀x:Int,((os++[V.int .i64 x]).length:Int)=os.length+1:=fun x=>by rw[zk];rfl
   refine⟨i0,h2,hb,rfl,by first|omega|(simp only[zi,zr];omega),yR _,i0,h2,hb,Ks _,by rw[hL1];omega,JO _,?_⟩
   refine hag (_,i+1) ⟨by simp only;omega,by simp only;omega,?_⟩ (by simp only;omega)
   simp only[zU i0]
   rw[hO,zkp hin,←qr,←qr]
   rfl
  ·refine hlp (List V×Int) _ _ _ [1,3,5] (fun y=>[(1,none,.val (.box 27 (.agg [.slc false 68 (.agg [.slc false 2 (.int .i64 0) []]) a0,.slc false 30 (.slc false 2 (.int .i64 0) []) a1]))),(3,none,.val (.slc true 2 (.int .i64 0) y.1)),(5,none,.val (.int .i64 y.2))])
    (fun y=>0≤y.2∧y.2≤m∧y.1=I (zcK bs bs.length++zcC ms y.2.toNat)) (fun y=>(m-y.2).toNat) ((os,0)) (by subst hL;rfl) ?_ ?_
   ·refine⟨by simp,by simp only;omega,?_⟩
    simp only
    rw[hO,show i.toNat=bs.length by omega]
    simp[zcC]
   rintro⟨ks,j⟩ ⟨j0,j1,hK⟩ hfx2 ag2 hag2
   simp only at j0 j1 hK
   have l1:=zf9 hk.bl bs.length (zt _)
   conv=>cbv
   simp only[zp hL,sQ,hbl,hml,gm]
   refine⟨fun h3=>?_,fun h3=>?_⟩
   ·have hjm:j.toNat<ms.length:=by omega
    have l4:=zm0 hk.ml j.toNat (by omega)
    have l5:=hk.ml j.toNat hjm
    have l6:ks.length≤6100:=by rw[hK,zj,zk];omega
    rw[zo (n:=j+1) (by omega) (by omega)]
    refine⟨j0,by omega,Ks _,by omega,JO _,?_⟩
    refine hag2 (_,j+1) ⟨by simp only;omega,by simp only;omega,?_⟩ (by simp only;omega)
    simp only[zU j0]
    rw[hK,zj7 hjm,←qr,←yf,←qr,←qr]
   ·rw[hr,hf0,hK,show j.toNat=ms.length by omega]
 ·cases h
theorem zB0{bs ms:List (List Int)}(h:CvP bs ms){q:List Int}(hin:∀x∈q,0≤x∧x<bs.length)(hq:q.length≤6):KcP (partB bs q) (partM ms q) where
 b6:=by rw[kB];exact hq
 m6:=by rw[ub];exact hq
 bl:=fun i hi=>by
  rw[kB]at hi
  rw[zac hi]
  have h1:=hin (q.getD i 0) (by
   rw[zd,ze hi]
   exact ya _)
  have:=(YI (h.br (q.getD i 0).toNat (by omega))).len
  omega
 ml:=fun i hi=>by
  have h1:((partM ms q).getD i []).length=q.length:=by
   refine ZE (ms:=ms) (l:=q) ?_
   rw[zd,ze hi]
   exact ya _
  rw[h1];exact hq
theorem zrH{bs ms:List (List Int)}(h:CvP bs ms):∀(m:Nat) (p:List Int) (B:List (List Int)×List (List Int)),p.length+m=bs.length→(∀x∈p,0≤x∧x<bs.length)→KcP B.1 B.2→KcP (YC bs ms bs.length m p B).1 (YC bs ms bs.length m p B).2
 |0,p,B,hl,hin,hB=>by
  rw[YC]
  split
  ·exact zB0 h hin (by have:=h.n6;omega)
  ·exact hB
 |m+1,p,B,hl,hin,hB=>by
  have key:∀k,k≤bs.length→KcP (YS bs ms bs.length m p B k).1 (YS bs ms bs.length m p B k).2:=by
   intro k
   induction k with
   |zero=>exact fun _=>hB
   |succ k ih=>
    intro hk
    rw[zd0]
    split
    ·exact ih (by omega)
    ·refine zrH h m _ _ (by rw[zk];simp;omega) (fun x hx=>?_) (ih (by omega))
     rcases yU.1 hx with hx|hx
     ·exact hin x hx
     ·simp only[yp]at hx
      omega
  exact key bs.length (zt _)
theorem zkq{bs ms:List (List Int)}(h:CvP bs ms){m:Nat}{p:List Int}{B:List (List Int)×List (List Int)}(hl:p.length+(m+1)=bs.length)(hin:∀x∈p,0≤x∧x<bs.length)(hB:KcP B.1 B.2):∀k,k≤bs.length→KcP (YS bs ms bs.length m p B k).1 (YS bs ms bs.length m p B k).2
 |0,_=>hB
 |k+1,hk=>by
  rw[zd0]
  split
  ·exact zkq h hl hin hB k (by omega)
  ·refine zrH h m _ _ (by rw[zk];simp;omega) (fun x hx=>?_) (zkq h hl hin hB k (by omega))
   rcases yU.1 hx with hx|hx
   ·exact hin x hx
   ·simp only[yp]at hx
    omega
def zbK(a b c d l:List V):List V×List V:=(BB true (YC (ur a) (kw b) a.length (a.length-l.length) (qb l) (ur c,kw d)).1,II true (YC (ur a) (kw b) a.length (a.length-l.length) (qb l) (ur c,kw d)).2)
def ziR(m:Nat)(a b c d l:List V):Prop:=ZN a b∧(∃cs ks,c=BB true cs∧d=II true ks∧KcP cs ks)∧∃p,l=I p∧p.length+m=a.length∧∀x∈p,0≤x∧x<a.length
def zbu(f:List V→List V→List V→List V→List V→List V×List V)(q:List V→List V→List V→List V→List V→Prop):jz:=fun
 |[.agg [.slc false 68 (.agg [.slc false 2 (.int .i64 0) []]) a0,.slc false 30 (.slc false 2 (.int .i64 0) []) a1],.agg [.slc true 68 (.agg [.slc true 2 (.int .i64 0) []]) a2,.slc true 30 (.slc true 2 (.int .i64 0) []) a3],.slc false 2 (.int .i64 0) a4]=>some ([q a0 a1 a2 a3 a4],.agg [.slc true 68 (.agg [.slc true 2 (.int .i64 0) []]) ((f a0 a1 a2 a3 a4).1),.slc true 30 (.slc true 2 (.int .i64 0) []) ((f a0 a1 a2 a3 a4).2)],.hole 0)
 |_=>none
theorem zom(m:Nat)(qq:List V→List V→List V→List V→List V→Prop)(ih:zdC Tryz.prog 37 1 (zbu zbK qq))(hqq:∀m' a b c d l,m=m'+1→ziR m' a b c d l→qq a b c d l):zdC Tryz.prog 37 1 (zbu zbK (ziR m)):=by
 intro args ps r y h hp
 unfold zbu at h
 split at h
 ·rename_i a0 a1 a2 a3 a4
  simp only[za,zb]at h
  obtain⟨rfl,rfl,rfl⟩:=h
  obtain⟨hqa,⟨cs,ks,hcs,hks,hkc⟩,p,hP,hpm,hin⟩:ziR m a0 a1 a2 a3 a4:=(zl.1 hp).1
  obtain⟨⟨⟨bs,hbs,hb1,hb2⟩,⟨ms,hms,hm1,hm2⟩⟩,hv1⟩:=id hqa
  rw[hbs,hms,zW,zO]at hv1
  have g0:V.frzs a0=a0:=by rw[hbs,yL]
  have g1:V.frzs a1=a1:=by rw[hms,yF]
  have g4:V.frzs a4=a4:=by rw[hP,zG]
  have hbl:a0.length=bs.length:=by rw[hbs,yK]
  have hpl:a4.length=p.length:=by rw[hP,zj]
  rw[hbl]at hpm hin
  have hf0:zbK a0 a1 a2 a3 a4=(BB true (YC bs ms bs.length m p (cs,ks)).1,II true (YC bs ms bs.length m p (cs,ks)).2):=by
   rw[zbK,hbl,hpl,hbs,hms,hcs,hks,hP,zW,zO,zW,zO,zq,show bs.length-p.length=m by omega]
  obtain⟨n,hn⟩:∃n:Int,n=bs.length:=⟨_,rfl⟩
  obtain⟨pl,hpl2⟩:∃pl:Int,pl=p.length:=⟨_,rfl⟩
  have n1:=hv1.n1
  have n6:=hv1.n6
  have hpt:Yh a0 a1 a4=(BB true (partB bs p),II true (partM ms p)):=by rw[Yh,hbs,hms,hP,zW,zO,zq]
  obtain⟨ob,hob⟩:∃ob,ob=BB true (partB bs p):=⟨_,rfl⟩
  obtain⟨om,hom⟩:∃om,om=II true (partM ms p):=⟨_,rfl⟩
  obtain⟨k1,hk1⟩:∃k1,k1=I (kP bs ms p):=⟨_,rfl⟩
  obtain⟨k2,hk2⟩:∃k2,k2=I (ud cs ks):=⟨_,rfl⟩
  have gk1:V.frzs k1=k1:=by rw[hk1,zG]
  have gk2:V.frzs k2=k2:=by rw[hk2,zG]
  generalize JU:zha=zcn
  generalize ux:zdj=Qx
  generalize qu:same=jB
  generalize yv:jU=qA
  generalize Qq:Yh=zb5
  generalize Qf:zor=zgK
  generalize YO:Jv=YP
  generalize Yt:zgZ=zio
  generalize zlf:zh6=zr1
  generalize kq:zbU=Qy
  generalize KM:zbK=zix
  generalize znB:qq=zBC
  refine zp9 (T:=tab) (B:=[(68,zch zcn Qx),(70,jJ jB qA),(27,zbx zb5 zgK),(74,zgo YP zio),(73,Yj zr1 Qy)]) (Bi:=[(37,1,true,zbu zix zBC)]) 1 [2000010039,2000010041,2000010743,2000010996,0,1,2,3,4,6,7,8] Tryz.func37 rfl rfl (by kernel_rfl) (zg rfl) zP zQ (by subst JU ux qu yv Qq Qf YO Yt zlf kq KM znB;exact(zm zeI (zm Kw (zm zdc (zm zpB (zm zpJ zy)))))) (by subst JU ux qu yv Qq Qf YO Yt zlf kq KM znB;exact(zev ih zu)) (by kernel_rfl) (zg rfl) ?_
  intro L lp rr hL hr hf hlp
  have Ep:zb5 a0 a1 a4=(ob,om):=by rw[←Qq,hpt,hob,hom]
  have E1:YP (V.frzs ob) (V.frzs om)=k1:=by rw[←YO,Jv,hob,hom,yL,yF,zW,zO,hk1];rfl
  have E2:YP (V.frzs a2) (V.frzs a3)=k2:=by rw[←YO,Jv,hcs,hks,yL,yF,zW,zO,hk2]
  have El:zr1 k1 k2=yo (kP bs ms p) (ud cs ks):=by rw[←zlf,zh6,hk1,hk2,zq,zq]
  conv=>cbv
  simp only[zp hL,sQ,g0,g1,g4,hbl,hpl,←hn,←hpl2,Ep,E1,E2,gk1,gk2,El]
  have hkp:=zB0 hv1 hin (by omega)
  refine⟨fun h=>⟨?_,?_,by rw[hk1];exact JP _,?_,by rw[hk2];exact JP _,?_,fun h2=>?_,fun h2=>?_⟩,fun h=>?_⟩
  ·rw[←Qf]
   refine⟨hqa,p,hP,fun k hk=>?_,by omega⟩
   rw[hbl]
   refine hin _ ?_
   rw[zd,ze hk]
   exact ya _
  ·rw[←Yt]
   exact⟨_,_,by rw[hob,yL],by rw[hom,yF],hkp⟩
  ·rw[←Yt]
   exact⟨_,_,by rw[hcs,yL],by rw[hks,yF],hkc⟩
  ·rw[←kq]
   exact⟨⟨_,hk1⟩,⟨_,hk2⟩⟩
  ·rw[hr,←KM,hf0,show m=0 by omega,YC,if_pos h2,hob,hom]
  ·rw[hr,←KM,hf0,show m=0 by omega,YC,if_neg (by rw[h2];simp),hcs,hks]
  obtain⟨m',rfl⟩:∃m',m=m'+1:=⟨m-1,by omega⟩
  have Eh:∀x,zcn a4 x=p.contains x:=fun x=>by rw[←JU,zha,hP,zq]
  have Qh:∀x,Qx a4 x:=fun x=>by rw[←ux];exact⟨⟨p,hP⟩,by rw[hpl];omega⟩
  have Eo:jB a4=a4:=by rw[←qu];rfl
  have Qo:qA a4:=by rw[←yv];exact⟨⟨p,hP⟩,by rw[hpl];omega⟩
  refine hlp ((List V×List V)×Int) _ _ _ [2,3,4,6,8] (fun x=>[(2,none,.val (.slc false 2 (.int .i64 0) a4)),(3,none,.val (.box 27 (.agg [.slc false 68 (.agg [.slc false 2 (.int .i64 0) []]) a0,.slc false 30 (.slc false 2 (.int .i64 0) []) a1]))),(4,none,.val (.box 27 (.agg [.slc true 68 (.agg [.slc true 2 (.int .i64 0) []]) x.1.1,.slc true 30 (.slc true 2 (.int .i64 0) []) x.1.2]))),(6,none,.val (.box 27 (.agg [.slc true 68 (.agg [.slc true 2 (.int .i64 0) []]) [],.slc true 30 (.slc true 2 (.int .i64 0) []) []]))),(8,none,.val (.int .i64 x.2))])
   (fun x=>0≤x.2∧x.2≤n∧x.1.1=BB true (YS bs ms bs.length m' p (cs,ks) x.2.toNat).1∧x.1.2=II true (YS bs ms bs.length m' p (cs,ks) x.2.toNat).2) (fun x=>(n-x.2).toNat) (((a2,a3),0)) (by subst hL;rfl) ?_ ?_
  ·exact⟨by simp,by simp only;omega,hcs,hks⟩
  rintro⟨⟨fs,gs⟩,y⟩ ⟨y0,y1,hF,hG⟩ hfx ag hag
  simp only at y0 y1 hF hG
  conv=>cbv
  simp only[zp hL,sQ,g0,g1,g4,hbl,hpl,Eh]
  have hgo:=fun B:List (List Int)×List (List Int)=>zkq hv1 (m:=m') (p:=p) (B:=B) (by omega) hin
  have hLs:=zd0 bs ms bs.length m' p (cs,ks) y.toNat
  rw[show((y.toNat:Nat):Int)=y by omega]at hLs
  refine⟨fun h2=>⟨Qh y,fun h3=>?_,fun h3=>?_⟩,fun h2=>?_⟩
  ·have hkL:=hgo (cs,ks) hkc y.toNat (by omega)
   obtain⟨L,hLd⟩:∃L,L=YS bs ms bs.length m' p (cs,ks) y.toNat:=⟨_,rfl⟩
   rw[←hLd]at hF hG hkL hLs
   rw[if_neg (by rw[h3];simp)]at hLs
   have hap:V.frzs (jB a4++[V.int .i64 y])=I (p++[y]):=by rw[Eo,hP,show I p++[V.int .i64 y]=I (p++[y]) by rw[←qr];rfl,zG]
   rw[hap]
   have hq:ziR m' a0 a1 fs gs (I (p++[y])):=⟨hqa,⟨_,_,hF,hG,hkL⟩,_,rfl,by rw[zk,hbl];simp only[zi,zr];omega,fun x hx=>by
    rw[hbl]
    rcases yU.1 hx with hx|hx
    ·exact hin x hx
    ·simp only[yp]at hx
     omega⟩
   have hfr:zix a0 a1 fs gs (I (p++[y]))=(BB true (YS bs ms bs.length m' p (cs,ks) (y.toNat+1)).1,II true (YS bs ms bs.length m' p (cs,ks) (y.toNat+1)).2):=by
    rw[←KM,zbK,hbl,zj,zk,hbs,hms,hF,hG,zW,zO,zW,zO,zq,hLs]
    simp only[zi,zr]
    rw[show bs.length-(p.length+1)=m' by omega]
   rw[hfr,zo (n:=y+1) (by omega) (by omega)]
   refine⟨Qo,rfl,by rw[Eo,hpl];simp only[zi,zr];omega,yR _,by rw[←znB];exact hqq m' _ _ _ _ _ rfl hq,zaL _,Kt _,?_⟩
   refine hag ((_,_),y+1) ⟨by simp only;omega,by simp only;omega,?_,?_⟩ (by simp only;omega)
   ·simp only[zU y0]
    rfl
   ·simp only[zU y0]
    rfl
  ·rw[zo (n:=y+1) (by omega) (by omega)]
   rw[if_pos h3]at hLs
   refine hag ((fs,gs),y+1) ⟨by simp only;omega,by simp only;omega,?_,?_⟩ (by simp only;omega)
   ·simp only[zU y0]
    rw[hLs,hF]
   ·simp only[zU y0]
    rw[hLs,hG]
  ·rw[hr,←KM,hf0,hF,hG,show y.toNat=bs.length by omega]
   rfl
 ·cases h
def zs6(_ _ _ _ _:List V):Prop:=False
theorem zxA:zdC Tryz.prog 37 1 (zbu zbK zs6):=by
 intro args ps r y h hp
 unfold zbu at h
 split at h
 ·simp only[za,zb]at h
  obtain⟨rfl,rfl,rfl⟩:=h
  exact((zl.1 hp).1:False).elim
 ·cases h
theorem zgS:∀m:Nat,zdC Tryz.prog 37 1 (zbu zbK (ziR m))
 |0=>zom 0 zs6 zxA fun m' _ _ _ _ _ h=>by omega
 |m+1=>zom (m+1) (ziR m) (zgS m) fun m' _ _ _ _ _ h hq=>by
  have:m'=m:=by omega
  rw[this]at hq
  exact hq
def zs7(a b c d l:List V):Prop:=l=[]∧ziR a.length a b c d l
theorem zDC:zdC Tryz.prog 37 1 (zbu zbK zs7):=by
 intro args ps r y h hp
 unfold zbu at h
 split at h
 ·rename_i a0 a1 a2 a3 a4
  simp only[za,zb]at h
  obtain⟨rfl,rfl,rfl⟩:=h
  obtain⟨_,hq⟩:zs7 a0 a1 a2 a3 a4:=(zl.1 hp).1
  exact zgS a0.length _ _ _ _ rfl (zl.2 ⟨hq,fun q hq=>by cases hq⟩)
 ·cases h
end Go.Ax
namespace Go.Ax
open Go.Proofs
def lcR(bs ms:List (List Int)):List (List Int)×List (List Int):=YC bs ms bs.length bs.length [] (partB bs (yq bs.length),partM ms (yq bs.length))
def Km(a b:List V):List V×List V:=(BB true (lcR (ur a) (kw b)).1,II true (lcR (ur a) (kw b)).2)
noncomputable def zhG(a b:List V):List V×List V×Int:=bif yB a b then((Km a b).1,(Km a b).2,0)else([],[],1)
def zfA(f:List V→List V→List V×List V×Int)(q:List V→List V→Prop):zN:=fun
 |[.agg [.slc false 68 (.agg [.slc false 2 (.int .i64 0) []]) a0,.slc false 30 (.slc false 2 (.int .i64 0) []) a1]]=>some ([q a0 a1],.tup [.agg [.slc true 68 (.agg [.slc true 2 (.int .i64 0) []]) ((f a0 a1).1),.slc true 30 (.slc true 2 (.int .i64 0) []) ((f a0 a1).2.1)],.int .i64 ((f a0 a1).2.2)])
 |_=>none
theorem zl5:yT Tryz.prog 10 (zfA zhG uj):=by
 intro args ps r h hp
 unfold zfA at h
 split at h
 ·rename_i a0 a1
  simp only[za,zb]at h
  obtain⟨rfl,rfl⟩:=h
  have hq:uj a0 a1:=(zl.1 hp).1
  have g0:=uV hq.1.isBB
  have g1:=uU hq.2.isII
  obtain⟨⟨bs,hbs,hb1,hb2⟩,⟨ms,hms,hm1,hm2⟩⟩:=id hq
  have hbl:a0.length=bs.length:=by rw[hbs,yK]
  have hcv:yB a0 a1=true→CvP bs ms:=fun h=>by rw[yB,hbs,hms,zW,zO]at h;exact Zm.1 h
  obtain⟨n,hn⟩:∃n:Int,n=bs.length:=⟨_,rfl⟩
  have hfl:Km a0 a1=(BB true (lcR bs ms).1,II true (lcR bs ms).2):=by rw[Km,hbs,hms,zW,zO]
  obtain⟨vi,hvi⟩:∃vi,vi=I (yq bs.length):=⟨_,rfl⟩
  have gvi:V.frzs vi=vi:=by rw[hvi,zG]
  have hpt:Yh a0 a1 vi=(BB true (partB bs (yq bs.length)),II true (partM ms (yq bs.length))):=by rw[Yh,hbs,hms,hvi,zW,zO,zq]
  obtain⟨ob,hob⟩:∃ob,ob=BB true (partB bs (yq bs.length)):=⟨_,rfl⟩
  obtain⟨om,hom⟩:∃om,om=II true (partM ms (yq bs.length)):=⟨_,rfl⟩
  have hls:zbK a0 a1 ob om []=Km a0 a1:=by
   rw[hfl,zbK,hbl,hbs,hms,hob,hom,zW,zO,zW,zO]
   rfl
  generalize zY:yB=ji
  generalize qf:uj=jR
  generalize Qq:Yh=zb5
  generalize Qf:zor=zgK
  generalize KM:zbK=zix
  generalize znG:zs7=zBF
  refine zD (T:=tab) (B:=[(24,Jc ji jR),(27,zbx zb5 zgK)]) (Bi:=[(37,1,true,zbu zix zBF)]) [2000008025,2000008727,2000008996,0,1,2,3,4,5] Tryz.func10 rfl rfl (by kernel_rfl) (zg rfl) zP zQ (by subst zY qf Qq Qf KM znG;exact(zm zaa (zm zdc zy))) (by subst zY qf Qq Qf KM znG;exact(zev zDC zu)) (by kernel_rfl) ?_
  intro L lp rr hL hr hf hlp
  have Ep:zb5 a0 a1 vi=(ob,om):=by rw[←Qq,hpt,hob,hom]
  have El:zix a0 a1 ob om []=Km a0 a1:=by rw[←KM,hls]
  conv=>cbv
  simp only[zp hL,sQ,g0,g1,hbl,←hn]
  refine⟨by rw[←qf];exact hq,fun h=>?_,fun h=>?_⟩
  ·rw[hr,zhG,zY,h];rfl
  have h':yB a0 a1=true:=by rw[zY];exact h
  have hv:=hcv h'
  have n6:=hv.n6
  refine hlp (List V×Int) _ _ _ [1,2,4,5] (fun x=>[(1,none,.val (.box 27 (.agg [.slc false 68 (.agg [.slc false 2 (.int .i64 0) []]) a0,.slc false 30 (.slc false 2 (.int .i64 0) []) a1]))),(2,none,.val (.box 27 (.agg [.slc true 68 (.agg [.slc true 2 (.int .i64 0) []]) [],.slc true 30 (.slc true 2 (.int .i64 0) []) []]))),(4,none,.val (.slc true 2 (.int .i64 0) x.1)),(5,none,.val (.int .i64 x.2))])
   (fun x=>0≤x.2∧x.2≤n∧x.1=I (yq x.2.toNat)) (fun x=>(n-x.2).toNat) (([],0)) (by subst hL;rfl) ?_ ?_
  ·exact⟨by simp,by simp only;omega,rfl⟩
  rintro⟨os,i⟩ ⟨i0,i1,hO⟩ hfx ag hag
  simp only at i0 i1 hO
  have hol:os.length=i.toNat:=by rw[hO,zj,qd]
  have hfin:¬i<n→os=vi:=fun h2=>by rw[hO,hvi,show i.toNat=bs.length by omega]
  conv=>cbv
  simp only[zp hL,sQ,g0,g1,hbl,hol,←hn]
  rw[zo (n:=i+1) (by omega) (by omega)]
  refine⟨fun h2=>⟨rfl,by first|omega|(simp only[zi,zr];omega),yR _,?_⟩,fun h2=>?_⟩
  ·refine hag (_,i+1) ⟨by simp only;omega,by simp only;omega,?_⟩ (by simp only;omega)
   simp only[zU i0]
   rw[hO,show yq (i.toNat+1)=yq i.toNat++[((i.toNat:Nat):Int)]from Jj _ _,←qr,show((i.toNat:Nat):Int)=i by omega]
   rfl
  ·have hfv:V.frzs []=[]:=rfl
   rw[hfin h2,gvi,Ep,hfv,El,hfl]
   have hqc:ZN a0 a1:=⟨hq,by rw[hbs,hms,zW,zO];exact hv⟩
   refine⟨?_,by rw[hob];exact zaL _,by rw[hom];exact Kt _,?_,zaL _,Kt _,?_⟩
   ·rw[←Qf]
    refine⟨hqc,_,hvi,fun k hk=>?_,by rw[qd];omega⟩
    rw[qd]at hk
    rw[hbl,Kh _ _ hk]
    omega
   ·rw[←znG]
    exact⟨rfl,hqc,⟨_,_,hob,hom,zly hv (.refl _)⟩,[],rfl,by simp,fun x hx=>by cases hx⟩
   ·rw[hr,zhG,h',hfl];rfl
 ·cases h
theorem zul{a b:List Int}:zbc a b<0↔yo a b=true:=by
 have h:=zwO a b
 constructor
 ·intro h1
  rw[decide_eq_false (by omega)]at h
  cases h2:yo a b with
  |true=>rfl
  |false=>rw[h2]at h;cases h
 ·intro h1
  rw[h1]at h
  have:¬0≤zbc a b:=by simpa using h
  omega
theorem zyc{bs ms:List (List Int)}{n:Nat}{p:List Int}{R:List (List Int)×List (List Int)}(h:zbC bs ms n p R)(hv:CvP bs ms)(hn:n=bs.length):KcP R.1 R.2:=by
 obtain⟨⟨q,hq,rfl⟩,_⟩:=h
 rw[hn]at hq
 exact zly hv (zm4 hq)
theorem zl8:yT Tryz.prog 36 (zii Km ZN):=by
 intro args ps r h hp
 unfold zii at h
 split at h
 ·rename_i a0 a1
  simp only[za,zb]at h
  obtain⟨rfl,rfl⟩:=h
  have hqc:ZN a0 a1:=(zl.1 hp).1
  have g0:=uV hqc.1.1.isBB
  have g1:=uU hqc.1.2.isII
  obtain⟨⟨⟨bs,hbs,hb1,hb2⟩,⟨ms,hms,hm1,hm2⟩⟩,hv⟩:=id hqc
  rw[hbs,hms,zW,zO]at hv
  have hbl:a0.length=bs.length:=by rw[hbs,yK]
  obtain⟨n,hn⟩:∃n:Int,n=bs.length:=⟨_,rfl⟩
  have hfl:Km a0 a1=(BB true (lcR bs ms).1,II true (lcR bs ms).2):=by rw[Km,hbs,hms,zW,zO]
  have hcp:zh8 a0 a1=(BB true bs,II true ms):=by rw[zh8,hbs,hms,zW,zO]
  have hqcp:zos a0 a1:=⟨bs,ms,hbs,hms,zBZ hv⟩
  have hrn:∀p:List Int,za2 a0 a1 (I p)=(BB true (partB bs (qj p)),II true (partM ms (qj p))):=fun p=>by rw[za2,Yh,hbs,hms,zq,zq,zW,zO]
  have n1:=hv.n1
  have n6:=hv.n6
  obtain⟨is0,his0⟩:∃is0,is0=I (yq bs.length):=⟨_,rfl⟩
  obtain⟨cb,hcb⟩:∃cb,cb=BB true bs:=⟨_,rfl⟩
  obtain⟨cm,hcm⟩:∃cm,cm=II true ms:=⟨_,rfl⟩
  generalize znR:zh8=zvq
  generalize znH:zos=zBG
  generalize YO:Jv=YP
  generalize Yt:zgZ=zio
  generalize zdO:zlF=ziy
  generalize zdE:zsh=zrd
  generalize JS:za2=za4
  generalize JQ:zsf=zin
  generalize znT:zkK=znX
  generalize kq:zbU=Qy
  generalize zdM:zjj=zdS
  generalize zdL:zg9=zdR
  generalize zgD:zxM=zve
  refine zD (T:=tab) (B:=[(71,zii zvq zBG),(30,zgo YP zio),(31,zpe ziy zrd),(33,zbx za4 zin),(72,zuv znX Qy)]) (Bi:=[(34,0,false,zsn zdS zdR zve)]) [0,1,2,3,4,5] Tryz.func36 rfl rfl (by kernel_rfl) (zg rfl) zP zQ (by subst znR znH YO Yt zdO zdE JS JQ znT kq zdM zdL zgD;exact(zm zmZ (zm zj1 (zm zmn (zm za9 (zm zol zy)))))) (by subst znR znH YO Yt zdO zdE JS JQ znT kq zdM zdL zgD;exact(qg zyV zu)) (by kernel_rfl) ?_
  intro L lp rr hL hr hf hlp
  have Ef:ziy n=is0:=by rw[←zdO,zlF,hn,zC,his0]
  have Ec:zvq a0 a1=(cb,cm):=by rw[←znR,hcp,hcb,hcm]
  have Er:∀p:List Int,za4 a0 a1 (I p)=(BB true (partB bs (qj p)),II true (partM ms (qj p))):=fun p=>by rw[←JS,hrn]
  have Ekr:∀u v:List (List Int),YP (BB false u) (II false v)=I (ud u v):=fun u v=>by rw[←YO,Jv,zW,zO]
  have Ee:∀u v:List Int,znX (I u) (I v)=zbc u v:=fun u v=>by rw[←znT,zkK,zq,zq]
  have E0:∀p:List Int,zdS (I p)=Ky p:=fun p=>by rw[←zdM,zjj,zq]
  have E1:∀p:List Int,zdR (I p)=I (uH p):=fun p=>by rw[←zdL,zg9,zq]
  conv=>cbv
  simp only[zp hL,sQ,g0,g1,hbl,←hn,Ef,Ec]
  refine⟨by rw[←zdE];exact⟨by omega,by omega⟩,by rw[←znH];exact hqcp,?_⟩
  refine hlp ((List V×List V)×List V) _ _ _ [1,2,3,4] (fun x=>[(1,none,.val (.box 27 (.agg [.slc false 68 (.agg [.slc false 2 (.int .i64 0) []]) a0,.slc false 30 (.slc false 2 (.int .i64 0) []) a1]))),(2,none,.val (.box 27 (.agg [.slc true 68 (.agg [.slc true 2 (.int .i64 0) []]) [],.slc true 30 (.slc true 2 (.int .i64 0) []) []]))),(3,none,.val (.slc true 2 (.int .i64 0) x.2)),(4,none,.val (.box 27 (.agg [.slc true 68 (.agg [.slc true 2 (.int .i64 0) []]) x.1.1,.slc true 30 (.slc true 2 (.int .i64 0) []) x.1.2])))])
   (fun x=>∃(p:List Int) (R:List (List Int)×List (List Int)),x.2=I p∧x.1.1=BB true R.1∧x.1.2=II true R.2∧p.Perm (yq bs.length)∧zbC bs ms bs.length p R) (fun x=>zeb bs.length (qb x.2)) (((cb,cm),is0)) (by subst hL;rfl) ?_ ?_
  ·exact⟨yq bs.length,(bs,ms),his0,hcb,hcm,.refl _,zbC.start rfl hv.tab⟩
  rintro⟨⟨fs,gs⟩,os⟩ ⟨p,R,hO,hF,hG,hpp,hU⟩ hfx ag hag
  simp only at hO hF hG
  have hpl:p.length=bs.length:=by rw[hpp.length_eq,qd]
  obtain⟨os',hos'⟩:∃os',os'=I (uH p):=⟨_,rfl⟩
  have gO':V.frzs os'=os':=by rw[hos',zG]
  have E0':zdS os=Ky p:=by rw[hO,E0]
  have E1':zdR os=os':=by rw[hO,E1,hos']
  obtain⟨fs',hfs'⟩:∃fs',fs'=BB true (partB bs (qj (uH p))):=⟨_,rfl⟩
  obtain⟨gs',hgs'⟩:∃gs',gs'=II true (partM ms (qj (uH p))):=⟨_,rfl⟩
  have Er':za4 a0 a1 os'=(fs',gs'):=by rw[hos',Er,hfs',hgs']
  obtain⟨k1,hk1⟩:∃k1,k1=I (kP bs ms (qj (uH p))):=⟨_,rfl⟩
  obtain⟨k2,hk2⟩:∃k2,k2=I (ud R.1 R.2):=⟨_,rfl⟩
  have gk1:V.frzs k1=k1:=by rw[hk1,zG]
  have gk2:V.frzs k2=k2:=by rw[hk2,zG]
  have K1:YP (V.frzs fs') (V.frzs gs')=k1:=by rw[hfs',hgs',yL,yF,Ekr,hk1];rfl
  have K2:YP (V.frzs fs) (V.frzs gs)=k2:=by rw[hF,hG,yL,yF,Ekr,hk2]
  have Ee':znX k1 k2=zbc (kP bs ms (qj (uH p))) (ud R.1 R.2):=by rw[hk1,hk2,Ee]
  conv=>cbv
  simp only[zp hL,sQ,g0,g1,E0',E1',gO',Er',K1,K2,gk1,gk2,Ee']
  have kR:=zyc hU hv rfl
  refine⟨by rw[←zgD];exact⟨p,hO,by omega,by omega⟩,fun hb=>?_,fun hb=>?_⟩
  ·have hpp':=zlx hpp hb
   obtain⟨pm,pl⟩:=ul hpp'
   have hU':=hU.next hpp hb
   have hdec:zeb bs.length (qb os')<zeb bs.length (qb os):=by rw[hos',hO,zq,zq];exact zrm hpp hb
   refine⟨?_,by rw[hfs'];exact zaL _,by rw[hgs'];exact Kt _,?_,by rw[hk1];exact JP _,?_,by rw[hk2];exact JP _,?_,fun h=>?_,fun h=>?_⟩
   ·rw[←JQ]
    exact⟨hqc,uH p,hos',pm,by rw[hbl];exact pl⟩
   ·rw[←Yt]
    exact⟨_,_,by rw[hfs',yL],by rw[hgs',yF],zly hv (zm4 hpp')⟩
   ·rw[←Yt]
    exact⟨_,_,by rw[hF,yL],by rw[hG,yF],kR⟩
   ·rw[←kq]
    exact⟨⟨_,hk1⟩,⟨_,hk2⟩⟩
   ·rw[if_pos (zul.1 h)]at hU'
    exact hag ((fs',gs'),os') ⟨uH p,_,hos',hfs',hgs',hpp',hU'⟩ hdec
   ·rw[if_neg (fun e=>h (zul.2 e))]at hU'
    exact hag ((fs,gs),os') ⟨uH p,_,hos',hF,hG,hpp',hU'⟩ hdec
  ·have hL:=hU.least hpp hb
   have he:R=lcR bs ms:=hL.unique zkn
   rw[hr,hfl,hF,hG,he]
 ·cases h
theorem zma:yT Tryz.prog 9 (zfA zhG uj):=by
 intro args ps r h hp
 unfold zfA at h
 split at h
 ·rename_i a0 a1
  simp only[za,zb]at h
  obtain⟨rfl,rfl⟩:=h
  have hq:uj a0 a1:=(zl.1 hp).1
  have g0:=uV hq.1.isBB
  have g1:=uU hq.2.isII
  have hf0:zhG a0 a1=bif yB a0 a1 then((Km a0 a1).1,(Km a0 a1).2,0)else([],[],1):=rfl
  have hno:V.noFzs (Km a0 a1).1=true∧V.noFzs (Km a0 a1).2=true:=⟨zaL _,Kt _⟩
  generalize zY:yB=ji
  generalize qf:uj=jR
  generalize zqU:Km=zDh
  generalize ko:ZN=Jf
  refine zD (T:=tab) (B:=[(29,Jc ji jR),(36,zii zDh Jf)]) (Bi:=[]) [0,1,2,3] Tryz.func9 rfl rfl (by kernel_rfl) (zg rfl) zP zQ (by subst zY qf zqU ko;exact(zm uT (zm zl8 zy))) (by subst zY qf zqU ko;exact zu) (by kernel_rfl) ?_
  intro L lp rr hL hr hf hlp
  conv=>cbv
  simp only[zp hL,sQ,g0,g1]
  subst zY qf zqU ko
  refine⟨hq,fun h=>?_,fun h=>⟨KI hq h,?_⟩⟩
  ·rw[hr,hf0,h];rfl
  ·rw[hr,hf0,h];rfl
 ·cases h
end Go.Ax
