import Derived.Test.YtnhfpgcicpfohaaGreatDoorB07p1
import Derived.Test.YtnhfpgcicpfohaaGreatDoorB03p1
import Derived.Test.YtnhfpgcicpfohaaGreatDoorAxP4p1
set_option linter.all false
open List renaming getD_cons_zero→yL,getD_eq_getElem?_getD→zd,getElem?_append_right→yp,getElem?_eq_getElem→ze,length_append→zk,length_cons→zi,length_drop→zP,length_map→zy,length_pos_iff→qk,length_range→kS,length_singleton→yr,mem_append→yK,mem_cons→zA,mem_cons_of_mem→zp,mem_cons_self→yi,mem_iff_getElem→ym,mem_map→yD,mem_map_of_mem→ZL
open Nat renaming add_sub_cancel→yQ,le_refl→zn,max_eq_right→zbE,min_eq_left→KK
open Option renaming isSome_iff_exists→Zr
/-
 Curves in texts:the pure part. No conditions but those of the contracts.
-/
namespace Go.Ax
open Go.Proofs
def uL(n:Nat):Nat→Nat
 |0=>0
 |i+1=>uL n i+(n-(i+1))
def tbV(n:Nat)(xs:List Int)(i k:Nat):Int:=xs.getD (uL n i+(k-i-1)) 0
def tbe(n:Nat)(xs:List Int)(a b:Nat):Int:=if a=b then 0 else tbV n xs (min a b) (max a b)
def uE(n:Nat)(xs:List Int)(i k a b:Nat):Int:=if min a b<i∨(min a b=i∧max a b<k)then tbe n xs a b else 0
theorem zrF(n:Nat)(xs:List Int):List.replicate n (List.replicate n (0:Int))=T2 n (uE n xs 0 0):=by
 rw[zB3]
 exact zdf fun a b _ _=>by rw[uE,if_neg (by omega)]
theorem zuK(xs:List Int)(i n:Nat):T2 n (uE n xs i n)=T2 n (uE n xs (i+1) 0):=zdf fun a b ha hb=>by
 rw[uE,uE]
 by_cases h:min a b<i+1
 ·rw[if_pos (by omega),if_pos (by omega)]
 ·rw[if_neg (by omega),if_neg (by omega)]
theorem zrG(xs:List Int)(i n:Nat):T2 n (uE n xs i 0)=T2 n (uE n xs i (i+1)):=zdf fun a b ha hb=>by
 rw[uE,uE]
 by_cases h1:min a b<i
 ·rw[if_pos (by omega),if_pos (by omega)]
 ·by_cases h2:a=i∧b=i
  ·rw[if_neg (by omega),if_pos (by omega),tbe,if_pos (by omega)]
  ·rw[if_neg (by omega),if_neg (by omega)]
theorem zuL(n:Nat)(xs:List Int):T2 n (uE n xs n 0)=T2 n (tbe n xs):=zdf fun a b ha hb=>by rw[uE,if_pos (by omega)]
def tbH(n:Nat)(xs:List Int)(i k a b:Nat):Int:=if a=i∧b=k then tbV n xs i k else uE n xs i k a b
theorem zrI{n i k:Nat}(xs:List Int)(hi:i<k)(hk:k<n):(T2 n (uE n xs i k)).set i (((T2 n (uE n xs i k)).getD i []).set k (tbV n xs i k))=T2 n (tbH n xs i k):=by
 refine zyU (by omega) hk ?_ fun a b ha hb hab=>?_
 ·rw[tbH,if_pos ⟨rfl,rfl⟩]
 ·rw[tbH,if_neg (by omega)]
theorem zrH{n i k:Nat}(xs:List Int)(hi:i<k)(hk:k<n):(T2 n (tbH n xs i k)).set k (((T2 n (tbH n xs i k)).getD k []).set i (tbV n xs i k))=T2 n (uE n xs i (k+1)):=by
 refine zyU hk (by omega) ?_ fun a b ha hb hab=>?_
 ·rw[uE,if_pos (by omega),tbe,if_neg (by omega),Nat.min_eq_right (by omega),Nat.max_eq_left (by omega)]
 ·rw[tbH,uE,uE]
  by_cases h:a=i∧b=k
  ·rw[if_pos h,if_pos (by omega),tbe,if_neg (by omega),h.1,h.2,KK (by omega),zbE (by omega)]
  ·rw[if_neg h]
   by_cases h1:min a b<i∨(min a b=i∧max a b<k)
   ·rw[if_pos (by omega),if_pos h1]
   ·rw[if_neg (by omega),if_neg h1]
theorem zxA{n i:Nat}(h:i<n):uL n i+(n-i-1)=uL n (i+1):=by rw[uL];omega
theorem zwb:∀n,n<7→∀i,i<n→∀k,k<n→i<k→uL n i+(k-i-1)<n*(n-1)/2:=by decide
theorem zDm:∀n,n<7→∀p,p<n*(n-1)/2→∃i,i<n∧∃k,k<n∧i<k∧uL n i+(k-i-1)=p:=by decide
theorem zxB:∀n,n<7→uL n n=n*(n-1)/2:=by decide
def zbi(c:By×By×Bool):List Int:=if c.2.2=true then(yc 32 c.2.1).map jb else[]
def uM(ws:List By):List (List Int):=ws.map fun w=>(uT w).getD []
def uG(n:Nat)(xs:List Int):List (List Int):=T2 n (tbe n xs)
def qH(l:By):List By:=yc 32 (qE 124 l).1
def kR(l:By):List Int:=zbi (qE 124 l)
def kq(l:By):Prop:=(qH l).length≤6∧(∀w∈qH l,(uT w).isSome=true)∧(kR l).length=(qH l).length*((qH l).length-1)/2∧zc5 (uM (qH l)) (uG (qH l).length (kR l))=true
noncomputable def zcs(s:ByteArray):List V×List V×Int:=if@decide (kq s.data.toList) (Classical.propDecidable _)then(BB false (uM (qH s.data.toList)),II false (uG (qH s.data.toList).length (kR s.data.toList)),0)else([],[],6)
theorem zqI{s:ByteArray}(h:kq s.data.toList):zcs s=(BB false (uM (qH s.data.toList)),II false (uG (qH s.data.toList).length (kR s.data.toList)),0):=by
 rw[zcs,if_pos (@decide_eq_true _ (Classical.propDecidable _) h)]
theorem zsZ{s:ByteArray}(h:¬kq s.data.toList):zcs s=([],[],6):=by
 rw[zcs,@decide_eq_false _ (Classical.propDecidable _) h];rfl
theorem zrA(l:By):0<(qH l).length:=qk.2 (Yu 32 _)
theorem zbY(ws:List By):(uM ws).length=ws.length:=zy ..
theorem zjW{l:By}(h:kq l):∀x∈kR l,0≤x:=fun x hx=>by
 obtain⟨p,hp,rfl⟩:=ym.1 hx
 obtain⟨h1,_,h3,h4⟩:=h
 obtain⟨i,hi,k,hk,hik,e⟩:=zDm (qH l).length (by omega) p (by omega)
 have hcv:=Jb.1 h4
 have hb:=zbY (qH l)
 have:=(hcv.tab.range (i:=i) (k:=k) (by omega) (by omega)).1
 rw[mm,uG,ztQ _ hi hk,tbe,if_neg (by omega),tbV,KK (by omega),zbE (by omega),e,zd,ze hp]at this
 exact this
theorem zqE{l:By}(h:kq l):(qE 124 l).2.2=true↔1<(qH l).length:=by
 obtain⟨h1,_,h3,_⟩:=h
 have hp:=zrA l
 constructor
 ·intro hm
  rw[kR,zbi,if_pos hm,zy]at h3
  have:=qk.2 (Yu 32 (qE 124 l).2.1)
  refine Classical.byContradiction fun hc=>?_
  rw[show(qH l).length=1 by omega]at h3
  omega
 ·intro hm
  cases hc:(qE 124 l).2.2 with
  |true=>rfl
  |false=>
   have e:kR l=[]:=by rw[kR,zbi,if_neg (by rw[hc];simp)]
   rw[e,List.length_nil]at h3
   have:=zwb (qH l).length (by omega) 0 (by omega) 1 hm (by omega)
   omega
theorem zlR{l:By}(h:kq l):(yc 124 l).length≤2∧(yc 124 l=[(qE 124 l).1]∧(qE 124 l).2.2=false∨yc 124 l=[(qE 124 l).1,(qE 124 l).2.1]∧(qE 124 l).2.2=true):=by
 rcases YJ 124 l with⟨_,h2,h3⟩|⟨a,b,h1,h2,h3,h4⟩
 ·rw[h2,h3];exact⟨by simp,.inl ⟨rfl,rfl⟩⟩
 ·have hb:(124:UInt8)∉b:=fun hb=>by
   obtain⟨w,hw,hd⟩:=zju (c:=32) (d:=124) (by decide) hb
   have:=zjW h (jb w) (by rw[kR,zbi,h3,if_pos rfl];exact ZL hw)
   rw[jb,if_neg (by rw[ztl hd (by decide)];simp)]at this
   omega
  rw[h3,h4,Kc hb]
  exact⟨by simp,.inr ⟨rfl,rfl⟩⟩
theorem zse{w:By}{xs:List Int}(h:uT w=some xs):uv xs=w∧qK xs=true:=by
 rw[uT]at h
 split at h
 ·rename_i h1
  obtain⟨⟨k1,k2,k3⟩,k4⟩:=h1
  simp only[Option.some.injEq]at h
  rw[←h]
  exact⟨by rw[zuJ k4];exact(zym (by omega) k2 k3).symm,k4⟩
 ·cases h
theorem zyN{ws:List By}(h:∀w∈ws,(uT w).isSome=true):∀xs∈uM ws,qK xs=true:=fun xs hx=>by
 obtain⟨w,hw,rfl⟩:=yD.1 hx
 obtain⟨ys,hys⟩:=Zr.1 (h w hw)
 show qK ((uT w).getD [])=true
 rw[hys]
 exact(zse hys).2
theorem ztH{ws:List By}(h:∀w∈ws,(uT w).isSome=true):∀xs∈uM ws,xs.length≤2147483647:=fun xs hx=>by
 have:=(Kl (zyN h xs hx)).len
 omega
theorem zpo{n:Nat}(f:Nat→Nat→Int):∀xs∈T2 n f,xs.length=n:=fun xs hx=>by
 obtain⟨i,_,rfl⟩:=yD.1 hx
 exact yA _ _
theorem zvE:∀{ws:List By},(∀w∈ws,(uT w).isSome=true)→(uM ws).map uv=ws
 |[],_=>rfl
 |w::ws,h=>by
  have h1:=h w (yi ..)
  obtain⟨xs,hxs⟩:=Zr.1 h1
  have ih:=zvE fun v hv=>h v (zp _ hv)
  show uv ((uT w).getD [])::(uM ws).map uv=_
  rw[ih,hxs,Option.getD_some,(zse hxs).1]
theorem zrD{n:Nat}{xs:List Int}:∀i,i≤n→uL n n≤xs.length→kU (uG n xs) n i=xs.take (uL n i)
 |0,_,_=>by simp[kU,uL]
 |i+1,h,hx=>by
  have hmono:∀d j,j+d=n→uL n j≤uL n n:=fun d=>by
   induction d with
   |zero=>intro j hj;rw[show j=n by omega];exact zn _
   |succ d ih=>intro j hj;exact Nat.le_trans (by rw[uL];omega) (ih (j+1) (by omega))
  have hm:=hmono (n-(i+1)) (i+1) (by omega)
  rw[uL]at hm
  have hrow:Zm (uG n xs) i n=(xs.drop (uL n i)).take (n-(i+1)):=by
   refine List.ext_getElem ?_ fun t h1 h2=>?_
   ·rw[Zm,zy,zP,kS,List.length_take,zP];omega
   ·rw[Zm,zy,zP,kS]at h1
    simp only[Zm,List.getElem_map,List.getElem_drop,List.getElem_range,List.getElem_take]
    rw[mm,uG,ztQ _ (by omega) (by omega),tbe,if_neg (by omega),tbV,KK (by omega),zbE (by omega),show i+1+t-i-1=t by omega,zd,ze (by omega)]
    rfl
  rw[QA,zrD i (by omega) hx,hrow,uL,List.take_add]
theorem zjV{l:By}(h:kq l):YI (uM (qH l)) (uG (qH l).length (kR l))=l:=by
 have hn:=zjW h
 obtain⟨g1,g2⟩:=zlR h
 have hm:=zqE h
 obtain⟨h1,h2,h3,h4⟩:=h
 have hul:=zxB (qH l).length (by omega)
 have hup:kU (uG (qH l).length (kR l)) (uM (qH l)).length (uM (qH l)).length=kR l:=by
  rw[zbY,zrD _ (zn _) (by omega),List.take_of_length_le (by omega)]
 rw[YI,hup,JJ,zvE h2]
 have hj:jC 32 (qH l)=(qE 124 l).1:=zcn 32 _
 rw[hj]
 rcases YJ 124 l with⟨_,k2,_⟩|⟨a,b,k1,_,k3,_⟩
 ·have e:kR l=[]:=by rw[kR,zbi,k2];rfl
  rw[e,k2]
  simp[QY,jC]
 ·have hno:kR l=(yc 32 b).map jb:=by rw[kR,zbi,k3,if_pos rfl]
  have e:QY (kR l)=b:=by
   have h5:(kR l).map kC=yc 32 b:=by
    rw[hno]at hn ⊢
    rw[List.map_map]
    conv=>rhs;rw[←List.map_id (yc 32 b)]
    refine List.map_congr_left fun w hw=>?_
    exact zvB (zoT (hn _ (ZL hw)))
   rw[QY,h5,zcn]
  have hne:b≠[]:=fun e2=>by
   rw[e2]at e
   have:=(zbw _).1 e
   rw[hno]at this
   exact Yu 32 b (List.map_eq_nil_iff.1 this)
  rw[e,k3,if_neg hne]
  exact k1.symm
end Go.Ax
namespace Go.Ax
open Go.Proofs
theorem zj9:∀(m:Nat) (n:Int),0≤n→n<10^(m+1)→m≤8→(kC n).all ZD=true∧JB (kC n) 0=n∧(1≤n→(kC n).getD 0 0≠48)∧((kC n).length≤1∨10≤n)
 |m,n,h0,h1,hm=>by
  have hlim:n<10000000000:=by
   have:(10:Int)^(m+1)≤10^9:=by
    have:=Nat.pow_le_pow_right (n:=10) (by omega) (show m+1≤9 by omega)
    exact_mod_cast this
   have h9:(10:Int)^9=1000000000:=by decide
   omega
  have hd:∀x:Int,0≤x→x<10→((UInt8.ofNat (48+x).toNat).toNat:Int)=48+x:=fun x a b=>by
   rw[UInt8.toNat_ofNat']
   omega
  rw[ziO h0 hlim]
  by_cases hn:n<10
  ·rw[if_pos hn]
   have e:=hd n h0 hn
   refine⟨?_,?_,fun h=>?_,.inl (zn _)⟩
   ·simp only[List.all_cons,List.all_nil,Bool.and_true,zkV]
    omega
   ·simp only[JB]
    omega
   ·intro h48
    simp only[yL]at h48
    rw[h48]at e
    simp at e
    omega
  ·rw[if_neg hn]
   cases m with
   |zero=>
    simp at h1
    omega
   |succ m=>
    have hq:n.tdiv 10=n/10:=Int.tdiv_eq_ediv_of_nonneg h0
    have hr:n.tmod 10=n%10:=Int.tmod_eq_emod_of_nonneg h0
    rw[Int.pow_succ]at h1
    obtain⟨k1,k2,k3,_⟩:=zj9 m (n.tdiv 10) (by omega) (by omega) (by omega)
    have e:=hd (n.tmod 10) (by omega) (by omega)
    have hne:=zn6 (n.tdiv 10)
    refine⟨?_,?_,fun _=>?_,.inr (by omega)⟩
    ·rw[List.all_append,k1]
     simp only[List.all_cons,List.all_nil,Bool.and_true,Bool.true_and,zkV]
     omega
    ·rw[zdL,k2,e]
     omega
    ·have h3:=k3 (by omega)
     cases hx:kC (n.tdiv 10)with
     |nil=>exact absurd hx hne
     |cons a r=>
      rw[hx]at h3
      simpa using h3
theorem zoU{n:Int}(h0:0≤n)(h1:n<1000000000):jb (kC n)=n:=by
 obtain⟨k1,k2,k3,k4⟩:=zj9 8 n h0 (by omega) (zn _)
 have hl:=Ki ⟨h0,h1⟩
 rw[jb,if_pos (JW.2 ⟨zn6 n,hl,?_,k1⟩),k2]
 rcases k4 with k4|k4
 ·exact .inl k4
 ·exact .inr (k3 (by omega))
theorem zj8{n:Int}{c:UInt8}(h0:0≤n)(h1:n<1000000000)(hc:ZD c=false):c∉kC n:=fun h=>by
 obtain⟨k1,_⟩:=zj9 8 n h0 (by omega) (zn _)
 have:=List.all_eq_true.1 k1 c h
 rw[hc]at this
 cases this
theorem zev(c:UInt8):∀{ws:List By},(∀w∈ws,c∉w)→ws≠[]→yc c (jC c ws)=ws
 |[],_,h=>absurd rfl h
 |[w],h,_=>Kc (h w (yi ..))
 |w::v::r,h,_=>by
  rw[jC,ze0 _ (h w (yi ..)),zev c (fun x hx=>h x (zp _ hx)) (List.cons_ne_nil _ _)]
theorem zvg{c d:UInt8}(hcd:d≠c):∀{ws:List By},(∀w∈ws,d∉w)→d∉jC c ws
 |[],_=>List.not_mem_nil
 |[w],h=>h w (yi ..)
 |w::v::r,h=>by
  rw[jC]
  intro hd
  rcases yK.1 hd with hd|hd
  ·exact h w (yi ..) hd
  ·rcases zA.1 hd with hd|hd
   ·exact hcd hd
   ·exact zvg hcd (fun x hx=>h x (zp _ hx)) hd
theorem zxN{d:UInt8}(hd:ZD d=false)(h44:d≠44):∀{c:UInt8} {l:List Int},d≠c→okN l→d∉ZH c l
 |_,[],_,_=>by simp[ZH]
 |c,y::l,hc,h=>by
  have hy:=h y (yi ..)
  rw[ZH]
  intro hx
  rcases zA.1 hx with hx|hx
  ·exact hc hx
  ·rcases yK.1 hx with hx|hx
   ·exact zj8 hy.1 hy.2 hd hx
   ·exact zxN hd h44 h44 (fun z hz=>h z (zp _ hz)) hx
theorem zC0{d:UInt8}(hd:ZD d=false)(h40:d≠40)(h41:d≠41)(h44:d≠44)(h59:d≠59){xs:List Int}(hne:xs≠[])(h:okN xs):d∉uv xs:=by
 cases xs with
 |nil=>exact absurd rfl hne
 |cons x l=>
  have hx:=h x (yi ..)
  simp only[uv,yL,List.drop_succ_cons,List.drop_zero]
  intro hm
  rcases zA.1 hm with hm|hm
  ·exact h40 hm
  ·rcases yK.1 hm with hm|hm
   ·exact zj8 hx.1 hx.2 hd hm
   ·rcases yK.1 hm with hm|hm
    ·exact zxN hd h44 h59 (fun z hz=>h z (zp _ hz)) hm
    ·exact h41 (List.mem_singleton.1 hm)
theorem zoV:∀{l:List Int},okN l→(l.map kC).map jb=l
 |[],_=>rfl
 |x::l,h=>by
  have hx:=h x (yi ..)
  rw[List.map_cons,List.map_cons,zoU hx.1 hx.2,zoV fun z hz=>h z (zp _ hz)]
theorem zwc{x:Int}{l:List Int}(h:okN (x::l)):qZ (qE 59 (kC x++ZH 59 l))=x::l:=by
 have hx:=h x (yi ..)
 have hl:okN l:=fun z hz=>h z (zp _ hz)
 have n59:=zj8 hx.1 hx.2 (show ZD 59=false by decide)
 cases l with
 |nil=>
  rw[ZH,List.append_nil,zft n59,qZ,if_neg (by simp),zoU hx.1 hx.2]
 |cons y r=>
  rw[zf5,zkb _ n59,qZ,if_pos rfl,zoU hx.1 hx.2,zev 44 (fun w hw=>?_) (by simp),zoV hl]
  obtain⟨z,hz,rfl⟩:=yD.1 hw
  have:=hl z hz
  exact zj8 this.1 this.2 (by decide)
theorem zCO(m:By):uI (40::(m++[41]))=m:=by
 rw[uI,zi,zk,yr,yQ,List.take_succ_cons,List.take_left' rfl]
 rfl
theorem zu2{xs:List Int}(h:qK xs=true):uT (uv xs)=some xs:=by
 cases xs with
 |nil=>exact absurd rfl (zc7 h)
 |cons x l=>
  have e:uv (x::l)=40::((kC x++ZH 59 l)++[41]):=by simp[uv]
  have hi:uI (uv (x::l))=kC x++ZH 59 l:=by rw[e,zCO]
  have ht:=zwc (zbB h)
  have hsh:zrQ (uv (x::l)):=by
   rw[e]
   have hd:=qk.2 (zn6 x)
   refine⟨by simp only[zi,zk,List.length_nil];omega,rfl,?_⟩
   rw[zi,yQ,zk,yr,List.getD_cons_succ,zd,yp (zn _),Nat.sub_self]
   rfl
  rw[uT,hi,ht,if_pos ⟨hsh,h⟩]
theorem zCv{ms:List (List Int)}{i n:Nat}:(Zm ms i n).length=n-(i+1):=by
 rw[Zm,zy,zP,kS]
theorem zjo(ms:List (List Int))(n:Nat):∀i,(kU ms n i).length=uL n i
 |0=>by simp[kU,uL]
 |i+1=>by rw[QA,zk,zjo ms n i,zCv,uL]
theorem zuH(ms:List (List Int)){n i t:Nat}(ht:i+1+t<n):∀j,i<j→(kU ms n j).getD (uL n i+t) 0=mm ms i (i+1+t)
 |0,h=>by omega
 |j+1,h=>by
  rw[QA,zd]
  by_cases hij:i<j
  ·have hlen:uL n i+t<(kU ms n j).length:=by
    rw[zjo]
    have:uL n (i+1)≤uL n j:=by
     obtain⟨d,rfl⟩:∃d,j=i+1+d:=⟨j-(i+1),by omega⟩
     clear h hij
     induction d with
     |zero=>exact zn _
     |succ d ih=>exact Nat.le_trans ih (by rw[show i+1+(d+1)=(i+1+d)+1 by omega,uL];omega)
    rw[uL]at this
    omega
   rw[List.getElem?_append_left hlen,←zd,zuH ms ht j hij]
  ·have hji:j=i:=by omega
   subst hji
   rw[yp (by rw[zjo];omega),zjo,show uL n j+t-uL n j=t by omega,Zm,List.getElem?_map,List.getElem?_drop,List.getElem?_range (by omega)]
   rfl
theorem zzd{ms:List (List Int)}{n:Nat}(h:TabP ms n):uG n (kU ms n n)=ms:=by
 have e:ms=T2 n (fun a b=>mm ms a b):=by
  refine(zmt ms []).trans ?_
  rw[h.len,T2]
  refine qQ fun i hi=>?_
  have:=zmt (ms.getD i []) 0
  rw[(h.row i hi).1]at this
  exact this
 conv=>rhs;rw[e]
 rw[uG]
 refine zdf fun a b ha hb=>?_
 rw[tbe]
 by_cases hab:a=b
 ·rw[if_pos hab]
  exact(((h.row a ha).2 b hb).1 hab).symm
 ·rw[if_neg hab,tbV]
  have key:∀i k,i<k→k<n→(kU ms n n).getD (uL n i+(k-i-1)) 0=mm ms i k:=fun i k hik hk=>by
   rw[zuH ms (i:=i) (t:=k-i-1) (by omega) n (by omega),show i+1+(k-i-1)=k by omega]
  rcases Nat.lt_or_gt_of_ne hab with hlt|hlt
  ·rw[KK (by omega),zbE (by omega),key a b hlt hb]
  ·rw[Nat.min_eq_right (by omega),Nat.max_eq_left (by omega),key b a hlt ha,h.sym a ha b hb]
theorem zvF:∀{bs:List (List Int)},(∀x∈bs,qK x=true)→uM (bs.map uv)=bs
 |[],_=>rfl
 |x::bs,h=>by
  have ih:=zvF fun y hy=>h y (zp _ hy)
  show(uT (uv x)).getD []::uM (bs.map uv)=_
  rw[ih,zu2 (h x (yi ..))]
  rfl
theorem zxC{bs ms:List (List Int)}(h:zc5 bs ms=true):kq (YI bs ms)∧uM (qH (YI bs ms))=bs∧uG (qH (YI bs ms)).length (kR (YI bs ms))=ms:=by
 have hcv:=Jb.1 h
 have hbr:∀x∈bs,qK x=true:=fun x hx=>by
  obtain⟨t,ht,rfl⟩:=ym.1 hx
  have:=hcv.br t ht
  rwa [zd,ze ht]at this
 have hno:∀{d:UInt8},ZD d=false→d≠40→d≠41→d≠44→d≠59→∀w∈bs.map uv,d∉w:=fun a b c d e w hw=>by
  obtain⟨x,hx,rfl⟩:=yD.1 hw
  exact zC0 a b c d e (zc7 (hbr x hx)) (zbB (hbr x hx))
 have n124:(124:UInt8)∉JJ bs:=zvg (by decide) (hno (by decide) (by decide) (by decide) (by decide) (by decide))
 obtain⟨us,hus⟩:∃us,us=kU ms bs.length bs.length:=⟨_,rfl⟩
 have hul:us.length=bs.length*(bs.length-1)/2:=by rw[hus,zjo,zxB _ (by have:=hcv.n6;omega)]
 have hok:okN us:=fun x hx=>by
  rw[hus,kU]at hx
  obtain⟨a,ha,hx⟩:=List.mem_flatMap.1 hx
  rw[List.mem_range]at ha
  rw[Zm]at hx
  obtain⟨b,hb,rfl⟩:=yD.1 hx
  have hb:=List.mem_range.1 (List.mem_of_mem_drop hb)
  have:=hcv.tab.row a ha
  have hE:=this.2 b hb
  by_cases hab:a=b
  ·rw[hE.1 hab];omega
  ·have:=hE.2 hab;omega
 have hcut:(qE 124 (YI bs ms)).1=JJ bs∧kR (YI bs ms)=us:=by
  rw[kR,YI,←hus]
  by_cases hz:us=[]
  ·rw[if_pos ((zbw us).2 hz),List.append_nil,zft n124,zbi,if_neg (by simp),hz]
   exact⟨rfl,rfl⟩
  ·rw[if_neg (fun e=>hz ((zbw us).1 e)),zkb _ n124,zbi,if_pos rfl]
   refine⟨rfl,?_⟩
   rw[QY,zev 32 (fun w hw=>?_) (by simpa using hz),zoV hok]
   obtain⟨z,hz2,rfl⟩:=yD.1 hw
   have:=hok z hz2
   exact zj8 this.1 this.2 (by decide)
 have hw:qH (YI bs ms)=bs.map uv:=by
  rw[qH,hcut.1,JJ,zev 32 (hno (by decide) (by decide) (by decide) (by decide) (by decide)) (fun e=>?_)]
  have:=hcv.n1
  rw[List.map_eq_nil_iff]at e
  rw[e]at this
  simp at this
 have hb:uM (qH (YI bs ms))=bs:=by rw[hw,zvF hbr]
 have hl:(qH (YI bs ms)).length=bs.length:=by rw[hw,zy]
 have ht:uG (qH (YI bs ms)).length (kR (YI bs ms))=ms:=by rw[hl,hcut.2,hus,zzd hcv.tab]
 refine⟨⟨by rw[hl];exact hcv.n6,fun w hw2=>?_,by rw[hcut.2,hl,hul],?_⟩,hb,ht⟩
 ·rw[hw]at hw2
  obtain⟨x,hx,rfl⟩:=yD.1 hw2
  rw[zu2 (hbr x hx)]
  rfl
 ·rw[hb,ht]
  exact h
end Go.Ax
namespace Go.Ax
def zfu:Nat→Code→Code×Code
 |0,c=>(.skip,c)
 |n+1,.seq a b=>(.seq a (zfu n b).1,(zfu n b).2)
 |_+1,c=>(.skip,c)
theorem zue(f g:yb→Prop)(Q:Yb):zbe f (zbe g Q)=zbe f Q:=by
 funext e S
 cases e<;>rfl
theorem zuE(L:Alg)(T:jX)(lp:QQ)(B:jT)(Bi:qP)(nt:Nat)(ks:List Nat)(Q:Yb):∀(n:Nat) (c:Code) (S:yb),Zk L T lp B Bi nt ks c Q S=Zk L T lp B Bi nt ks (zfu n c).1 (zbe (Zk L T lp B Bi nt ks (zfu n c).2 Q) Q) S
 |0,c,S=>rfl
 |n+1,c,S=>by
  cases c with
  |seq a b=>
   show Zk L T lp B Bi nt ks a (zbe (Zk L T lp B Bi nt ks b Q) Q) S=Zk L T lp B Bi nt ks a (zbe (Zk L T lp B Bi nt ks (zfu n b).1 (zbe (Zk L T lp B Bi nt ks (zfu n b).2 Q) Q)) (zbe (Zk L T lp B Bi nt ks (zfu n b).2 Q) Q)) S
   rw[zue,show Zk L T lp B Bi nt ks b Q=Zk L T lp B Bi nt ks (zfu n b).1 (zbe (Zk L T lp B Bi nt ks (zfu n b).2 Q) Q)from funext fun S=>zuE L T lp B Bi nt ks Q n b S]
  |_=>rfl
theorem zm4(L:Alg)(T:jX)(lp:QQ)(B:jT)(Bi:qP)(nt:Nat)(ks:List Nat)(Q:Yb)(n:Nat)(c:Code)(S:yb)
 (h:∀K:yb→Prop,K=Zk L T lp B Bi nt ks (zfu n c).2 Q→Zk L T lp B Bi nt ks (zfu n c).1 (zbe K Q) S):Zk L T lp B Bi nt ks c Q S:=by
 rw[zuE L T lp B Bi nt ks Q n c S]
 exact h _ rfl
end Go.Ax
