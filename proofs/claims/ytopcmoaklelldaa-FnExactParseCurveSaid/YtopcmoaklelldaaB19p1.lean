import Derived.Test.YtopcmoaklelldaaB18p1
import Derived.Test.YtopcmoaklelldaaAxP4p1
/-
 Curves in texts:the pure part. No conditions but those of the contracts.
-/
set_option linter.all false
namespace Go.Ax
open Go.Proofs
def uL (n:Nat):Nat→Nat
 |0=>0
 |i+1=>uL n i+(n-(i+1))
def tbV (n:Nat) (xs:List Int) (i k:Nat):Int:=xs.getD (uL n i+(k-i-1)) 0
def tbe (n:Nat) (xs:List Int) (a b:Nat):Int:=if a=b then 0 else tbV n xs (min a b) (max a b)
def tbS (n:Nat) (xs:List Int) (i k a b:Nat):Int:=if min a b<i∨(min a b=i∧max a b<k) then tbe n xs a b else 0
theorem tbS_zero (n:Nat) (xs:List Int):List.replicate n (List.replicate n (0:Int))=T2 n (tbS n xs 0 0):=by
 rw [T2_zero]
 exact T2_congr fun a b _ _=>by rw [tbS,if_neg (by omega)]
theorem tbS_row (xs:List Int) (i n:Nat):T2 n (tbS n xs i n)=T2 n (tbS n xs (i+1) 0):=T2_congr fun a b ha hb=>by
 rw [tbS,tbS]
 by_cases h:min a b<i+1
 ·rw [if_pos (by omega),if_pos (by omega)]
 ·rw [if_neg (by omega),if_neg (by omega)]
theorem tbS_skip (xs:List Int) (i n:Nat):T2 n (tbS n xs i 0)=T2 n (tbS n xs i (i+1)):=T2_congr fun a b ha hb=>by
 rw [tbS,tbS]
 by_cases h1:min a b<i
 ·rw [if_pos (by omega),if_pos (by omega)]
 ·by_cases h2:a=i∧b=i
  ·rw [if_neg (by omega),if_pos (by omega),tbe,if_pos (by omega)]
  ·rw [if_neg (by omega),if_neg (by omega)]
theorem tbS_all (n:Nat) (xs:List Int):T2 n (tbS n xs n 0)=T2 n (tbe n xs):=T2_congr fun a b ha hb=>by rw [tbS,if_pos (by omega)]
def tbH (n:Nat) (xs:List Int) (i k a b:Nat):Int:=if a=i∧b=k then tbV n xs i k else tbS n xs i k a b
theorem tbS_set1 {n i k:Nat} (xs:List Int) (hi:i<k) (hk:k<n):(T2 n (tbS n xs i k)).set i (((T2 n (tbS n xs i k)).getD i []).set k (tbV n xs i k))=T2 n (tbH n xs i k):=by
 refine T2_set (by omega) hk ?_ fun a b ha hb hab=> ?_
 ·rw [tbH,if_pos ⟨rfl,rfl⟩]
 ·rw [tbH,if_neg (by omega)]
theorem tbS_set2 {n i k:Nat} (xs:List Int) (hi:i<k) (hk:k<n):(T2 n (tbH n xs i k)).set k (((T2 n (tbH n xs i k)).getD k []).set i (tbV n xs i k))=T2 n (tbS n xs i (k+1)):=by
 refine T2_set hk (by omega) ?_ fun a b ha hb hab=> ?_
 ·rw [tbS,if_pos (by omega),tbe,if_neg (by omega),Nat.min_eq_right (by omega),Nat.max_eq_left (by omega)]
 ·rw [tbH,tbS,tbS]
  by_cases h:a=i∧b=k
  ·rw [if_pos h,if_pos (by omega),tbe,if_neg (by omega),h.1,h.2,Nat.min_eq_left (by omega),Nat.max_eq_right (by omega)]
  ·rw [if_neg h]
   by_cases h1:min a b<i∨(min a b=i∧max a b<k)
   ·rw [if_pos (by omega),if_pos h1]
   ·rw [if_neg (by omega),if_neg h1]
theorem uL_end {n i:Nat} (h:i<n):uL n i+(n-i-1)=uL n (i+1):=by rw [uL];omega
theorem uL_lt:∀n,n<7→∀i,i<n→∀k,k<n→i<k→uL n i+(k-i-1)<n*(n-1)/2:=by decide
theorem uL_on:∀n,n<7→∀p,p<n*(n-1)/2→∃i,i<n∧∃k,k<n∧i<k∧uL n i+(k-i-1)=p:=by decide
theorem uL_all:∀n,n<7→uL n n=n*(n-1)/2:=by decide
def numsC (c:By×By×Bool):List Int:=if c.2.2=true then (splitL 32 c.2.1).map numV else []
def bsC (ws:List By):List (List Int):=ws.map fun w=>(parB w).getD []
def tabC (n:Nat) (xs:List Int):List (List Int):=T2 n (tbe n xs)
def wsC (l:By):List By:=splitL 32 (cutL 124 l).1
def nsC (l:By):List Int:=numsC (cutL 124 l)
def goodC (l:By):Prop:=(wsC l).length≤6∧(∀w∈wsC l,(parB w).isSome=true)∧(nsC l).length=(wsC l).length*((wsC l).length-1)/2∧isCv (bsC (wsC l)) (tabC (wsC l).length (nsC l))=true
noncomputable def f_pcv (s:ByteArray):List V×List V×Int:=if @decide (goodC s.data.toList) (Classical.propDecidable _) then (BB false (bsC (wsC s.data.toList)),II false (tabC (wsC s.data.toList).length (nsC s.data.toList)),0) else ([],[],6)
theorem f_pcv_yes {s:ByteArray} (h:goodC s.data.toList):f_pcv s=(BB false (bsC (wsC s.data.toList)),II false (tabC (wsC s.data.toList).length (nsC s.data.toList)),0):=by
 rw [f_pcv,if_pos (@decide_eq_true _ (Classical.propDecidable _) h)]
theorem f_pcv_no {s:ByteArray} (h:¬goodC s.data.toList):f_pcv s=([],[],6):=by
 rw [f_pcv,@decide_eq_false _ (Classical.propDecidable _) h];rfl
theorem ws_pos (l:By):0<(wsC l).length:=List.length_pos_iff.2 (split_ne 32 _)
theorem bsC_len (ws:List By):(bsC ws).length=ws.length:=List.length_map ..
theorem good_nums {l:By} (h:goodC l):∀x∈nsC l,0≤x:=fun x hx=>by
 obtain ⟨p,hp,rfl⟩:=List.mem_iff_getElem.1 hx
 obtain ⟨h1,_,h3,h4⟩:=h
 obtain ⟨i,hi,k,hk,hik,e⟩:=uL_on (wsC l).length (by omega) p (by omega)
 have hcv:=isCv_iff.1 h4
 have hb:=bsC_len (wsC l)
 have:=(hcv.tab.range (i:=i) (k:=k) (by omega) (by omega)).1
 rw [mm,tabC,T2_get _ hi hk,tbe,if_neg (by omega),tbV,Nat.min_eq_left (by omega),Nat.max_eq_right (by omega),e,List.getD_eq_getElem?_getD,List.getElem?_eq_getElem hp] at this
 exact this
theorem good_more {l:By} (h:goodC l):(cutL 124 l).2.2=true↔1<(wsC l).length:=by
 obtain ⟨h1,_,h3,_⟩:=h
 have hp:=ws_pos l
 constructor
 ·intro hm
  rw [nsC,numsC,if_pos hm,List.length_map] at h3
  have:=List.length_pos_iff.2 (split_ne 32 (cutL 124 l).2.1)
  refine Classical.byContradiction fun hc=> ?_
  rw [show (wsC l).length=1 by omega] at h3
  omega
 ·intro hm
  cases hc:(cutL 124 l).2.2 with
  |true=>rfl
  |false=>
   have e:nsC l=[]:=by rw [nsC,numsC,if_neg (by rw [hc];simp)]
   rw [e,List.length_nil] at h3
   have:=uL_lt (wsC l).length (by omega) 0 (by omega) 1 hm (by omega)
   omega
theorem good_halves {l:By} (h:goodC l):(splitL 124 l).length≤2∧(splitL 124 l=[(cutL 124 l).1]∧(cutL 124 l).2.2=false∨splitL 124 l=[(cutL 124 l).1,(cutL 124 l).2.1]∧(cutL 124 l).2.2=true):=by
 rcases cut_cases 124 l with ⟨_,h2,h3⟩|⟨a,b,h1,h2,h3,h4⟩
 ·rw [h2,h3];exact ⟨by simp,.inl ⟨rfl,rfl⟩⟩
 ·have hb:(124:UInt8)∉b:=fun hb=>by
   obtain ⟨w,hw,hd⟩:=split_mem (c:=32) (d:=124) (by decide) hb
   have:=good_nums h (numV w) (by rw [nsC,numsC,h3,if_pos rfl];exact List.mem_map_of_mem hw)
   rw [numV,if_neg (by rw [canon_no hd (by decide)];simp)] at this
   omega
  rw [h3,h4,split_none hb]
  exact ⟨by simp,.inr ⟨rfl,rfl⟩⟩
theorem par_text {w:By} {xs:List Int} (h:parB w=some xs):brT xs=w∧isBr xs=true:=by
 rw [parB] at h
 split at h
 ·rename_i h1
  obtain ⟨⟨k1,k2,k3⟩,k4⟩:=h1
  simp only [Option.some.injEq] at h
  rw [←h]
  exact ⟨by rw [text_of k4];exact (inn_eq (by omega) k2 k3).symm,k4⟩
 ·cases h
theorem bsC_br {ws:List By} (h:∀w∈ws,(parB w).isSome=true):∀xs∈bsC ws,isBr xs=true:=fun xs hx=>by
 obtain ⟨w,hw,rfl⟩:=List.mem_map.1 hx
 obtain ⟨ys,hys⟩:=Option.isSome_iff_exists.1 (h w hw)
 show isBr ((parB w).getD [])=true
 rw [hys]
 exact (par_text hys).2
theorem bsC_rows {ws:List By} (h:∀w∈ws,(parB w).isSome=true):∀xs∈bsC ws,xs.length≤2147483647:=fun xs hx=>by
 have:=(br_of (bsC_br h xs hx)).len
 omega
theorem T2_rows {n:Nat} (f:Nat→Nat→Int):∀xs∈T2 n f,xs.length=n:=fun xs hx=>by
 obtain ⟨i,_,rfl⟩:=List.mem_map.1 hx
 exact tab_len _ _
theorem bs_text:∀{ws:List By},(∀w∈ws,(parB w).isSome=true)→(bsC ws).map brT=ws
 |[],_=>rfl
 |w::ws,h=>by
  have h1:=h w (List.mem_cons_self ..)
  obtain ⟨xs,hxs⟩:=Option.isSome_iff_exists.1 h1
  have ih:=bs_text fun v hv=>h v (List.mem_cons_of_mem _ hv)
  show brT ((parB w).getD [])::(bsC ws).map brT=_
  rw [ih,hxs,Option.getD_some,(par_text hxs).1]
theorem uppr_tab {n:Nat} {xs:List Int}:∀i,i≤n→uL n n≤xs.length→uppr (tabC n xs) n i=xs.take (uL n i)
 |0,_,_=>by simp [uppr,uL]
 |i+1,h,hx=>by
  have hmono:∀d j,j+d=n→uL n j≤uL n n:=fun d=>by
   induction d with
   |zero=>intro j hj;rw [show j=n by omega];exact Nat.le_refl _
   |succ d ih=>intro j hj;exact Nat.le_trans (by rw [uL];omega) (ih (j+1) (by omega))
  have hm:=hmono (n-(i+1)) (i+1) (by omega)
  rw [uL] at hm
  have hrow:rowU (tabC n xs) i n=(xs.drop (uL n i)).take (n-(i+1)):=by
   refine List.ext_getElem ?_ fun t h1 h2=> ?_
   ·rw [rowU,List.length_map,List.length_drop,List.length_range,List.length_take,List.length_drop];omega
   ·rw [rowU,List.length_map,List.length_drop,List.length_range] at h1
    simp only [rowU,List.getElem_map,List.getElem_drop,List.getElem_range,List.getElem_take]
    rw [mm,tabC,T2_get _ (by omega) (by omega),tbe,if_neg (by omega),tbV,Nat.min_eq_left (by omega),Nat.max_eq_right (by omega),show i+1+t-i-1=t by omega,List.getD_eq_getElem?_getD,List.getElem?_eq_getElem (by omega)]
    rfl
  rw [uppr_succ,uppr_tab i (by omega) hx,hrow,uL,List.take_add]
theorem good_text {l:By} (h:goodC l):cvT (bsC (wsC l)) (tabC (wsC l).length (nsC l))=l:=by
 have hn:=good_nums h
 obtain ⟨g1,g2⟩:=good_halves h
 have hm:=good_more h
 obtain ⟨h1,h2,h3,h4⟩:=h
 have hul:=uL_all (wsC l).length (by omega)
 have hup:uppr (tabC (wsC l).length (nsC l)) (bsC (wsC l)).length (bsC (wsC l)).length=nsC l:=by
  rw [bsC_len,uppr_tab _ (Nat.le_refl _) (by omega),List.take_of_length_le (by omega)]
 rw [cvT,hup,brsT,bs_text h2]
 have hj:joinL 32 (wsC l)=(cutL 124 l).1:=join_split 32 _
 rw [hj]
 rcases cut_cases 124 l with ⟨_,k2,_⟩|⟨a,b,k1,_,k3,_⟩
 ·have e:nsC l=[]:=by rw [nsC,numsC,k2];rfl
  rw [e,k2]
  simp [numT,joinL]
 ·have hno:nsC l=(splitL 32 b).map numV:=by rw [nsC,numsC,k3,if_pos rfl]
  have e:numT (nsC l)=b:=by
   have h5:(nsC l).map dcm=splitL 32 b:=by
    rw [hno] at hn ⊢
    rw [List.map_map]
    conv=>rhs;rw [←List.map_id (splitL 32 b)]
    refine List.map_congr_left fun w hw=> ?_
    exact dcm_num (num_pos (hn _ (List.mem_map_of_mem hw)))
   rw [numT,h5,join_split]
  have hne:b≠[]:=fun e2=>by
   rw [e2] at e
   have:=(numT_nil _).1 e
   rw [hno] at this
   exact split_ne 32 b (List.map_eq_nil_iff.1 this)
  rw [e,k3,if_neg hne]
  exact k1.symm
end Go.Ax
set_option linter.all false
namespace Go.Ax
def cutC:Nat→Code→Code×Code
 |0,c=>(.skip,c)
 |n+1,.seq a b=>(.seq a (cutC n b).1,(cutC n b).2)
 |_+1,c=>(.skip,c)
theorem thenS_thenS (f g:Sta→Prop) (Q:PostS):thenS f (thenS g Q)=thenS f Q:=by
 funext e S
 cases e<;>rfl
theorem wpS_cut (L:Alg) (T:Tab) (lp:LoopA) (B:Book) (Bi:IBook) (nt:Nat) (ks:List Nat) (Q:PostS):∀(n:Nat) (c:Code) (S:Sta),wpS L T lp B Bi nt ks c Q S=wpS L T lp B Bi nt ks (cutC n c).1 (thenS (wpS L T lp B Bi nt ks (cutC n c).2 Q) Q) S
 |0,c,S=>rfl
 |n+1,c,S=>by
  cases c with
  |seq a b=>
   show wpS L T lp B Bi nt ks a (thenS (wpS L T lp B Bi nt ks b Q) Q) S=wpS L T lp B Bi nt ks a (thenS (wpS L T lp B Bi nt ks (cutC n b).1 (thenS (wpS L T lp B Bi nt ks (cutC n b).2 Q) Q)) (thenS (wpS L T lp B Bi nt ks (cutC n b).2 Q) Q)) S
   rw [thenS_thenS,show wpS L T lp B Bi nt ks b Q=wpS L T lp B Bi nt ks (cutC n b).1 (thenS (wpS L T lp B Bi nt ks (cutC n b).2 Q) Q) from funext fun S=>wpS_cut L T lp B Bi nt ks Q n b S]
  |_=>rfl
theorem wpS_cut_of (L:Alg) (T:Tab) (lp:LoopA) (B:Book) (Bi:IBook) (nt:Nat) (ks:List Nat) (Q:PostS) (n:Nat) (c:Code) (S:Sta)
 (h:∀K:Sta→Prop,K=wpS L T lp B Bi nt ks (cutC n c).2 Q→wpS L T lp B Bi nt ks (cutC n c).1 (thenS K Q) S):wpS L T lp B Bi nt ks c Q S:=by
 rw [wpS_cut L T lp B Bi nt ks Q n c S]
 exact h _ rfl
end Go.Ax
