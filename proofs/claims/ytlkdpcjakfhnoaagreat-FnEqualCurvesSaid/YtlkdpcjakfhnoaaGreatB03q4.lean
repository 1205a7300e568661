import Derived.Test.YtlkdpcjakfhnoaaGreatB02q4
import Derived.Test.YtlkdpcjakfhnoaaGreatB01q4
import Derived.Shelf.SlLaysM
import Derived.Test.YtlkdpcjakfhnoaaGreatProg
import Derived.Sort.Row
set_option linter.all false
set_option maxRecDepth 100000
set_option maxHeartbeats 4000000
open Bool renaming and_eq_false_iff→jT,and_eq_true→zh,and_false→YQ
open Int renaming toNat_natCast→zC
open List renaming getD_eq_getElem?_getD→zd,getElem?_eq_getElem→ze,getElem?_eq_none→zI,getElem?_map→zH,getElem_mem→ya,length_append→zk,length_cons→zi,length_map→yh,length_nil→zr,length_take→zL,map_append→kt,mem_iff_getElem→qk,take_of_length_le→zB,take_succ_eq_append_getElem→zF
open Nat renaming le_of_ble_eq_true→zg
open Option.some renaming injEq→za
open Prod.mk renaming injEq→zb
/-
 What a curve is:the matrix of common points,IsCurve on both sides. No conditions but those of the contracts.
-/
namespace Go.Ax
open Go.Proofs
def mm(ms:List (List Int))(i k:Nat):Int:=(ms.getD i []).getD k 0
def zBM(i k:Nat)(c:Int):Prop:=(i=k→c=0)∧(i≠k→1≤c∧c≤200)
def zBy(ms:List (List Int))(n i:Nat):Prop:=(ms.getD i []).length=n∧∀k,k<n→zBM i k (mm ms i k)
def zD9(ms:List (List Int))(n i:Nat):Prop:=∀k,k<n→mm ms k i=mm ms i k
structure TabP (ms:List (List Int)) (n:Nat):Prop where
 len:ms.length=n
 row:∀i,i<n→zBy ms n i
 sym:∀i,i<n→zD9 ms n i
noncomputable def zet(es:List V)(n:Int):Bool:= @decide (TabP (kw es) n.toNat) (Classical.propDecidable _)
def zoq(es:List V)(n:Int):Prop:=zBA false es∧0≤n∧n≤2147483647
theorem zBh{p:Prop}(h:p): @decide p (Classical.propDecidable _)=true:= @decide_eq_true p (Classical.propDecidable _) h
theorem zkQ{p:Prop}(h:¬p): @decide p (Classical.propDecidable _)=false:= @decide_eq_false p (Classical.propDecidable _) h
def zut(f:List V→Int→Bool)(q:List V→Int→Prop):zN:=fun
 |[.slc false 30 (.slc false 2 (.int .i64 0) []) a0,.int .i64 a1]=>some ([q a0 a1],.bool (f a0 a1))
 |_=>none
theorem zpL:yT Tryz.prog 60 (zut zet zoq):=by
 intro args ps r h hp
 unfold zut at h
 split at h
 ·rename_i a0 a1
  simp only[za,zb]at h
  obtain⟨rfl,rfl⟩:=h
  obtain⟨⟨ms,hms⟩,n0,n1⟩:zoq a0 a1:=(zl.1 hp).1
  obtain⟨n,hn⟩:∃n:Nat,(n:Int)=a1:=⟨a1.toNat,by omega⟩
  have hn':a1.toNat=n:=by omega
  have hml:a0.length=ms.length:=by rw[hms,yk]
  have gm:∀k,a0.getD k (.slc false 2 (.int .i64 0) [])=.slc false 2 (.int .i64 0) (I (ms.getD k [])):=fun k=>by rw[hms,qB]
  have hT:TabP ms n→zet a0 a1=true:=fun h=>by rw[zet,hms,zO,hn'];exact zBh h
  have hF:¬TabP ms n→zet a0 a1=false:=fun h=>by rw[zet,hms,zO,hn'];exact zkQ h
  generalize yD:yG=je
  refine zD (T:=tab) (B:=[(80,jg je)]) (Bi:=[]) [0,1,4,5,6,7,8,9,10,11,12,17,18,19,28,29,30,54,55,56,61,62,63] Tryz.func60 rfl rfl (by kernel_rfl) (zg rfl) zP zQ (by subst yD;exact(zm zaN zy)) (by subst yD;exact zu) (by kernel_rfl) ?_
  intro L lp rr hL hr hf hlp
  have hle:=hf.1.1
  conv=>cbv
  simp only[zp hL,sQ,hml]
  refine⟨fun h=>?_,fun h=>?_⟩
  ·rw[hr,hF]
   intro ht
   have:=ht.len
   omega
  have hmn:ms.length=n:=by omega
  refine hlp (Int) _ _ _ [0,1,17,18,19] (fun x=>[(0,none,.val (.slc false 30 (.slc false 2 (.int .i64 0) []) a0)),(1,none,.val (.int .i64 a1)),(17,none,.val (.slc false 30 (.slc false 2 (.int .i64 0) []) a0)),(18,none,.val (.int .i64 a1)),(19,none,.val (.int .i64 x))])
   (fun x=>0≤x∧x≤a1∧∀t:Nat,t<x.toNat→zBy ms n t) (fun x=>(a1-x).toNat) (0) (by subst hL;rw[h];rfl) ?_ ?_
  ·exact⟨by omega,by omega,fun t ht=>by simp at ht⟩
  rintro i ⟨i0,i1,hI⟩ hfx ag hag
  conv=>cbv
  simp only[zp hL,sQ,hml,gm]
  refine⟨fun h2=>?_,fun h2=>?_⟩
  ·obtain⟨r,hR⟩:∃r,r=ms.getD i.toNat []:=⟨_,rfl⟩
   rw[←hR]
   refine⟨i0,by omega,fun h3=>?_,fun h3=>?_⟩
   ·rw[hr,hF]
    intro ht
    have:=(ht.row i.toNat (by omega)).1
    rw[←hR]at this
    omega
   have hrl:r.length=n:=by omega
   obtain⟨vr,hvr⟩:∃vr,vr=I r:=⟨_,rfl⟩
   have vrl:vr.length=n:=by rw[hvr,zj,hrl]
   have gr:∀t,vr.getD t (.int .i64 0)=.int .i64 (r.getD t 0):=fun t=>by rw[hvr,zR]
   rw[←hvr]
   refine hlp (Int) _ _ _ [0,1,5,17,18,19,28,29,30] (fun x=>[(0,none,.val (.slc false 30 (.slc false 2 (.int .i64 0) []) a0)),(1,none,.val (.int .i64 a1)),(5,none,.val (.int .i64 i)),(17,none,.val (.slc false 30 (.slc false 2 (.int .i64 0) []) a0)),(18,none,.val (.int .i64 a1)),(19,none,.val (.int .i64 i)),(28,none,.val (.slc false 2 (.int .i64 0) vr)),(29,none,.val (.int .i64 a1)),(30,none,.val (.int .i64 x))])
    (fun x=>0≤x∧x≤a1∧∀t:Nat,t<x.toNat→zBM i.toNat t (r.getD t 0)) (fun x=>(a1-x).toNat) (0) (by subst hL;rw[hrl,hn];rfl) ?_ ?_
   ·exact⟨by omega,by omega,fun t ht=>by simp at ht⟩
   rintro k ⟨k0,k1,hK⟩ hfx2 ag2 hag2
   conv=>cbv
   subst yD
   simp only[zp hL,sQ,vrl,gr]
   refine⟨fun h4=>⟨k0,by omega,fun h5 h6=>⟨h5,h6⟩,fun h5=>?_,fun h5=>?_⟩,fun h4=>?_⟩
   ·rw[hr,hF]
    intro ht
    have hE:=(ht.row i.toNat (by omega)).2 k.toNat (by omega)
    rw[mm,←hR]at hE
    rcases h5 with⟨h5,h6⟩|⟨h5,h6⟩
    ·exact h6 (hE.1 (by omega))
    ·have:=hE.2 (by omega)
     simp only[yG,jT,decide_eq_false_iff_not]at h6
     omega
   ·rw[zo (n:=k+1) (by omega) (by omega)]
    refine hag2 (k+1) ⟨by omega,by omega,fun t ht=>?_⟩ (by omega)
    by_cases htk:t=k.toNat
    ·rw[htk]
     refine⟨fun e=>h5.1.resolve_left (fun hne=>hne (by omega)),fun e=>?_⟩
     have:=h5.2.resolve_left (fun h=>e (by omega))
     simpa [yG]using this
    ·exact hK t (by omega)
   ·rw[zo (n:=i+1) (by omega) (by omega)]
    refine hag (i+1) ⟨by omega,by omega,fun t ht=>?_⟩ (by omega)
    by_cases hti:t=i.toNat
    ·rw[hti]
     refine⟨by rw[←hR];exact hrl,fun k' hk'=>?_⟩
     rw[mm,←hR]
     exact hK k' (by omega)
    ·exact hI t (by omega)
  ·have hrow:∀t,t<n→zBy ms n t:=fun t ht=>hI t (by omega)
   refine hlp (Int) _ _ _ [0,54,55,56] (fun x=>[(0,none,.val (.slc false 30 (.slc false 2 (.int .i64 0) []) a0)),(54,none,.val (.slc false 30 (.slc false 2 (.int .i64 0) []) a0)),(55,none,.val (.int .i64 a1)),(56,none,.val (.int .i64 x))])
    (fun x=>0≤x∧x≤a1∧∀t:Nat,t<x.toNat→zD9 ms n t) (fun x=>(a1-x).toNat) (0) (by subst hL;rw[h];rfl) ?_ ?_
   ·exact⟨by omega,by omega,fun t ht=>by simp at ht⟩
   rintro i ⟨i0,i1,hI⟩ hfx ag hag
   conv=>cbv
   simp only[zp hL,sQ,hml,gm]
   refine⟨fun h2=>?_,fun h2=>?_⟩
   ·obtain⟨r,hR⟩:∃r,r=ms.getD i.toNat []:=⟨_,rfl⟩
    have hrl:r.length=n:=by rw[hR];exact(hrow i.toNat (by omega)).1
    rw[←hR]
    obtain⟨vr,hvr⟩:∃vr,vr=I r:=⟨_,rfl⟩
    have vrl:vr.length=n:=by rw[hvr,zj,hrl]
    have gr:∀t,vr.getD t (.int .i64 0)=.int .i64 (r.getD t 0):=fun t=>by rw[hvr,zR]
    rw[←hvr]
    refine⟨i0,by omega,?_⟩
    refine hlp (Int) _ _ _ [0,9,54,55,56,61,62,63] (fun x=>[(0,none,.val (.slc false 30 (.slc false 2 (.int .i64 0) []) a0)),(9,none,.val (.int .i64 i)),(54,none,.val (.slc false 30 (.slc false 2 (.int .i64 0) []) a0)),(55,none,.val (.int .i64 a1)),(56,none,.val (.int .i64 i)),(61,none,.val (.slc false 2 (.int .i64 0) vr)),(62,none,.val (.int .i64 a1)),(63,none,.val (.int .i64 x))])
     (fun x=>0≤x∧x≤a1∧∀t:Nat,t<x.toNat→mm ms t i.toNat=r.getD t 0) (fun x=>(a1-x).toNat) (0) (by subst hL;rw[hrl,hn];rfl) ?_ ?_
    ·exact⟨by omega,by omega,fun t ht=>by simp at ht⟩
    rintro k ⟨k0,k1,hK⟩ hfx2 ag2 hag2
    conv=>cbv
    simp only[zp hL,sQ,vrl,gr,hml,gm]
    refine⟨fun h4=>?_,fun h4=>?_⟩
    ·have hkl:(ms.getD k.toNat []).length=n:=(hrow k.toNat (by omega)).1
     refine⟨k0,by omega,k0,by omega,i0,by omega,fun h5=>?_,fun h5=>?_⟩
     ·rw[hr,hF]
      intro ht
      have:=ht.sym i.toNat (by omega) k.toNat (by omega)
      rw[mm,mm,←hR]at this
      exact h5 this
     ·rw[zo (n:=k+1) (by omega) (by omega)]
      refine hag2 (k+1) ⟨by omega,by omega,fun t ht=>?_⟩ (by omega)
      by_cases htk:t=k.toNat
      ·rw[htk];exact h5
      ·exact hK t (by omega)
    ·rw[zo (n:=i+1) (by omega) (by omega)]
     refine hag (i+1) ⟨by omega,by omega,fun t ht=>?_⟩ (by omega)
     by_cases hti:t=i.toNat
     ·rw[hti]
      intro k' hk'
      have:=hK k' (by omega)
      rw[this,hR]
      rfl
     ·exact hI t (by omega)
   ·rw[hr,hT]
    exact⟨hmn,hrow,fun t ht=>hI t (by omega)⟩
 ·cases h
structure CvP (bs ms:List (List Int)):Prop where
 n1:1≤bs.length
 n6:bs.length≤6
 tab:TabP ms bs.length
 br:∀i,i<bs.length→YT (bs.getD i [])=true
 shr:∀i k,i<bs.length→k<bs.length→i≠k→shr (bs.getD i []) (bs.getD k []) (mm ms i k).toNat=true
 ult:∀i k j,i<bs.length→k<bs.length→j<bs.length→i≠k→j≠i→j≠k→¬mm ms i k<min (mm ms i j) (mm ms j k)
noncomputable def Yx(bs ms:List (List Int)):Bool:= @decide (CvP bs ms) (Classical.propDecidable _)
theorem Zm{bs ms:List (List Int)}:Yx bs ms=true↔CvP bs ms:=by
 rw[Yx]
 exact@decide_eq_true_iff _ (Classical.propDecidable _)
noncomputable def yB(a b:List V):Bool:=Yx (ur a) (kw b)
def uj(a b:List V):Prop:=zyF a∧zjx b
def zEe(bs ms:List (List Int))(i k:Nat):Prop:=i≠k→shr (bs.getD i []) (bs.getD k []) (mm ms i k).toNat=true∧∀j,j<bs.length→j≠i→j≠k→¬mm ms i k<min (mm ms i j) (mm ms j k)
def zun(bs:List (List Int))(n:Nat):List (List Int):=qD (fun i=>ua (bs.getD i []) 201) n
def Jc(f:List V→List V→Bool)(q:List V→List V→Prop):zN:=fun
 |[.agg [.slc false 68 (.agg [.slc false 2 (.int .i64 0) []]) a0,.slc false 30 (.slc false 2 (.int .i64 0) []) a1]]=>some ([q a0 a1],.bool (f a0 a1))
 |_=>none
theorem uT:yT Tryz.prog 29 (Jc yB uj):=by
 intro args ps r h hp
 unfold Jc at h
 split at h
 ·rename_i a0 a1
  simp only[za,zb]at h
  obtain⟨rfl,rfl⟩:=h
  obtain⟨⟨bs,hbs,hb1,hb2⟩,⟨ms,hms,hm1,hm2⟩⟩:uj a0 a1:=(zl.1 hp).1
  have g1:V.frzs a0=a0:=by rw[hbs,yL]
  have g2:V.frzs a1=a1:=by rw[hms,yF]
  have hbl:a0.length=bs.length:=by rw[hbs,yK]
  have hml:a1.length=ms.length:=by rw[hms,yk]
  have gb:∀k,a0.getD k (.agg [.slc false 2 (.int .i64 0) []])=.agg [.slc false 2 (.int .i64 0) (I (bs.getD k []))]:=fun k=>by rw[hbs,uo]
  have gm:∀k,a1.getD k (.slc false 2 (.int .i64 0) [])=.slc false 2 (.int .i64 0) (I (ms.getD k [])):=fun k=>by rw[hms,qB]
  obtain⟨n,hn⟩:∃n:Int,n=bs.length:=⟨_,rfl⟩
  have hT:CvP bs ms→yB a0 a1=true:=fun h=>by rw[yB,hbs,hms,zW,zO,Zm];exact h
  have hF:¬CvP bs ms→yB a0 a1=false:=fun h=>by rw[yB,hbs,hms,zW,zO];exact zkQ h
  have qt:zoq a1 n:=⟨⟨ms,hms⟩,by omega,by omega⟩
  have et:zet a1 n=true↔TabP ms bs.length:=by
   rw[zet,hms,zO,show n.toNat=bs.length by omega]
   exact@decide_eq_true_iff _ (Classical.propDecidable _)
  generalize znL:zet=zvk
  generalize znD:zoq=zvb
  generalize kb:uW=Za
  generalize yv:jU=qA
  generalize zqQ:zsq=zw9
  generalize ju:Yp=ZI
  generalize znS:zkJ=zvr
  generalize znI:zot=zvf
  generalize zq1:zo3=zxf
  generalize zqD:zxS=zw2
  refine zD (T:=tab) (B:=[(60,zut zvk zvb),(61,Ko Za qA),(63,zuH zw9 ZI),(62,zyv zvr zvf),(64,zql zxf zw2)]) (Bi:=[]) [0,1,2,3,4,6,7,8,9,28,29,30,44,45,48,49,73,74] Tryz.func29 rfl rfl (by kernel_rfl) (zg rfl) zP zQ (by subst znL znD kb yv zqQ ju znS znI zq1 zqD;exact(zm zpL (zm zoo (zm zjR (zm zr6 (zm zon zy)))))) (by subst znL znD kb yv zqQ ju znS znI zq1 zqD;exact zu) (by kernel_rfl) ?_
  intro L lp rr hL hr hf hlp
  have hbI:∀i:Nat,i<bs.length→qA (I (bs.getD i [])):=fun i hi=>by
   rw[←yv]
   exact⟨⟨_,rfl⟩,by rw[zj];exact hb2 _ (zag hi)⟩
  conv=>cbv
  have Q1:zvb a1 n:=by rw[←znD];exact qt
  have E1:zvk a1 n=true↔TabP ms bs.length:=by rw[←znL];exact et
  simp only[zp hL,sQ,g1,g2,hbl,←hn]
  refine⟨fun _=>Q1,fun h=>?_,fun h=>?_⟩
  ·rw[hr,hF]
   intro hc
   have h1:=hc.n1
   have h6:=hc.n6
   rcases h with(h|h)|h
   ·omega
   ·omega
   ·rw[E1.2 hc.tab]at h;cases h
  obtain⟨⟨n1,n6⟩,h3⟩:=h
  have htab:=E1.1 h3
  have hmn:=htab.len
  refine hlp (List V×Int) _ _ _ [1,3,4,28,29,30] (fun x=>[(1,none,.val (.box 27 (.agg [.slc false 68 (.agg [.slc false 2 (.int .i64 0) []]) a0,.slc false 30 (.slc false 2 (.int .i64 0) []) a1]))),(3,none,.val (.int .i64 n)),(4,none,.val (.slc true 30 (.slc true 2 (.int .i64 0) []) x.1)),(28,none,.val (.slc false 68 (.agg [.slc false 2 (.int .i64 0) []]) a0)),(29,none,.val (.int .i64 n)),(30,none,.val (.int .i64 x.2))])
   (fun x=>0≤x.2∧x.2≤n∧x.1=II true (zun bs x.2.toNat)∧∀t:Nat,t<x.2.toNat→YT (bs.getD t [])=true) (fun x=>(n-x.2).toNat) (([],0)) (by subst hL;rfl) ?_ ?_
  ·exact⟨by simp,by simp only;omega,rfl,fun t ht=>by simp at ht⟩
  rintro⟨es,i⟩ ⟨i0,i1,hI,hB⟩ hfx ag hag
  simp only at i0 i1 hI hB
  conv=>cbv
  simp only[zp hL,sQ,hbl,gb,uk,ut,uv]
  refine⟨fun h2=>?_,fun h2=>?_⟩
  ·have hil:i.toNat<bs.length:=by omega
   have eb:Za (I (bs.getD i.toNat []))=YT (bs.getD i.toNat []):=by rw[←kb,uW,zq]
   rw[eb]
   refine⟨i0,by omega,hbI _ hil,fun h4=>?_,fun h4=>?_⟩
   ·rw[hr,hF]
    intro hc
    rw[hc.br _ hil]at h4;cases h4
   ·have hbr:=YI h4
    have qp:ZI (I (bs.getD i.toNat [])) 201:=by rw[←ju];exact⟨⟨_,rfl,hbr⟩,by omega,by omega⟩
    have ep:V.frzs (zw9 (I (bs.getD i.toNat [])) 201)=II false (zfb (kC (bs.getD i.toNat []) 201)):=by rw[←zqQ,zsq,zq,yF];rfl
    have qc:zvf (II false (zfb (kC (bs.getD i.toNat []) 201))):=by rw[←znI];exact zvG _ (by omega) (by omega)
    have ec:zvr (II false (zfb (kC (bs.getD i.toNat []) 201)))=I (ua (bs.getD i.toNat []) 201):=by rw[←znS,zkJ,zO,zyr hbr]
    simp only[ep,ec]
    have hes:es.length=i.toNat:=by rw[hI,yk,zun,qh]
    rw[zo (n:=i+1) (by omega) (by omega)]
    refine⟨qp,qc,JP _,by simp only[zi,zr];omega,jZ rfl,hag (_,i+1) ⟨by simp only;omega,by simp only;omega,?_,fun t ht=>?_⟩ (by simp only;omega)⟩
    ·simp only[zU i0]
     rw[zun,Jj,ZH,hI]
     rfl
    ·simp only[zU i0]at ht
     by_cases hti:t=i.toNat
     ·rw[hti];exact h4
     ·exact hB t (by omega)
  ·have hbr:∀t,t<bs.length→YT (bs.getD t [])=true:=fun t ht=>hB t (by omega)
   have ht2:i.toNat=bs.length:=by omega
   rw[ht2]at hI
   have hel:es.length=bs.length:=by rw[hI,yk,zun,qh]
   have ge:∀k,k<bs.length→es.getD k (.slc true 2 (.int .i64 0) [])=.slc true 2 (.int .i64 0) (I (ua (bs.getD k []) 201)):=fun k hk=>by rw[hI,qB,zun,Zy _ _ _ _ hk]
   have ecs:∀x y c,zxf (I (ua x 201)) (I (ua y 201)) c=shr x y c.toNat:=fun x y c=>by rw[←zq1,zo3,zq,zq,shr]
   have qcs:∀x y c,1≤c→c≤200→zw2 (I (ua x 201)) (I (ua y 201)) c:=fun x y c h1 h2=>by rw[←zqD];exact⟨⟨_,rfl⟩,⟨_,rfl⟩,h1,by rw[zj,zhd];omega,by rw[zj,zhd];omega⟩
   have rl:∀k,k<bs.length→(ms.getD k []).length=bs.length:=fun k hk=>(htab.row k hk).1
   have ent:∀i k,i<bs.length→k<bs.length→i≠k→1≤mm ms i k∧mm ms i k≤200:=fun i k hi hk hne=>((htab.row i hi).2 k hk).2 hne
   refine hlp (Int) _ _ _ [1,3,4,44,45] (fun x=>[(1,none,.val (.box 27 (.agg [.slc false 68 (.agg [.slc false 2 (.int .i64 0) []]) a0,.slc false 30 (.slc false 2 (.int .i64 0) []) a1]))),(3,none,.val (.int .i64 n)),(4,none,.val (.slc true 30 (.slc true 2 (.int .i64 0) []) es)),(44,none,.val (.int .i64 n)),(45,none,.val (.int .i64 x))])
    (fun x=>0≤x∧x≤n∧∀t:Nat,t<x.toNat→∀k,k<bs.length→zEe bs ms t k) (fun x=>(n-x).toNat) (0) (by subst hL;rfl) ?_ ?_
   ·exact⟨by omega,by omega,fun t ht=>by simp at ht⟩
   rintro i ⟨i0,i1,hP⟩ hfx ag hag
   conv=>cbv
   simp only[zp hL,sQ,]
   refine⟨fun h2=>?_,fun h2=>?_⟩
   ·refine hlp (Int) _ _ _ [1,3,4,7,44,45,48,49] (fun x=>[(1,none,.val (.box 27 (.agg [.slc false 68 (.agg [.slc false 2 (.int .i64 0) []]) a0,.slc false 30 (.slc false 2 (.int .i64 0) []) a1]))),(3,none,.val (.int .i64 n)),(4,none,.val (.slc true 30 (.slc true 2 (.int .i64 0) []) es)),(7,none,.val (.int .i64 i)),(44,none,.val (.int .i64 n)),(45,none,.val (.int .i64 i)),(48,none,.val (.int .i64 n)),(49,none,.val (.int .i64 x))])
     (fun x=>0≤x∧x≤n∧∀t:Nat,t<x.toNat→zEe bs ms i.toNat t) (fun x=>(n-x).toNat) (0) (by subst hL;rfl) ?_ ?_
    ·exact⟨by omega,by omega,fun t ht=>by simp at ht⟩
    rintro k ⟨k0,k1,hQ⟩ hfx2 ag2 hag2
    conv=>cbv
    simp only[zp hL,sQ,hml,hel,gm]
    refine⟨fun h3=>?_,fun h3=>?_⟩
    ·have hil:i.toNat<bs.length:=by omega
     have hkl:k.toNat<bs.length:=by omega
     have rli:=rl _ hil
     have gei:=ge _ hil
     have gek:=ge _ hkl
     simp only[gei,gek,zp hL,sQ,ecs]
     have hmm:(ms.getD i.toNat []).getD k.toNat 0=mm ms i.toNat k.toNat:=rfl
     refine⟨fun h4=>?_,fun h4=>?_⟩
     ·rw[zo (n:=k+1) (by omega) (by omega)]
      refine hag2 (k+1) ⟨by omega,by omega,fun t ht=>?_⟩ (by omega)
      by_cases htk:t=k.toNat
      ·intro hne;exact absurd (by omega) hne
      ·exact hQ t (by omega)
     have hne:i.toNat≠k.toNat:=by omega
     have hen:=ent _ _ hil hkl hne
     obtain⟨c,hc⟩:∃c,c=mm ms i.toNat k.toNat:=⟨_,rfl⟩
     rw[hmm,←hc]
     rw[←hc]at hen
     have qi:=qcs (bs.getD i.toNat []) (bs.getD k.toNat []) c hen.1 hen.2
     refine⟨i0,by omega,hil,k0,by omega,hkl,i0,by omega,k0,by omega,hil,hkl,qi,fun h5=>?_,fun h5=>?_⟩
     ·rw[hr,hF]
      intro hv
      have:=hv.shr _ _ hil hkl hne
      rw[←hc,h5]at this
      cases this
     refine hlp (Int) _ _ _ [1,3,4,7,8,44,45,48,49,73,74] (fun x=>[(1,none,.val (.box 27 (.agg [.slc false 68 (.agg [.slc false 2 (.int .i64 0) []]) a0,.slc false 30 (.slc false 2 (.int .i64 0) []) a1]))),(3,none,.val (.int .i64 n)),(4,none,.val (.slc true 30 (.slc true 2 (.int .i64 0) []) es)),(7,none,.val (.int .i64 i)),(8,none,.val (.int .i64 k)),(44,none,.val (.int .i64 n)),(45,none,.val (.int .i64 i)),(48,none,.val (.int .i64 n)),(49,none,.val (.int .i64 k)),(73,none,.val (.int .i64 n)),(74,none,.val (.int .i64 x))])
      (fun x=>0≤x∧x≤n∧∀j:Nat,j<x.toNat→j≠i.toNat→j≠k.toNat→¬mm ms i.toNat k.toNat<min (mm ms i.toNat j) (mm ms j k.toNat)) (fun x=>(n-x).toNat) (0) (by subst hL;rfl) ?_ ?_
     ·exact⟨by omega,by omega,fun t ht=>by simp at ht⟩
     rintro j ⟨j0,j1,hJ⟩ hfx3 ag3 hag3
     conv=>cbv
     simp only[zp hL,sQ,hml,gm]
     have hm1:∀x y:Nat,(ms.getD x []).getD y 0=mm ms x y:=fun _ _=>rfl
     simp only[hm1]
     refine⟨fun h6=>?_,fun h6=>?_⟩
     ·have hjl:j.toNat<bs.length:=by omega
      have rlj:=rl _ hjl
      simp only[rli,rlj]
      refine⟨fun _=>by first|trivial|omega,fun _=>by first|trivial|omega,fun _=>by first|trivial|omega,fun _=>by first|trivial|omega,fun _=>by first|trivial|omega,fun _=>by first|trivial|omega,fun _=>by first|trivial|omega,fun _=>by first|trivial|omega,fun _=>by first|trivial|omega,fun _=>by first|trivial|omega,fun _=>by first|trivial|omega,fun _=>by first|trivial|omega,fun _=>by first|trivial|omega,fun _=>by first|trivial|omega,fun _=>by first|trivial|omega,fun _=>by first|trivial|omega,fun _=>by first|trivial|omega,fun _=>by first|trivial|omega,fun h7=>?_,fun h7=>?_⟩
      ·rw[hr,hF]
       intro hv
       exact hv.ult _ _ _ hil hkl hjl hne (by omega) (by omega) h7.2
      ·rw[zo (n:=j+1) (by omega) (by omega)]
       refine hag3 (j+1) ⟨by omega,by omega,fun t ht e1 e2=>?_⟩ (by omega)
       by_cases htj:t=j.toNat
       ·rw[htj]
        exact h7.resolve_left (by omega)
       ·exact hJ t (by omega) e1 e2
     ·rw[zo (n:=k+1) (by omega) (by omega)]
      refine hag2 (k+1) ⟨by omega,by omega,fun t ht=>?_⟩ (by omega)
      by_cases htk:t=k.toNat
      ·rw[htk]
       intro _
       refine⟨by rw[←hc];exact h5,fun j' hj' e1 e2=>hJ j' (by omega) e1 e2⟩
      ·exact hQ t (by omega)
    ·rw[zo (n:=i+1) (by omega) (by omega)]
     refine hag (i+1) ⟨by omega,by omega,fun t ht k' hk'=>?_⟩ (by omega)
     by_cases hti:t=i.toNat
     ·rw[hti];exact hQ k' (by omega)
     ·exact hP t (by omega) k' hk'
   ·rw[hr,hT]
    refine⟨by omega,by omega,htab,hbr,fun t k ht hk hne=>(hP t (by omega) k hk hne).1,fun t k j ht hk hj hne h1 h2=>(hP t (by omega) k hk hne).2 j hj h1 h2⟩
 ·cases h
end Go.Ax
namespace Go.Ax
open Go.Proofs
def zrk(bs ms:List (List Int))(i k:Nat):Prop:=zBM i k (mm ms i k)∧(i≠k→mm ms i k=mm ms k i)∧(i<k→shr (bs.getD i []) (bs.getD k []) (mm ms i k).toNat=true)
def zBx(bs ms:List (List Int))(i k:Nat):Prop:=∀j,j<bs.length→i≠k→i≠j→j≠k→¬mm ms i k<min (mm ms i j) (mm ms j k)
theorem CvP.of{bs ms:List (List Int)}(h1:1≤bs.length)(h6:bs.length≤6)(hl:ms.length=bs.length)(hA:∀t,t<bs.length→YT (bs.getD t [])=true∧(ms.getD t []).length=bs.length)
 (hB:∀t,t<bs.length→∀k,k<bs.length→zrk bs ms t k) (hC:∀t,t<bs.length→∀k,k<bs.length→zBx bs ms t k):CvP bs ms:=by
 refine⟨h1,h6,⟨hl,fun i hi=>⟨(hA i hi).2,fun k hk=>(hB i hi k hk).1⟩,fun i hi k hk=>?_⟩,fun i hi=>(hA i hi).1,fun i k hi hk hne=>?_,fun i k j hi hk hj hne h1 h2=>hC i hi k hk j hj hne (Ne.symm h1) h2⟩
 ·by_cases h:i=k
  ·rw[h]
  ·exact((hB i hi k hk).2.1 h).symm
 ·by_cases h:i<k
  ·exact(hB i hi k hk).2.2 h
  ·have:=(hB k hk i hi).2.2 (by omega)
   rw[zAm,(hB i hi k hk).2.1 hne]
   exact this
theorem zaa:yT Tryz.prog 24 (Jc yB uj):=by
 intro args ps r h hp
 unfold Jc at h
 split at h
 ·rename_i a0 a1
  simp only[za,zb]at h
  obtain⟨rfl,rfl⟩:=h
  obtain⟨⟨bs,hbs,hb1,hb2⟩,⟨ms,hms,hm1,hm2⟩⟩:uj a0 a1:=(zl.1 hp).1
  have g1:V.frzs a0=a0:=by rw[hbs,yL]
  have g2:V.frzs a1=a1:=by rw[hms,yF]
  have hbl:a0.length=bs.length:=by rw[hbs,yK]
  have hml:a1.length=ms.length:=by rw[hms,yk]
  have gb:∀k,a0.getD k (.agg [.slc false 2 (.int .i64 0) []])=.agg [.slc false 2 (.int .i64 0) (I (bs.getD k []))]:=fun k=>by rw[hbs,uo]
  have gm:∀k,a1.getD k (.slc false 2 (.int .i64 0) [])=.slc false 2 (.int .i64 0) (I (ms.getD k [])):=fun k=>by rw[hms,qB]
  obtain⟨n,hn⟩:∃n:Int,n=bs.length:=⟨_,rfl⟩
  have hT:CvP bs ms→yB a0 a1=true:=fun h=>by rw[yB,hbs,hms,zW,zO,Zm];exact h
  have hF:¬CvP bs ms→yB a0 a1=false:=fun h=>by rw[yB,hbs,hms,zW,zO];exact zkQ h
  have hm1:∀x y:Nat,(ms.getD x []).getD y 0=mm ms x y:=fun _ _=>rfl
  generalize kb:uW=Za
  generalize yv:jU=qA
  generalize yD:yG=je
  generalize zqM:zoY=zw6
  generalize zqx:zxJ=zwY
  refine zD (T:=tab) (B:=[(52,Ko Za qA),(48,jg je),(53,zqs zw6 zwY)]) (Bi:=[]) [0,1,2,3,4,5,6,7,8,9,10] Tryz.func24 rfl rfl (by kernel_rfl) (zg rfl) zP zQ (by subst kb yv yD zqM zqx;exact(zm zcA (zm YR (zm zpC zy)))) (by subst kb yv yD zqM zqx;exact zu) (by kernel_rfl) ?_
  intro L lp rr hL hr hf hlp
  have hbI:∀i:Nat,i<bs.length→qA (I (bs.getD i [])):=fun i hi=>by
   rw[←yv]
   exact⟨⟨_,rfl⟩,by rw[zj];exact hb2 _ (zag hi)⟩
  have eb:∀i:Nat,Za (I (bs.getD i []))=YT (bs.getD i []):=fun i=>by rw[←kb,uW,zq]
  conv=>cbv
  simp only[zp hL,sQ,g1,g2,hbl,hml,←hn]
  refine⟨fun h=>?_,fun h=>?_⟩
  ·rw[hr,hF]
   intro hc
   have h1:=hc.n1
   have h6:=hc.n6
   have hl:=hc.tab.len
   omega
  have hmn:ms.length=bs.length:=by omega
  refine hlp (Int) _ _ _ [1,3,4] (fun x=>[(1,none,.val (.box 27 (.agg [.slc false 68 (.agg [.slc false 2 (.int .i64 0) []]) a0,.slc false 30 (.slc false 2 (.int .i64 0) []) a1]))),(3,none,.val (.int .i64 n)),(4,none,.val (.int .i64 x))])
   (fun x=>0≤x∧x≤n∧∀t:Nat,t<x.toNat→YT (bs.getD t [])=true∧(ms.getD t []).length=bs.length) (fun x=>(n-x).toNat) (0) (by subst hL;rfl) ?_ ?_
  ·exact⟨by omega,by omega,fun t ht=>by simp at ht⟩
  rintro i ⟨i0,i1,hA⟩ hfx ag hag
  conv=>cbv
  simp only[zp hL,sQ,hbl,gb,uk,ut,uv,eb,hml,gm]
  refine⟨fun h2=>?_,fun h2=>?_⟩
  ·have hil:i.toNat<bs.length:=by omega
   refine⟨i0,by omega,hbI _ hil,fun _=>i0,fun _=>by omega,fun _=>trivial,fun h3=>?_,fun h3=>?_⟩
   ·rw[hr,hF]
    intro hc
    rcases h3 with h3|h3
    ·rw[hc.br _ hil]at h3;cases h3
    ·exact h3 (by rw[(hc.tab.row _ hil).1];omega)
   ·rw[zo (n:=i+1) (by omega) (by omega)]
    refine hag (i+1) ⟨by omega,by omega,fun t ht=>?_⟩ (by omega)
    by_cases hti:t=i.toNat
    ·rw[hti];exact⟨h3.1,by omega⟩
    ·exact hA t (by omega)
  have hA2:∀t,t<bs.length→YT (bs.getD t [])=true∧(ms.getD t []).length=bs.length:=fun t ht=>hA t (by omega)
  have rl:∀k,k<bs.length→(ms.getD k []).length=bs.length:=fun k hk=>(hA2 k hk).2
  have qsh:∀x y c,x<bs.length→y<bs.length→1≤c→c≤200→zwY (I (bs.getD x [])) (I (bs.getD y [])) c:=fun x y c hx hy h1 h2=>by
   rw[←zqx];exact⟨⟨_,rfl,YI (hA2 x hx).1⟩,⟨_,rfl,YI (hA2 y hy).1⟩,h1,h2⟩
  have esh:∀x y c,zw6 (I (bs.getD x [])) (I (bs.getD y [])) c=shr (bs.getD x []) (bs.getD y []) c.toNat:=fun x y c=>by rw[←zqM,zoY,zq,zq]
  clear hA hag hfx ag
  refine hlp (Int) _ _ _ [1,3,5] (fun x=>[(1,none,.val (.box 27 (.agg [.slc false 68 (.agg [.slc false 2 (.int .i64 0) []]) a0,.slc false 30 (.slc false 2 (.int .i64 0) []) a1]))),(3,none,.val (.int .i64 n)),(5,none,.val (.int .i64 x))])
   (fun x=>0≤x∧x≤n∧∀t:Nat,t<x.toNat→∀k,k<bs.length→zrk bs ms t k) (fun x=>(n-x).toNat) (0) (by subst hL;rfl) ?_ ?_
  ·exact⟨by omega,by omega,fun t ht=>by simp at ht⟩
  rintro i ⟨i0,i1,hP⟩ hfx ag hag
  conv=>cbv
  simp only[zp hL,sQ,]
  refine⟨fun h2=>?_,fun h2=>?_⟩
  ·have hil:i.toNat<bs.length:=by omega
   have rli:=rl _ hil
   refine hlp (Int) _ _ _ [1,3,5,6] (fun x=>[(1,none,.val (.box 27 (.agg [.slc false 68 (.agg [.slc false 2 (.int .i64 0) []]) a0,.slc false 30 (.slc false 2 (.int .i64 0) []) a1]))),(3,none,.val (.int .i64 n)),(5,none,.val (.int .i64 i)),(6,none,.val (.int .i64 x))])
    (fun x=>0≤x∧x≤n∧∀t:Nat,t<x.toNat→zrk bs ms i.toNat t) (fun x=>(n-x).toNat) (0) (by subst hL;rfl) ?_ ?_
   ·exact⟨by omega,by omega,fun t ht=>by simp at ht⟩
   rintro k ⟨k0,k1,hQ⟩ hfx2 ag2 hag2
   conv=>cbv
   simp only[zp hL,sQ,hml,gm,hbl,gb,uk,ut,uv,hm1,esh]
   refine⟨fun h3=>?_,fun h3=>?_⟩
   ·have hkl:k.toNat<bs.length:=by omega
    have rlk:=rl _ hkl
    have hgo:zrk bs ms i.toNat k.toNat→0≤k+1∧k+1≤n∧∀t:Nat,t<(k+1).toNat→zrk bs ms i.toNat t:=fun hb=>⟨by omega,by omega,fun t ht=>by
     by_cases htk:t=k.toNat
     ·rw[htk];exact hb
     ·exact hQ t (by omega)⟩
    obtain⟨c,hc⟩:∃c,c=mm ms i.toNat k.toNat:=⟨_,rfl⟩
    simp only[rli,rlk,←hc]
    subst yD
    rw[zo (n:=k+1) (by omega) (by omega)]
    refine⟨i0,by omega,k0,by omega,fun h4=>⟨fun h5=>?_,fun h5=>?_⟩,fun h4=>⟨fun _=>by first|trivial|omega,fun _=>by first|trivial|omega,fun _=>by first|trivial|omega,fun _=>by first|trivial|omega,fun _=>by first|trivial|omega,fun _=>by first|trivial|omega,fun h5=>?_,fun h5=>⟨fun _=>by first|trivial|omega,fun _=>by first|trivial|omega,fun _=>by first|trivial|omega,fun _=>by first|trivial|omega,fun _=>by first|trivial|omega,fun _=>by first|trivial|omega,fun h6=>?_,fun h6=>?_,fun h6=>?_⟩⟩⟩
    ·rw[hr,hF]
     intro hv
     exact h5 (by rw[hc];exact((hv.tab.row _ hil).2 _ hkl).1 (by omega))
    ·refine hag2 (k+1) (hgo ⟨⟨fun _=>by rw[←hc];exact h5,fun hne=>absurd (by omega) hne⟩,fun hne=>absurd (by omega) hne,fun hlt=>absurd hlt (by omega)⟩) (by omega)
    ·rw[hr,hF]
     intro hv
     have hE:=((hv.tab.row _ hil).2 _ hkl).2 (by omega)
     have hS:=hv.tab.sym _ hil _ hkl
     rw[←hc]at hE hS
     rcases h5 with h5|h5
     ·simp only[yG,jT,decide_eq_false_iff_not]at h5
      omega
     ·exact h5 hS.symm
    ·have hE:1≤c∧c≤200:=by simpa [yG]using h5.1
     exact qsh _ _ _ hil hkl hE.1 hE.2
    ·rw[hr,hF]
     intro hv
     have:=hv.shr _ _ hil hkl (by omega)
     rw[←hc,h6.2]at this
     cases this
    ·have hE:1≤c∧c≤200:=by simpa [yG]using h5.1
     refine hag2 (k+1) (hgo ⟨⟨fun he=>absurd (by omega) h4,fun _=>by rw[←hc];exact hE⟩,fun _=>by rw[←hc];exact h5.2,fun hlt=>?_⟩) (by omega)
     rw[←hc]
     exact h6.resolve_left (fun h=>h (by omega))
   ·rw[zo (n:=i+1) (by omega) (by omega)]
    refine hag (i+1) ⟨by omega,by omega,fun t ht k' hk'=>?_⟩ (by omega)
    by_cases hti:t=i.toNat
    ·rw[hti];exact hQ k' (by omega)
    ·exact hP t (by omega) k' hk'
  have hP2:∀t,t<bs.length→∀k,k<bs.length→zrk bs ms t k:=fun t ht=>hP t (by omega)
  clear hP hag hfx ag
  refine hlp (Int) _ _ _ [1,3,8] (fun x=>[(1,none,.val (.box 27 (.agg [.slc false 68 (.agg [.slc false 2 (.int .i64 0) []]) a0,.slc false 30 (.slc false 2 (.int .i64 0) []) a1]))),(3,none,.val (.int .i64 n)),(8,none,.val (.int .i64 x))])
   (fun x=>0≤x∧x≤n∧∀t:Nat,t<x.toNat→∀k,k<bs.length→zBx bs ms t k) (fun x=>(n-x).toNat) (0) (by subst hL;rfl) ?_ ?_
  ·exact⟨by omega,by omega,fun t ht=>by simp at ht⟩
  rintro i ⟨i0,i1,hP⟩ hfx ag hag
  conv=>cbv
  simp only[zp hL,sQ,]
  refine⟨fun h2=>?_,fun h2=>?_⟩
  ·have hil:i.toNat<bs.length:=by omega
   have rli:=rl _ hil
   refine hlp (Int) _ _ _ [1,3,8,9] (fun x=>[(1,none,.val (.box 27 (.agg [.slc false 68 (.agg [.slc false 2 (.int .i64 0) []]) a0,.slc false 30 (.slc false 2 (.int .i64 0) []) a1]))),(3,none,.val (.int .i64 n)),(8,none,.val (.int .i64 i)),(9,none,.val (.int .i64 x))])
    (fun x=>0≤x∧x≤n∧∀t:Nat,t<x.toNat→zBx bs ms i.toNat t) (fun x=>(n-x).toNat) (0) (by subst hL;rfl) ?_ ?_
   ·exact⟨by omega,by omega,fun t ht=>by simp at ht⟩
   rintro k ⟨k0,k1,hQ⟩ hfx2 ag2 hag2
   conv=>cbv
   simp only[zp hL,sQ,]
   refine⟨fun h3=>?_,fun h3=>?_⟩
   ·have hkl:k.toNat<bs.length:=by omega
    refine hlp (Int) _ _ _ [1,3,8,9,10] (fun x=>[(1,none,.val (.box 27 (.agg [.slc false 68 (.agg [.slc false 2 (.int .i64 0) []]) a0,.slc false 30 (.slc false 2 (.int .i64 0) []) a1]))),(3,none,.val (.int .i64 n)),(8,none,.val (.int .i64 i)),(9,none,.val (.int .i64 k)),(10,none,.val (.int .i64 x))])
     (fun x=>0≤x∧x≤n∧∀j:Nat,j<x.toNat→i.toNat≠k.toNat→i.toNat≠j→j≠k.toNat→¬mm ms i.toNat k.toNat<min (mm ms i.toNat j) (mm ms j k.toNat)) (fun x=>(n-x).toNat) (0) (by subst hL;rfl) ?_ ?_
    ·exact⟨by omega,by omega,fun t ht=>by simp at ht⟩
    rintro j ⟨j0,j1,hJ⟩ hfx3 ag3 hag3
    conv=>cbv
    simp only[zp hL,sQ,hml,gm,hm1]
    refine⟨fun h6=>?_,fun h6=>?_⟩
    ·have hjl:j.toNat<bs.length:=by omega
     have rlj:=rl _ hjl
     simp only[rli,rlj]
     refine⟨fun _=>by first|trivial|omega,fun _=>by first|trivial|omega,fun _=>by first|trivial|omega,fun _=>by first|trivial|omega,fun _=>by first|trivial|omega,fun _=>by first|trivial|omega,fun _=>by first|trivial|omega,fun _=>by first|trivial|omega,fun _=>by first|trivial|omega,fun _=>by first|trivial|omega,fun _=>by first|trivial|omega,fun _=>by first|trivial|omega,fun _=>by first|trivial|omega,fun _=>by first|trivial|omega,fun _=>by first|trivial|omega,fun _=>by first|trivial|omega,fun _=>by first|trivial|omega,fun _=>by first|trivial|omega,fun h7=>?_,fun h7=>?_⟩
     ·rw[hr,hF]
      intro hv
      exact hv.ult _ _ _ hil hkl hjl (by omega) (by omega) (by omega) h7.2
     ·rw[zo (n:=j+1) (by omega) (by omega)]
      refine hag3 (j+1) ⟨by omega,by omega,fun t ht e0 e1 e2=>?_⟩ (by omega)
      by_cases htj:t=j.toNat
      ·rw[htj]
       exact h7.resolve_left (by omega)
      ·exact hJ t (by omega) e0 e1 e2
    ·rw[zo (n:=k+1) (by omega) (by omega)]
     refine hag2 (k+1) ⟨by omega,by omega,fun t ht=>?_⟩ (by omega)
     by_cases htk:t=k.toNat
     ·rw[htk]
      exact fun j' hj'=>hJ j' (by omega)
     ·exact hQ t (by omega)
   ·rw[zo (n:=i+1) (by omega) (by omega)]
    refine hag (i+1) ⟨by omega,by omega,fun t ht k' hk'=>?_⟩ (by omega)
    by_cases hti:t=i.toNat
    ·rw[hti];exact hQ k' (by omega)
    ·exact hP t (by omega) k' hk'
  ·rw[hr,hT]
   exact CvP.of (by omega) (by omega) hmn hA2 hP2 (fun t ht=>hP t (by omega))
 ·cases h
end Go.Ax
namespace Go.Ax
open Go.Proofs
theorem TabP.range{ms:List (List Int)}{n:Nat}(h:TabP ms n){i k:Nat}(hi:i<n)(hk:k<n):0≤mm ms i k∧mm ms i k≤200:=by
 have hE:=(h.row i hi).2 k hk
 by_cases he:i=k
 ·have:=hE.1 he;omega
 ·have:=hE.2 he;omega
def ZN(a b:List V):Prop:=uj a b∧CvP (ur a) (kw b)
theorem KI{a b:List V}(h:uj a b)(hc:yB a b=true):ZN a b:=⟨h,Zm.1 hc⟩
def zbI(bs:List (List Int)):Nat→Int
 |0=>0
 |n+1=>zbI bs n+(bs.getD n []).getD 0 0
theorem zm7{bs:List (List Int)}(h:∀i,i<bs.length→Br (bs.getD i [])):∀n,n≤bs.length→0≤zbI bs n∧zbI bs n≤64*n
 |0,_=>by simp[zbI]
 |n+1,hn=>by
  have h1:=zm7 h n (by omega)
  have h2:=(h n (by omega)).first
  have h3:=(h n (by omega)).low 0 (h n (by omega)).pos
  simp only[zbI];omega
def Jb(f:List V→List V→Int)(q:List V→List V→Prop):zN:=fun
 |[.agg [.slc false 68 (.agg [.slc false 2 (.int .i64 0) []]) a0,.slc false 30 (.slc false 2 (.int .i64 0) []) a1]]=>some ([q a0 a1],.int .i64 (f a0 a1))
 |_=>none
def zan(a _:List V):Int:=zbI (ur a) a.length
theorem zc5:yT Tryz.prog 42 (Jb zan ZN):=by
 intro args ps r h hp
 unfold Jb at h
 split at h
 ·rename_i a0 a1
  simp only[za,zb]at h
  obtain⟨rfl,rfl⟩:=h
  obtain⟨⟨⟨bs,hbs,hb1,hb2⟩,⟨ms,hms,hm1,hm2⟩⟩,hcv⟩:=(zl.1 hp).1
  rw[hbs,hms,zW,zO]at hcv
  have g1:V.frzs a0=a0:=by rw[hbs,yL]
  have g2:V.frzs a1=a1:=by rw[hms,yF]
  have hbl:a0.length=bs.length:=by rw[hbs,yK]
  have hml:a1.length=ms.length:=by rw[hms,yk]
  have gb:∀k,a0.getD k (.agg [.slc false 2 (.int .i64 0) []])=.agg [.slc false 2 (.int .i64 0) (I (bs.getD k []))]:=fun k=>by rw[hbs,uo]
  have gm:∀k,a1.getD k (.slc false 2 (.int .i64 0) [])=.slc false 2 (.int .i64 0) (I (ms.getD k [])):=fun k=>by rw[hms,qB]
  have hm0:∀x y:Nat,(ms.getD x []).getD y 0=mm ms x y:=fun _ _=>rfl
  obtain⟨n,hn⟩:∃n:Int,n=bs.length:=⟨_,rfl⟩
  have n1:=hcv.n1
  have n6:=hcv.n6
  have hmn:ms.length=bs.length:=hcv.tab.len
  have hbr:∀i,i<bs.length→Br (bs.getD i []):=fun i hi=>YI (hcv.br i hi)
  have rl:∀k,k<bs.length→(ms.getD k []).length=bs.length:=fun k hk=>(hcv.tab.row k hk).1
  have mmr:∀i k,i<bs.length→k<bs.length→0≤mm ms i k∧mm ms i k≤200:=fun i k hi hk=>hcv.tab.range hi hk
  have mmo:∀i k,i<bs.length→k<bs.length→i≠k→1≤mm ms i k∧mm ms i k≤200:=fun i k hi hk hne=>((hcv.tab.row i hi).2 k hk).2 hne
  have hf0:zan a0 a1=zbI bs bs.length:=by rw[zan,hbl,hbs,zW]
  refine zD (T:=tab) (B:=[]) (Bi:=[]) [0,1,2,3,5,7,8,9] Tryz.func42 rfl rfl (by kernel_rfl) (zg rfl) zP zQ (by exact zy) (by exact zu) (by kernel_rfl) ?_
  intro L lp rr hL hr hf hlp
  conv=>cbv
  refine hlp (Int×Int) _ _ _ [3,7,8,9] (fun x=>[(3,none,.val (.int .i64 x.1)),(7,none,.val (.slc false 68 (.agg [.slc false 2 (.int .i64 0) []]) a0)),(8,none,.val (.int .i64 n)),(9,none,.val (.int .i64 x.2))])
   (fun x=>0≤x.2∧x.2≤n∧x.1=zbI bs x.2.toNat) (fun x=>(n-x.2).toNat) ((0,0)) (by subst hL;rw[hn,←hbl];rfl) ?_ ?_
  ·exact⟨by simp,by simp only;omega,rfl⟩
  rintro⟨s,i⟩ ⟨i0,i1,hI⟩ hfx ag hag
  simp only at i0 i1 hI
  conv=>cbv
  simp only[zp hL,sQ,hbl,gb,uk,ut,uv]
  refine⟨fun h2=>?_,fun h2=>?_⟩
  ·have hb:=hbr i.toNat (by omega)
   have hp:=hb.pos
   have h64:=hb.first
   have hlow:=hb.low 0 hp
   have hmu:=zm7 hbr i.toNat (by omega)
   rw[zo (n:=s+(bs.getD i.toNat []).getD 0 0) (by omega) (by omega),zo (n:=i+1) (by omega) (by omega)]
   (repeat' first|(exact yR _)|(exact jZ rfl)|(exact qL _)|(apply And.intro)|(intro _))<;>(try first|exact True.intro|omega|rfl|(simp only[zi,zr,zj];omega))
   refine hag (_,i+1) ⟨by simp only;omega,by simp only;omega,?_⟩ (by simp only;omega)
   simp only[zU i0]
   rw[zbI,hI]
  ·rw[hr,hf0,hI,show i.toNat=bs.length by omega]
 ·cases h
def YW(f:List V→List V→Int×Int)(q:List V→List V→Prop):zN:=fun
 |[.agg [.slc false 68 (.agg [.slc false 2 (.int .i64 0) []]) a0,.slc false 30 (.slc false 2 (.int .i64 0) []) a1]]=>some ([q a0 a1],.tup [.int .i64 ((f a0 a1).1),.int .i64 ((f a0 a1).2)])
 |_=>none
noncomputable def zeN(a b:List V):Int×Int:=bif yB a b then(zan a b,0)else(0,1)
theorem zfT:yT Tryz.prog 17 (YW zeN uj):=by
 intro args ps r h hp
 unfold YW at h
 split at h
 ·rename_i a0 a1
  simp only[za,zb]at h
  obtain⟨rfl,rfl⟩:=h
  have hq:uj a0 a1:=(zl.1 hp).1
  have g1:=uV hq.1.isBB
  have g2:=uU hq.2.isII
  generalize zY:yB=ji
  generalize qf:uj=jR
  generalize zb2:zan=znW
  generalize ko:ZN=Jf
  refine zD (T:=tab) (B:=[(29,Jc ji jR),(42,Jb znW Jf)]) (Bi:=[]) [0,1,2,3] Tryz.func17 rfl rfl (by kernel_rfl) (zg rfl) zP zQ (by subst zY qf zb2 ko;exact(zm uT (zm zc5 zy))) (by subst zY qf zb2 ko;exact zu) (by kernel_rfl) ?_
  intro L lp rr hL hr hf hlp
  conv=>cbv
  simp only[zp hL,sQ,g1,g2]
  subst zY qf zb2 ko
  refine⟨hq,fun h=>?_,fun h=>⟨KI hq h,?_⟩⟩
  ·rw[hr,zeN,h];rfl
  ·rw[hr,zeN,h];rfl
 ·cases h
theorem zfP:yT Tryz.prog 43 (YW zeN uj):=by
 intro args ps r h hp
 unfold YW at h
 split at h
 ·rename_i a0 a1
  simp only[za,zb]at h
  obtain⟨rfl,rfl⟩:=h
  have hq:uj a0 a1:=(zl.1 hp).1
  obtain⟨⟨bs,hbs,hb1,hb2⟩,⟨ms,hms,hm1,hm2⟩⟩:=id hq
  have g1:V.frzs a0=a0:=by rw[hbs,yL]
  have g2:V.frzs a1=a1:=by rw[hms,yF]
  have hbl:a0.length=bs.length:=by rw[hbs,yK]
  have gb:∀k,a0.getD k (.agg [.slc false 2 (.int .i64 0) []])=.agg [.slc false 2 (.int .i64 0) (I (bs.getD k []))]:=fun k=>by rw[hbs,uo]
  obtain⟨n,hn⟩:∃n:Int,n=bs.length:=⟨_,rfl⟩
  have hf0:zan a0 a1=zbI bs bs.length:=by rw[zan,hbl,hbs,zW]
  have hf1:yB a0 a1=true→CvP bs ms:=fun h=>by rw[yB,hbs,hms,zW,zO]at h;exact Zm.1 h
  generalize zY:yB=ji
  generalize qf:uj=jR
  refine zD (T:=tab) (B:=[(24,Jc ji jR)]) (Bi:=[]) [0,1,2,3,4,5] Tryz.func43 rfl rfl (by kernel_rfl) (zg rfl) zP zQ (by subst zY qf;exact(zm zaa zy)) (by subst zY qf;exact zu) (by kernel_rfl) ?_
  intro L lp rr hL hr hf hlp
  conv=>cbv
  simp only[zp hL,sQ,g1,g2]
  subst zY qf
  refine⟨hq,fun h=>?_,fun h=>?_⟩
  ·rw[hr,zeN,h];rfl
  have hbr:∀i,i<bs.length→Br (bs.getD i []):=fun i hi=>YI ((hf1 h).br i hi)
  have n6:=(hf1 h).n6
  refine hlp (Int×Int) _ _ _ [1,4,5] (fun x=>[(1,none,.val (.box 27 (.agg [.slc false 68 (.agg [.slc false 2 (.int .i64 0) []]) a0,.slc false 30 (.slc false 2 (.int .i64 0) []) a1]))),(4,none,.val (.int .i64 x.1)),(5,none,.val (.int .i64 x.2))])
   (fun x=>0≤x.2∧x.2≤n∧x.1=zbI bs x.2.toNat) (fun x=>(n-x.2).toNat) ((0,0)) (by subst hL;rfl) ?_ ?_
  ·exact⟨by simp,by simp only;omega,rfl⟩
  rintro⟨s,i⟩ ⟨i0,i1,hI⟩ hfx ag hag
  simp only at i0 i1 hI
  conv=>cbv
  simp only[zp hL,sQ,hbl,gb,uk,ut,uv,←hn]
  refine⟨fun h2=>?_,fun h2=>?_⟩
  ·have hb:=hbr i.toNat (by omega)
   have hp:=hb.pos
   have h64:=hb.first
   have hlow:=hb.low 0 hp
   have hmu:=zm7 hbr i.toNat (by omega)
   rw[zo (n:=s+(bs.getD i.toNat []).getD 0 0) (by omega) (by omega),zo (n:=i+1) (by omega) (by omega)]
   (repeat' first|(exact yR _)|(exact jZ rfl)|(exact qL _)|(apply And.intro)|(intro _))<;>(try first|exact True.intro|omega|rfl|(simp only[zi,zr,zj];omega))
   refine hag (_,i+1) ⟨by simp only;omega,by simp only;omega,?_⟩ (by simp only;omega)
   simp only[zU i0]
   rw[zbI,hI]
  ·rw[hr,zeN,h,cond_true,hf0,hI,show i.toNat=bs.length by omega]
 ·cases h
def zbJ(bs ms:List (List Int))(i k:Nat):Int:=zm9 (bs.getD i []) (bs.getD k []) (mm ms i k).toNat
def zih(f:List V→List V→Int→Int→Int)(q:List V→List V→Int→Int→Prop):zN:=fun
 |[.agg [.slc false 68 (.agg [.slc false 2 (.int .i64 0) []]) a0,.slc false 30 (.slc false 2 (.int .i64 0) []) a1],.int .i64 a2,.int .i64 a3]=>some ([q a0 a1 a2 a3],.int .i64 (f a0 a1 a2 a3))
 |_=>none
def zjk(a b:List V)(i k:Int):Int:=zbJ (ur a) (kw b) i.toNat k.toNat
def zxO(a b:List V)(i k:Int):Prop:=ZN a b∧0≤i∧i<a.length∧0≤k∧k<a.length∧i≠k
theorem zdh:yT Tryz.prog 47 (zih zjk zxO):=by
 intro args ps r h hp
 unfold zih at h
 split at h
 ·rename_i a0 a1 a2 a3
  simp only[za,zb]at h
  obtain⟨rfl,rfl⟩:=h
  obtain⟨⟨⟨⟨bs,hbs,hb1,hb2⟩,⟨ms,hms,hm1,hm2⟩⟩,hcv⟩,⟨x0,x1,x2,x3,x4⟩⟩:=(zl.1 hp).1
  rw[hbs,hms,zW,zO]at hcv
  have g1:V.frzs a0=a0:=by rw[hbs,yL]
  have g2:V.frzs a1=a1:=by rw[hms,yF]
  have hbl:a0.length=bs.length:=by rw[hbs,yK]
  have hml:a1.length=ms.length:=by rw[hms,yk]
  have gb:∀k,a0.getD k (.agg [.slc false 2 (.int .i64 0) []])=.agg [.slc false 2 (.int .i64 0) (I (bs.getD k []))]:=fun k=>by rw[hbs,uo]
  have gm:∀k,a1.getD k (.slc false 2 (.int .i64 0) [])=.slc false 2 (.int .i64 0) (I (ms.getD k [])):=fun k=>by rw[hms,qB]
  have hm0:∀x y:Nat,(ms.getD x []).getD y 0=mm ms x y:=fun _ _=>rfl
  obtain⟨n,hn⟩:∃n:Int,n=bs.length:=⟨_,rfl⟩
  have n1:=hcv.n1
  have n6:=hcv.n6
  have hmn:ms.length=bs.length:=hcv.tab.len
  have hbr:∀i,i<bs.length→Br (bs.getD i []):=fun i hi=>YI (hcv.br i hi)
  have rl:∀k,k<bs.length→(ms.getD k []).length=bs.length:=fun k hk=>(hcv.tab.row k hk).1
  have mmr:∀i k,i<bs.length→k<bs.length→0≤mm ms i k∧mm ms i k≤200:=fun i k hi hk=>hcv.tab.range hi hk
  have mmo:∀i k,i<bs.length→k<bs.length→i≠k→1≤mm ms i k∧mm ms i k≤200:=fun i k hi hk hne=>((hcv.tab.row i hi).2 k hk).2 hne
  rw[hbl]at x1 x3
  have hf0:zjk a0 a1 a2 a3=zbJ bs ms a2.toNat a3.toNat:=by rw[zjk,hbs,hms,zW,zO]
  have h1:=hbr a2.toNat (by omega)
  have h2:=hbr a3.toNat (by omega)
  have h3:=mmo a2.toNat a3.toNat (by omega) (by omega) (by omega)
  have h4:=rl a2.toNat (by omega)
  obtain⟨u,hu⟩:∃u,u=bs.getD a2.toNat []:=⟨_,rfl⟩
  obtain⟨v,hv⟩:∃v,v=bs.getD a3.toNat []:=⟨_,rfl⟩
  rw[←hu]at h1
  rw[←hv]at h2
  rw[zbJ,←hu,←hv]at hf0
  obtain⟨c,hc⟩:∃c,c=mm ms a2.toNat a3.toNat:=⟨_,rfl⟩
  rw[←hc]at h3 hf0
  have hqm:zeh (I u) (I v) c:=⟨⟨_,rfl,h1⟩,⟨_,rfl,h2⟩,by omega,by omega⟩
  have hfm:JI (I u) (I v) c=zm9 u v c.toNat:=by rw[JI,zq,zq]
  generalize Qt:JI=zb6
  generalize Qg:zeh=zb4
  refine zD (T:=tab) (B:=[(81,zdz zb6 zb4)]) (Bi:=[]) [0,1,2,3,6] Tryz.func47 rfl rfl (by kernel_rfl) (zg rfl) zP zQ (by subst Qt Qg;exact(zm zjS zy)) (by subst Qt Qg;exact zu) (by kernel_rfl) ?_
  intro L lp rr hL hr hf hlp
  conv=>cbv
  simp only[zp hL,sQ,hbl,gb,uk,ut,uv,←hu,←hv,gm,hml,h4,hm0,←hc]
  subst Qt Qg
  rw[hr,hf0,hfm]
  (repeat' first|(exact yR _)|(exact jZ rfl)|(exact qL _)|(apply And.intro)|(intro _))<;>(try first|exact True.intro|omega|rfl|(simp only[zi,zr,zj];omega))
  all_goals first|exact hqm.1|exact hqm.2.1|skip
 ·cases h
def JG(n:Nat)(i:Int):Bool:=yG i 0 ((n:Int)-1)
def zpf(f:List V→List V→Int→Bool)(q:List V→List V→Int→Prop):zN:=fun
 |[.agg [.slc false 68 (.agg [.slc false 2 (.int .i64 0) []]) a0,.slc false 30 (.slc false 2 (.int .i64 0) []) a1],.int .i64 a2]=>some ([q a0 a1 a2],.bool (f a0 a1 a2))
 |_=>none
def zt7(a _:List V)(i:Int):Bool:=JG a.length i
def zAz(a b:List V)(_:Int):Prop:=ZN a b
theorem zfR:yT Tryz.prog 46 (zpf zt7 zAz):=by
 intro args ps r h hp
 unfold zpf at h
 split at h
 ·rename_i a0 a1 a2
  simp only[za,zb]at h
  obtain⟨rfl,rfl⟩:=h
  obtain⟨⟨⟨bs,hbs,hb1,hb2⟩,⟨ms,hms,hm1,hm2⟩⟩,hcv⟩:=(zl.1 hp).1
  rw[hbs,hms,zW,zO]at hcv
  have g1:V.frzs a0=a0:=by rw[hbs,yL]
  have g2:V.frzs a1=a1:=by rw[hms,yF]
  have hbl:a0.length=bs.length:=by rw[hbs,yK]
  have hml:a1.length=ms.length:=by rw[hms,yk]
  have gb:∀k,a0.getD k (.agg [.slc false 2 (.int .i64 0) []])=.agg [.slc false 2 (.int .i64 0) (I (bs.getD k []))]:=fun k=>by rw[hbs,uo]
  have gm:∀k,a1.getD k (.slc false 2 (.int .i64 0) [])=.slc false 2 (.int .i64 0) (I (ms.getD k [])):=fun k=>by rw[hms,qB]
  have hm0:∀x y:Nat,(ms.getD x []).getD y 0=mm ms x y:=fun _ _=>rfl
  obtain⟨n,hn⟩:∃n:Int,n=bs.length:=⟨_,rfl⟩
  have n1:=hcv.n1
  have n6:=hcv.n6
  have hmn:ms.length=bs.length:=hcv.tab.len
  have hbr:∀i,i<bs.length→Br (bs.getD i []):=fun i hi=>YI (hcv.br i hi)
  have rl:∀k,k<bs.length→(ms.getD k []).length=bs.length:=fun k hk=>(hcv.tab.row k hk).1
  have mmr:∀i k,i<bs.length→k<bs.length→0≤mm ms i k∧mm ms i k≤200:=fun i k hi hk=>hcv.tab.range hi hk
  have mmo:∀i k,i<bs.length→k<bs.length→i≠k→1≤mm ms i k∧mm ms i k≤200:=fun i k hi hk hne=>((hcv.tab.row i hi).2 k hk).2 hne
  have hf0:zt7 a0 a1 a2=yG a2 0 (n-1):=by rw[zt7,JG,hbl,hn]
  generalize yD:yG=je
  refine zD (T:=tab) (B:=[(80,jg je)]) (Bi:=[]) [0,1,2,4] Tryz.func46 rfl rfl (by kernel_rfl) (zg rfl) zP zQ (by subst yD;exact(zm zaN zy)) (by subst yD;exact zu) (by kernel_rfl) ?_
  intro L lp rr hL hr hf hlp
  conv=>cbv
  simp only[zp hL,sQ,hbl,←hn]
  subst yD
  rw[zo (n:=n-1) (by omega) (by omega),hr,hf0]
 ·cases h
def znw(f:List V→List V→Int→Int→Int×Int)(q:List V→List V→Int→Int→Prop):zN:=fun
 |[.agg [.slc false 68 (.agg [.slc false 2 (.int .i64 0) []]) a0,.slc false 30 (.slc false 2 (.int .i64 0) []) a1],.int .i64 a2,.int .i64 a3]=>some ([q a0 a1 a2 a3],.tup [.int .i64 ((f a0 a1 a2 a3).1),.int .i64 ((f a0 a1 a2 a3).2)])
 |_=>none
noncomputable def zkG(a b:List V)(i k:Int):Int×Int:=bif yB a b then(bif JG a.length i&&JG a.length k&& !(i==k)then(zjk a b i k,0)else(0,2))else(0,1)
def zBV(a b:List V)(_ _:Int):Prop:=uj a b
theorem zdt{n:Nat}{i:Int}:JG n i=true↔0≤i∧i<n:=by
 simp only[JG,yG,zh,decide_eq_true_eq]
 omega
theorem ze9:yT Tryz.prog 21 (znw zkG zBV):=by
 intro args ps r h hp
 unfold znw at h
 split at h
 ·rename_i a0 a1 a2 a3
  simp only[za,zb]at h
  obtain⟨rfl,rfl⟩:=h
  have hq:uj a0 a1:=(zl.1 hp).1
  have g1:=uV hq.1.isBB
  have g2:=uU hq.2.isII
  generalize zY:yB=ji
  generalize qf:uj=jR
  generalize zgG:zt7=zpu
  generalize zgC:zAz=zvd
  generalize zaB:zjk=zgM
  generalize zaz:zxO=zgL
  refine zD (T:=tab) (B:=[(29,Jc ji jR),(46,zpf zpu zvd),(47,zih zgM zgL)]) (Bi:=[]) [0,1,2,3,6,7] Tryz.func21 rfl rfl (by kernel_rfl) (zg rfl) zP zQ (by subst zY qf zgG zgC zaB zaz;exact(zm uT (zm zfR (zm zdh zy)))) (by subst zY qf zgG zgC zaB zaz;exact zu) (by kernel_rfl) ?_
  intro L lp rr hL hr hf hlp
  conv=>cbv
  simp only[zp hL,sQ,g1,g2]
  subst zY qf zgG zgC zaB zaz
  refine⟨hq,fun h=>?_,fun h=>?_⟩
  ·rw[hr,zkG,h];rfl
  have hv:=KI hq h
  refine⟨hv,fun _=>hv,fun h2=>?_,fun h2=>?_⟩
  ·have hz:(JG a0.length a2&&JG a0.length a3&& !(a2==a3))=false:=by
    rcases h2 with(h2|h2)|h2
    ·rw[show JG a0.length a2=false from h2];rfl
    ·rw[show JG a0.length a3=false from h2,YQ];rfl
    ·rw[beq_iff_eq.2 h2,Bool.not_true,YQ]
   rw[hr,zkG,h,hz];rfl
  ·obtain⟨⟨h3,h4⟩,h5⟩:=h2
   have h3:JG a0.length a2=true:=h3
   have h4:JG a0.length a3=true:=h4
   have h3':=zdt.1 h3
   have h4':=zdt.1 h4
   have hz:(JG a0.length a2&&JG a0.length a3&& !(a2==a3))=true:=by
    rw[h3,h4,beq_eq_false_iff_ne.2 h5];rfl
   refine⟨⟨hv,h3'.1,h3'.2,h4'.1,h4'.2,h5⟩,?_⟩
   rw[hr,zkG,h,hz];rfl
 ·cases h
def zdb(bs ms:List (List Int))(i:Nat):Nat→Int
 |0=>0
 |k+1=>if k=i then zdb bs ms i k else W (zdb bs ms i k+zbJ bs ms i k)
def zfz(f:List V→List V→Int→Int×Int)(q:List V→List V→Int→Prop):zN:=fun
 |[.agg [.slc false 68 (.agg [.slc false 2 (.int .i64 0) []]) a0,.slc false 30 (.slc false 2 (.int .i64 0) []) a1],.int .i64 a2]=>some ([q a0 a1 a2],.tup [.int .i64 ((f a0 a1 a2).1),.int .i64 ((f a0 a1 a2).2)])
 |_=>none
noncomputable def za1(a b:List V)(i:Int):Int×Int:=bif yB a b then(bif JG a.length i then(zdb (ur a) (kw b) i.toNat a.length,0)else(0,2))else(0,1)
def zAD(a b:List V)(_:Int):Prop:=uj a b
theorem zfS:yT Tryz.prog 19 (zfz za1 zAD):=by
 intro args ps r h hp
 unfold zfz at h
 split at h
 ·rename_i a0 a1 a2
  simp only[za,zb]at h
  obtain⟨rfl,rfl⟩:=h
  have hq:uj a0 a1:=(zl.1 hp).1
  have g1:=uV hq.1.isBB
  have g2:=uU hq.2.isII
  obtain⟨n,hn⟩:∃n:Int,n=a0.length:=⟨_,rfl⟩
  have hnl:a0.length≤2147483647:=by
   obtain⟨bs,hbs,h1,_⟩:=hq.1
   rw[hbs,yK];exact h1
  generalize zY:yB=ji
  generalize qf:uj=jR
  generalize zgG:zt7=zpu
  generalize zgC:zAz=zvd
  generalize zaB:zjk=zgM
  generalize zaz:zxO=zgL
  refine zD (T:=tab) (B:=[(29,Jc ji jR),(46,zpf zpu zvd),(47,zih zgM zgL)]) (Bi:=[]) [0,1,2,4,5,6,7,17,18] Tryz.func19 rfl rfl (by kernel_rfl) (zg rfl) zP zQ (by subst zY qf zgG zgC zaB zaz;exact(zm uT (zm zfR (zm zdh zy)))) (by subst zY qf zgG zgC zaB zaz;exact zu) (by kernel_rfl) ?_
  intro L lp rr hL hr hf hlp
  conv=>cbv
  have E1:ji a0 a1=yB a0 a1:=by rw[zY]
  have E2:zpu a0 a1 a2=JG a0.length a2:=by rw[←zgG];rfl
  simp only[zp hL,sQ,g1,g2,E1,E2]
  subst zY qf
  refine⟨hq,fun h=>?_,fun h=>?_⟩
  ·rw[hr,za1,h];rfl
  have hv:=KI hq h
  refine⟨by rw[←zgC];exact hv,fun h2=>?_,fun h2=>?_⟩
  ·rw[hr,za1,h,h2];rfl
  have h2':=zdt.1 h2
  have hf0:za1 a0 a1 a2=(zdb (ur a0) (kw a1) a2.toNat a0.length,0):=by rw[za1,h,h2];rfl
  have hmt:∀k,zgM a0 a1 a2 k=zbJ (ur a0) (kw a1) a2.toNat k.toNat:=fun k=>by rw[←zaB];rfl
  have hqt:∀k:Int,0≤k→k<a0.length→a2≠k→zgL a0 a1 a2 k:=fun k k0 k1 hne=>by rw[←zaz];exact⟨hv,h2'.1,h2'.2,k0,k1,hne⟩
  refine hlp (Int×Int) _ _ _ [1,2,6,17,18] (fun x=>[(1,none,.val (.int .i64 a2)),(2,none,.val (.box 27 (.agg [.slc false 68 (.agg [.slc false 2 (.int .i64 0) []]) a0,.slc false 30 (.slc false 2 (.int .i64 0) []) a1]))),(6,none,.val (.int .i64 x.1)),(17,none,.val (.int .i64 n)),(18,none,.val (.int .i64 x.2))])
   (fun x=>0≤x.2∧x.2≤n∧x.1=zdb (ur a0) (kw a1) a2.toNat x.2.toNat) (fun x=>(n-x.2).toNat) ((0,0)) (by subst hL;rw[hn];rfl) ?_ ?_
  ·exact⟨by simp,by simp only;omega,rfl⟩
  rintro⟨s,k⟩ ⟨k0,k1,hI⟩ hfx ag hag
  simp only at k0 k1 hI
  conv=>cbv
  simp only[zp hL,sQ,g1,g2,hmt]
  refine⟨fun h3=>⟨fun h4=>⟨hqt k k0 (by omega) (fun e=>h4 e.symm),?_⟩,fun h4=>?_⟩,fun h3=>?_⟩
  ·rw[zo (n:=k+1) (by omega) (by omega)]
   refine hag (W (s+zbJ (ur a0) (kw a1) a2.toNat k.toNat),k+1) ⟨by simp only;omega,by simp only;omega,?_⟩ (by simp only;omega)
   simp only[zU k0]
   rw[zdb,if_neg (by omega),hI]
  ·rw[zo (n:=k+1) (by omega) (by omega)]
   refine hag (s,k+1) ⟨by simp only;omega,by simp only;omega,?_⟩ (by simp only;omega)
   simp only[zU k0]
   rw[zdb,if_pos (by omega),hI]
  ·rw[hr,hf0,hI,show k.toNat=a0.length by omega]
 ·cases h
theorem zfN:yT Tryz.prog 20 (zfz za1 zAD):=by
 intro args ps r h hp
 unfold zfz at h
 split at h
 ·rename_i a0 a1 a2
  simp only[za,zb]at h
  obtain⟨rfl,rfl⟩:=h
  have hq:uj a0 a1:=(zl.1 hp).1
  have g1:=uV hq.1.isBB
  have g2:=uU hq.2.isII
  obtain⟨N,hN⟩:∃n:Int,n=a0.length:=⟨_,rfl⟩
  have hnl:a0.length≤2147483647:=by
   obtain⟨bs,hbs,h1,_⟩:=hq.1
   rw[hbs,yK];exact h1
  have hof:∀i,yG i 0 (N-1)=JG a0.length i:=fun i=>by rw[JG,hN]
  have w1:IntKind.wrap .i64 (N-1)=N-1:=zo (by omega) (by omega)
  generalize zY:yB=ji
  generalize qf:uj=jR
  generalize yD:yG=je
  generalize Qt:JI=zb6
  generalize Qg:zeh=zb4
  refine zD (T:=tab) (B:=[(24,Jc ji jR),(48,jg je),(49,zdz zb6 zb4)]) (Bi:=[]) [0,1,2,4,5,6,7] Tryz.func20 rfl rfl (by kernel_rfl) (zg rfl) zP zQ (by subst zY qf yD Qt Qg;exact(zm zaa (zm YR (zm zhQ zy)))) (by subst zY qf yD Qt Qg;exact zu) (by kernel_rfl) ?_
  intro L lp rr hL hr hf hlp
  conv=>cbv
  have E1:ji a0 a1=yB a0 a1:=by rw[zY]
  simp only[zp hL,sQ,g1,g2,E1,←hN,w1]
  subst zY qf yD
  simp only[hof]
  refine⟨hq,fun h=>?_,fun h=>⟨fun h2=>?_,fun h2=>?_⟩⟩
  ·rw[hr,za1,h];rfl
  ·rw[hr,za1,h,h2];rfl
  have h2':=zdt.1 h2
  have hf0:za1 a0 a1 a2=(zdb (ur a0) (kw a1) a2.toNat a0.length,0):=by rw[za1,h,h2];rfl
  have hp:qy [ZN a0 a1]:=zl.2 ⟨KI hq h,fun q hq=>by cases hq⟩
  clear g1 g2
  obtain⟨⟨⟨bs,hbs,hb1,hb2⟩,⟨ms,hms,hm1,hm2⟩⟩,hcv⟩:=(zl.1 hp).1
  rw[hbs,hms,zW,zO]at hcv
  have g1:V.frzs a0=a0:=by rw[hbs,yL]
  have g2:V.frzs a1=a1:=by rw[hms,yF]
  have hbl:a0.length=bs.length:=by rw[hbs,yK]
  have hml:a1.length=ms.length:=by rw[hms,yk]
  have gb:∀k,a0.getD k (.agg [.slc false 2 (.int .i64 0) []])=.agg [.slc false 2 (.int .i64 0) (I (bs.getD k []))]:=fun k=>by rw[hbs,uo]
  have gm:∀k,a1.getD k (.slc false 2 (.int .i64 0) [])=.slc false 2 (.int .i64 0) (I (ms.getD k [])):=fun k=>by rw[hms,qB]
  have hm0:∀x y:Nat,(ms.getD x []).getD y 0=mm ms x y:=fun _ _=>rfl
  obtain⟨n,hn⟩:∃n:Int,n=bs.length:=⟨_,rfl⟩
  have n1:=hcv.n1
  have n6:=hcv.n6
  have hmn:ms.length=bs.length:=hcv.tab.len
  have hbr:∀i,i<bs.length→Br (bs.getD i []):=fun i hi=>YI (hcv.br i hi)
  have rl:∀k,k<bs.length→(ms.getD k []).length=bs.length:=fun k hk=>(hcv.tab.row k hk).1
  have mmr:∀i k,i<bs.length→k<bs.length→0≤mm ms i k∧mm ms i k≤200:=fun i k hi hk=>hcv.tab.range hi hk
  have mmo:∀i k,i<bs.length→k<bs.length→i≠k→1≤mm ms i k∧mm ms i k≤200:=fun i k hi hk hne=>((hcv.tab.row i hi).2 k hk).2 hne
  rw[hbl]at h2'
  have hmt:∀x y c,zb6 (I x) (I y) c=zm9 x y c.toNat:=fun x y c=>by rw[←Qt,JI,zq,zq]
  have hqt:∀x y c,Br x→Br y→1≤c→c≤200→zb4 (I x) (I y) c:=fun x y c hx hy h1 h2=>by rw[←Qg];exact⟨⟨_,rfl,hx⟩,⟨_,rfl,hy⟩,h1,by omega⟩
  rw[hbs,hms,zW,zO,yK,←hbs,←hms]at hf0
  refine hlp (Int×Int) _ _ _ [1,2,6,7] (fun x=>[(1,none,.val (.int .i64 a2)),(2,none,.val (.box 27 (.agg [.slc false 68 (.agg [.slc false 2 (.int .i64 0) []]) a0,.slc false 30 (.slc false 2 (.int .i64 0) []) a1]))),(6,none,.val (.int .i64 x.1)),(7,none,.val (.int .i64 x.2))])
   (fun x=>0≤x.2∧x.2≤n∧x.1=zdb bs ms a2.toNat x.2.toNat) (fun x=>(n-x.2).toNat) ((0,0)) (by subst hL;rfl) ?_ ?_
  ·exact⟨by simp,by simp only;omega,rfl⟩
  rintro⟨s,k⟩ ⟨k0,k1,hI⟩ hfx ag hag
  simp only at k0 k1 hI
  conv=>cbv
  simp only[zp hL,sQ,hbl,gb,uk,ut,uv,gm,hml,hm0,hmt,←hn]
  refine⟨fun h3=>⟨fun h4=>?_,fun h4=>?_⟩,fun h3=>?_⟩
  ·have hl:=rl a2.toNat (by omega)
   have hmo:=mmo a2.toNat k.toNat (by omega) (by omega) (by omega)
   have hqq:=hqt _ _ _ (hbr a2.toNat (by omega)) (hbr k.toNat (by omega)) hmo.1 hmo.2
   rw[hl,zo (n:=k+1) (by omega) (by omega)]
   refine⟨by omega,by omega,by omega,by omega,by omega,by omega,by omega,by omega,hqq,?_⟩
   refine hag (W (s+zbJ bs ms a2.toNat k.toNat),k+1) ⟨by simp only;omega,by simp only;omega,?_⟩ (by simp only;omega)
   simp only[zU k0]
   rw[zdb,if_neg (by omega),hI]
  ·rw[zo (n:=k+1) (by omega) (by omega)]
   refine hag (s,k+1) ⟨by simp only;omega,by simp only;omega,?_⟩ (by simp only;omega)
   simp only[zU k0]
   rw[zdb,if_pos (by omega),hI]
  ·rw[hr,hf0,hI,show k.toNat=bs.length by omega]
 ·cases h
end Go.Ax
namespace Go.Ax
open Go.Proofs
def dI(bs ms:List (List Int))(i:Nat)(s:Int):Nat→Int
 |0=>s
 |k+1=>W (dI bs ms i s k+zbJ bs ms i k)
def dOC(bs ms:List (List Int)):Nat→Int
 |0=>0
 |i+1=>dI bs ms i (W (dOC bs ms i+uD (kL (bs.getD i [])))) i
def zjm(a b:List V):Int:=dOC (ur a) (kw b) a.length
theorem zl9:yT Tryz.prog 77 (Jb zjm ZN):=by
 intro args ps r h hp
 unfold Jb at h
 split at h
 ·rename_i a0 a1
  simp only[za,zb]at h
  obtain⟨rfl,rfl⟩:=h
  have hv:ZN a0 a1:=(zl.1 hp).1
  obtain⟨⟨⟨bs,hbs,hb1,hb2⟩,⟨ms,hms,hm1,hm2⟩⟩,hcv⟩:=(zl.1 hp).1
  rw[hbs,hms,zW,zO]at hcv
  have g1:V.frzs a0=a0:=by rw[hbs,yL]
  have g2:V.frzs a1=a1:=by rw[hms,yF]
  have hbl:a0.length=bs.length:=by rw[hbs,yK]
  have hml:a1.length=ms.length:=by rw[hms,yk]
  have gb:∀k,a0.getD k (.agg [.slc false 2 (.int .i64 0) []])=.agg [.slc false 2 (.int .i64 0) (I (bs.getD k []))]:=fun k=>by rw[hbs,uo]
  have gm:∀k,a1.getD k (.slc false 2 (.int .i64 0) [])=.slc false 2 (.int .i64 0) (I (ms.getD k [])):=fun k=>by rw[hms,qB]
  have hm0:∀x y:Nat,(ms.getD x []).getD y 0=mm ms x y:=fun _ _=>rfl
  obtain⟨n,hn⟩:∃n:Int,n=bs.length:=⟨_,rfl⟩
  have n1:=hcv.n1
  have n6:=hcv.n6
  have hmn:ms.length=bs.length:=hcv.tab.len
  have hbr:∀i,i<bs.length→Br (bs.getD i []):=fun i hi=>YI (hcv.br i hi)
  have rl:∀k,k<bs.length→(ms.getD k []).length=bs.length:=fun k hk=>(hcv.tab.row k hk).1
  have mmr:∀i k,i<bs.length→k<bs.length→0≤mm ms i k∧mm ms i k≤200:=fun i k hi hk=>hcv.tab.range hi hk
  have mmo:∀i k,i<bs.length→k<bs.length→i≠k→1≤mm ms i k∧mm ms i k≤200:=fun i k hi hk hne=>((hcv.tab.row i hi).2 k hk).2 hne
  have hf0:zjm a0 a1=dOC bs ms bs.length:=by rw[zjm,hbl,hbs,hms,zW,zO]
  generalize zdK:zg8=ziu
  generalize jP:ZR=Yo
  generalize znP:zkH=zvo
  generalize zqC:zxR=zw1
  generalize zaB:zjk=zgM
  generalize zaz:zxO=zgL
  refine zD (T:=tab) (B:=[(108,zsy ziu Yo),(107,zqn zvo zw1),(47,zih zgM zgL)]) (Bi:=[]) [0,1,2,3,4,5,6,8,9,10,20,21] Tryz.func77 rfl rfl (by kernel_rfl) (zg rfl) zP zQ (by subst zdK jP znP zqC zaB zaz;exact(zm zgV (zm zpN (zm zdh zy)))) (by subst zdK jP znP zqC zaB zaz;exact zu) (by kernel_rfl) ?_
  intro L lp rr hL hr hf hlp
  have esq:∀x,V.frzs (ziu (I x))=I (JW x):=fun x=>by rw[←zdK,zg8,zq,zG]
  have qsq:∀x,Br x→Yo (I x):=fun x hx=>by rw[←jP];exact⟨_,rfl,hx⟩
  have edl:∀x,zvo (I (JW x))=uD (kL x):=fun x=>by rw[←znP,zkH,zq,zBg]
  have qdl:∀x,Br x→zw1 (I (JW x)):=fun x hx=>by rw[←zqC];exact⟨_,rfl,zv3 hx,zCd hx⟩
  have hmt:∀i k,zgM a0 a1 i k=zbJ bs ms i.toNat k.toNat:=fun i k=>by rw[←zaB,zjk,hbs,hms,zW,zO]
  have hqt:∀i k:Int,0≤i→i<n→0≤k→k<n→i≠k→zgL a0 a1 i k:=fun i k i0 i1 k0 k1 hne=>by rw[←zaz];exact⟨hv,i0,by omega,k0,by omega,hne⟩
  conv=>cbv
  refine hlp (Int×Int) _ _ _ [1,3,8,9,10] (fun x=>[(1,none,.val (.box 27 (.agg [.slc false 68 (.agg [.slc false 2 (.int .i64 0) []]) a0,.slc false 30 (.slc false 2 (.int .i64 0) []) a1]))),(3,none,.val (.int .i64 x.1)),(8,none,.val (.slc false 68 (.agg [.slc false 2 (.int .i64 0) []]) a0)),(9,none,.val (.int .i64 n)),(10,none,.val (.int .i64 x.2))])
   (fun x=>0≤x.2∧x.2≤n∧x.1=dOC bs ms x.2.toNat) (fun x=>(n-x.2).toNat) ((0,0)) (by subst hL;rw[hn,←hbl];rfl) ?_ ?_
  ·exact⟨by simp,by simp only;omega,rfl⟩
  rintro⟨s,i⟩ ⟨i0,i1,hI⟩ hfx ag hag
  simp only at i0 i1 hI
  conv=>cbv
  simp only[zp hL,sQ,hbl,gb,uk,ut,uv,esq,edl]
  refine⟨fun h2=>?_,fun h2=>?_⟩
  ·have hb:=hbr i.toNat (by omega)
   obtain⟨d,hd⟩:∃d,d=W (s+uD (kL (bs.getD i.toNat []))):=⟨_,rfl⟩
   refine⟨i0,by omega,qsq _ hb,qdl _ hb,?_⟩
   rw[show IntKind.wrap .i64 (s+uD (kL (bs.getD i.toNat [])))=d from hd.symm]
   refine hlp (Int×Int) _ _ _ [1,3,4,8,9,10,20,21] (fun x=>[(1,none,.val (.box 27 (.agg [.slc false 68 (.agg [.slc false 2 (.int .i64 0) []]) a0,.slc false 30 (.slc false 2 (.int .i64 0) []) a1]))),(3,none,.val (.int .i64 x.1)),(4,none,.val (.int .i64 i)),(8,none,.val (.slc false 68 (.agg [.slc false 2 (.int .i64 0) []]) a0)),(9,none,.val (.int .i64 n)),(10,none,.val (.int .i64 i)),(20,none,.val (.int .i64 i)),(21,none,.val (.int .i64 x.2))])
    (fun x=>0≤x.2∧x.2≤i∧x.1=dI bs ms i.toNat d x.2.toNat) (fun x=>(i-x.2).toNat) ((d,0)) (by subst hL;rfl) ?_ ?_
   ·exact⟨by simp,by simp only;omega,rfl⟩
   rintro⟨t,k⟩ ⟨k0,k1,hK⟩ hfx2 ag2 hag2
   simp only at k0 k1 hK
   conv=>cbv
   simp only[zp hL,sQ,g1,g2,hmt]
   refine⟨fun h3=>⟨hqt _ _ i0 h2 k0 (by omega) (by omega),?_⟩,fun h3=>?_⟩
   ·rw[zo (n:=k+1) (by omega) (by omega)]
    refine hag2 (W (t+zbJ bs ms i.toNat k.toNat),k+1) ⟨by simp only;omega,by simp only;omega,?_⟩ (by simp only;omega)
    simp only[zU k0]
    rw[dI,hK]
   ·rw[zo (n:=i+1) (by omega) (by omega)]
    refine hag (t,i+1) ⟨by simp only;omega,by simp only;omega,?_⟩ (by simp only;omega)
    simp only[zU i0]
    rw[dOC,←hI,←hd,hK,show k.toNat=i.toNat by omega]
  ·rw[hr,hf0,hI,show i.toNat=bs.length by omega]
 ·cases h
theorem zoc:yT Tryz.prog 78 (Jb zjm ZN):=by
 intro args ps r h hp
 unfold Jb at h
 split at h
 ·rename_i a0 a1
  simp only[za,zb]at h
  obtain⟨rfl,rfl⟩:=h
  obtain⟨⟨⟨bs,hbs,hb1,hb2⟩,⟨ms,hms,hm1,hm2⟩⟩,hcv⟩:=(zl.1 hp).1
  rw[hbs,hms,zW,zO]at hcv
  have g1:V.frzs a0=a0:=by rw[hbs,yL]
  have g2:V.frzs a1=a1:=by rw[hms,yF]
  have hbl:a0.length=bs.length:=by rw[hbs,yK]
  have hml:a1.length=ms.length:=by rw[hms,yk]
  have gb:∀k,a0.getD k (.agg [.slc false 2 (.int .i64 0) []])=.agg [.slc false 2 (.int .i64 0) (I (bs.getD k []))]:=fun k=>by rw[hbs,uo]
  have gm:∀k,a1.getD k (.slc false 2 (.int .i64 0) [])=.slc false 2 (.int .i64 0) (I (ms.getD k [])):=fun k=>by rw[hms,qB]
  have hm0:∀x y:Nat,(ms.getD x []).getD y 0=mm ms x y:=fun _ _=>rfl
  obtain⟨n,hn⟩:∃n:Int,n=bs.length:=⟨_,rfl⟩
  have n1:=hcv.n1
  have n6:=hcv.n6
  have hmn:ms.length=bs.length:=hcv.tab.len
  have hbr:∀i,i<bs.length→Br (bs.getD i []):=fun i hi=>YI (hcv.br i hi)
  have rl:∀k,k<bs.length→(ms.getD k []).length=bs.length:=fun k hk=>(hcv.tab.row k hk).1
  have mmr:∀i k,i<bs.length→k<bs.length→0≤mm ms i k∧mm ms i k≤200:=fun i k hi hk=>hcv.tab.range hi hk
  have mmo:∀i k,i<bs.length→k<bs.length→i≠k→1≤mm ms i k∧mm ms i k≤200:=fun i k hi hk hne=>((hcv.tab.row i hi).2 k hk).2 hne
  have hf0:zjm a0 a1=dOC bs ms bs.length:=by rw[zjm,hbl,hbs,hms,zW,zO]
  generalize zqX:zo1=zxd
  generalize jP:ZR=Yo
  generalize Qt:JI=zb6
  generalize Qg:zeh=zb4
  refine zD (T:=tab) (B:=[(109,zlT zxd Yo),(49,zdz zb6 zb4)]) (Bi:=[]) [0,1,2,3,4,5] Tryz.func78 rfl rfl (by kernel_rfl) (zg rfl) zP zQ (by subst zqX jP Qt Qg;exact(zm zoe (zm zhQ zy))) (by subst zqX jP Qt Qg;exact zu) (by kernel_rfl) ?_
  intro L lp rr hL hr hf hlp
  have edl:∀x,zxd (I x)=uD (kL x):=fun x=>by rw[←zqX,zo1,zq]
  have qsq:∀x,Br x→Yo (I x):=fun x hx=>by rw[←jP];exact⟨_,rfl,hx⟩
  have hmt:∀x y c,zb6 (I x) (I y) c=zm9 x y c.toNat:=fun x y c=>by rw[←Qt,JI,zq,zq]
  have hqt:∀x y c,Br x→Br y→1≤c→c≤200→zb4 (I x) (I y) c:=fun x y c hx hy h1 h2=>by rw[←Qg];exact⟨⟨_,rfl,hx⟩,⟨_,rfl,hy⟩,h1,by omega⟩
  conv=>cbv
  refine hlp (Int×Int) _ _ _ [1,3,4] (fun x=>[(1,none,.val (.box 27 (.agg [.slc false 68 (.agg [.slc false 2 (.int .i64 0) []]) a0,.slc false 30 (.slc false 2 (.int .i64 0) []) a1]))),(3,none,.val (.int .i64 x.1)),(4,none,.val (.int .i64 x.2))])
   (fun x=>0≤x.2∧x.2≤n∧x.1=dOC bs ms x.2.toNat) (fun x=>(n-x.2).toNat) ((0,0)) (by subst hL;rfl) ?_ ?_
  ·exact⟨by simp,by simp only;omega,rfl⟩
  rintro⟨s,i⟩ ⟨i0,i1,hI⟩ hfx ag hag
  simp only at i0 i1 hI
  conv=>cbv
  simp only[zp hL,sQ,hbl,gb,uk,ut,uv,edl,←hn]
  refine⟨fun h2=>?_,fun h2=>?_⟩
  ·have hb:=hbr i.toNat (by omega)
   have hri:=rl i.toNat (by omega)
   obtain⟨d,hd⟩:∃d,d=W (s+uD (kL (bs.getD i.toNat []))):=⟨_,rfl⟩
   refine⟨i0,by omega,qsq _ hb,?_⟩
   rw[show IntKind.wrap .i64 (s+uD (kL (bs.getD i.toNat [])))=d from hd.symm]
   refine hlp (Int×Int) _ _ _ [1,3,4,5] (fun x=>[(1,none,.val (.box 27 (.agg [.slc false 68 (.agg [.slc false 2 (.int .i64 0) []]) a0,.slc false 30 (.slc false 2 (.int .i64 0) []) a1]))),(3,none,.val (.int .i64 x.1)),(4,none,.val (.int .i64 i)),(5,none,.val (.int .i64 x.2))])
    (fun x=>0≤x.2∧x.2≤i∧x.1=dI bs ms i.toNat d x.2.toNat) (fun x=>(i-x.2).toNat) ((d,0)) (by subst hL;rfl) ?_ ?_
   ·exact⟨by simp,by simp only;omega,rfl⟩
   rintro⟨t,k⟩ ⟨k0,k1,hK⟩ hfx2 ag2 hag2
   simp only at k0 k1 hK
   conv=>cbv
   simp only[zp hL,sQ,hbl,gb,uk,ut,uv,gm,hml,hm0,hmt,hri]
   refine⟨fun h3=>?_,fun h3=>?_⟩
   ·have hmo:=mmo i.toNat k.toNat (by omega) (by omega) (by omega)
    have hqq:=hqt _ _ _ hb (hbr k.toNat (by omega)) hmo.1 hmo.2
    rw[zo (n:=k+1) (by omega) (by omega)]
    refine⟨by omega,by omega,by omega,by omega,by omega,by omega,by omega,by omega,hqq,?_⟩
    refine hag2 (W (t+zbJ bs ms i.toNat k.toNat),k+1) ⟨by simp only;omega,by simp only;omega,?_⟩ (by simp only;omega)
    simp only[zU k0]
    rw[dI,hK]
   ·rw[zo (n:=i+1) (by omega) (by omega)]
    refine hag (t,i+1) ⟨by simp only;omega,by simp only;omega,?_⟩ (by simp only;omega)
    simp only[zU i0]
    rw[dOC,←hI,←hd,hK,show k.toNat=i.toNat by omega]
  ·rw[hr,hf0,hI,show i.toNat=bs.length by omega]
 ·cases h
def zfk(a b:List V):Int:=W (W (W (2*zjm a b)-a.length)+1)
theorem zef:yT Tryz.prog 41 (Jb zfk ZN):=by
 intro args ps r h hp
 unfold Jb at h
 split at h
 ·rename_i a0 a1
  simp only[za,zb]at h
  obtain⟨rfl,rfl⟩:=h
  have hv:ZN a0 a1:=(zl.1 hp).1
  have g1:=uV hv.1.1.isBB
  have g2:=uU hv.1.2.isII
  generalize zgI:zjm=zvs
  generalize ko:ZN=Jf
  refine zD (T:=tab) (B:=[(77,Jb zvs Jf)]) (Bi:=[]) [0,1,2] Tryz.func41 rfl rfl (by kernel_rfl) (zg rfl) zP zQ (by subst zgI ko;exact(zm zl9 zy)) (by subst zgI ko;exact zu) (by kernel_rfl) ?_
  intro L lp rr hL hr hf hlp
  conv=>cbv
  simp only[zp hL,sQ,g1,g2]
  subst zgI ko
  exact⟨hv,hr.symm⟩
 ·cases h
theorem zmR:yT Tryz.prog 44 (Jb zfk ZN):=by
 intro args ps r h hp
 unfold Jb at h
 split at h
 ·rename_i a0 a1
  simp only[za,zb]at h
  obtain⟨rfl,rfl⟩:=h
  have hv:ZN a0 a1:=(zl.1 hp).1
  have g1:=uV hv.1.1.isBB
  have g2:=uU hv.1.2.isII
  generalize zgI:zjm=zvs
  generalize ko:ZN=Jf
  refine zD (T:=tab) (B:=[(78,Jb zvs Jf)]) (Bi:=[]) [0,1,2] Tryz.func44 rfl rfl (by kernel_rfl) (zg rfl) zP zQ (by subst zgI ko;exact(zm zoc zy)) (by subst zgI ko;exact zu) (by kernel_rfl) ?_
  intro L lp rr hL hr hf hlp
  conv=>cbv
  simp only[zp hL,sQ,g1,g2]
  subst zgI ko
  exact⟨hv,hr.symm⟩
 ·cases h
noncomputable def zqd(a b:List V):Int×Int:=bif yB a b then(zfk a b,0)else(0,1)
theorem zj3:yT Tryz.prog 16 (YW zqd uj):=by
 intro args ps r h hp
 unfold YW at h
 split at h
 ·rename_i a0 a1
  simp only[za,zb]at h
  obtain⟨rfl,rfl⟩:=h
  have hq:uj a0 a1:=(zl.1 hp).1
  have g1:=uV hq.1.isBB
  have g2:=uU hq.2.isII
  generalize zY:yB=ji
  generalize qf:uj=jR
  generalize JT:zfk=ziw
  generalize ko:ZN=Jf
  refine zD (T:=tab) (B:=[(29,Jc ji jR),(41,Jb ziw Jf)]) (Bi:=[]) [0,1,2,3] Tryz.func16 rfl rfl (by kernel_rfl) (zg rfl) zP zQ (by subst zY qf JT ko;exact(zm uT (zm zef zy))) (by subst zY qf JT ko;exact zu) (by kernel_rfl) ?_
  intro L lp rr hL hr hf hlp
  conv=>cbv
  simp only[zp hL,sQ,g1,g2]
  subst zY qf JT ko
  refine⟨hq,fun h=>?_,fun h=>⟨KI hq h,?_⟩⟩
  ·rw[hr,zqd,h];rfl
  ·rw[hr,zqd,h];rfl
 ·cases h
end Go.Ax
namespace Go.Ax
open Go.Proofs
end Go.Ax
namespace Go.Ax
open Go.Proofs
noncomputable def zji(a b:List V):Int×Int:=bif yB a b then(W (W (zfk a b+zan a b)-1),0)else(0,1)
theorem zj2:yT Tryz.prog 14 (YW zji uj):=by
 intro args ps r h hp
 unfold YW at h
 split at h
 ·rename_i a0 a1
  simp only[za,zb]at h
  obtain⟨rfl,rfl⟩:=h
  have hq:uj a0 a1:=(zl.1 hp).1
  have g1:=uV hq.1.isBB
  have g2:=uU hq.2.isII
  generalize zY:yB=ji
  generalize qf:uj=jR
  generalize JT:zfk=ziw
  generalize ko:ZN=Jf
  generalize zb2:zan=znW
  refine zD (T:=tab) (B:=[(29,Jc ji jR),(41,Jb ziw Jf),(42,Jb znW Jf)]) (Bi:=[]) [0,1,2,3] Tryz.func14 rfl rfl (by kernel_rfl) (zg rfl) zP zQ (by subst zY qf JT ko zb2;exact(zm uT (zm zef (zm zc5 zy)))) (by subst zY qf JT ko zb2;exact zu) (by kernel_rfl) ?_
  intro L lp rr hL hr hf hlp
  conv=>cbv
  simp only[zp hL,sQ,g1,g2]
  subst zY qf JT ko zb2
  refine⟨hq,fun h=>?_,fun h=>⟨KI hq h,KI hq h,?_⟩⟩
  ·rw[hr,zji,h];rfl
  ·rw[hr,zji,h];rfl
 ·cases h
theorem zj0:yT Tryz.prog 15 (YW zji uj):=by
 intro args ps r h hp
 unfold YW at h
 split at h
 ·rename_i a0 a1
  simp only[za,zb]at h
  obtain⟨rfl,rfl⟩:=h
  have hq:uj a0 a1:=(zl.1 hp).1
  have g1:=uV hq.1.isBB
  have g2:=uU hq.2.isII
  obtain⟨m,cd,hmc⟩:∃m cd,(m,cd)=zeN a0 a1:=⟨_,_,rfl⟩
  have hmc':=hmc
  generalize zgH:zeN=zlj
  generalize qf:uj=jR
  generalize JT:zfk=ziw
  generalize ko:ZN=Jf
  refine zD (T:=tab) (B:=[(43,YW zlj jR),(44,Jb ziw Jf)]) (Bi:=[]) [0,1,2,3,4,5] Tryz.func15 rfl rfl (by kernel_rfl) (zg rfl) zP zQ (by subst zgH qf JT ko;exact(zm zfP (zm zmR zy))) (by subst zgH qf JT ko;exact zu) (by kernel_rfl) ?_
  intro L lp rr hL hr hf hlp
  conv=>cbv
  have E1:zlj a0 a1=(m,cd):=by rw[←zgH,hmc]
  simp only[zp hL,sQ,g1,g2,E1]
  subst qf JT ko
  rw[zeN]at hmc'
  cases hi:yB a0 a1 with
  |false=>
   rw[hi]at hmc'
   obtain⟨rfl,rfl⟩:=zb ..▸hmc'
   refine⟨hq,fun _=>?_,fun h=>absurd h (by decide)⟩
   rw[hr,zji,hi];rfl
  |true=>
   rw[hi]at hmc'
   obtain⟨rfl,rfl⟩:=zb ..▸hmc'
   refine⟨hq,fun h=>absurd rfl h,fun _=>⟨KI hq hi,?_⟩⟩
   rw[hr,zji,hi];rfl
 ·cases h
theorem gAt{l:List Int}{k:Nat}(h:k<l.length):l[k]=l.getD k 0:=by
 rw[zd,ze h];rfl
def partB(bs:List (List Int))(l:List Int):List (List Int):=l.map fun i=>bs.getD i.toNat []
def partM(ms:List (List Int))(l:List Int):List (List Int):=l.map fun i=>l.map fun k=>mm ms i.toNat k.toNat
def zbx(f:List V→List V→List V→List V×List V)(q:List V→List V→List V→Prop):zN:=fun
 |[.agg [.slc false 68 (.agg [.slc false 2 (.int .i64 0) []]) a0,.slc false 30 (.slc false 2 (.int .i64 0) []) a1],.slc false 2 (.int .i64 0) a2]=>some ([q a0 a1 a2],.agg [.slc true 68 (.agg [.slc true 2 (.int .i64 0) []]) ((f a0 a1 a2).1),.slc true 30 (.slc true 2 (.int .i64 0) []) ((f a0 a1 a2).2)])
 |_=>none
def Yh(a b l:List V):List V×List V:=(BB true (partB (ur a) (qb l)),II true (partM (kw b) (qb l)))
def InL(n:Nat)(l:List Int):Prop:=∀k,k<l.length→0≤l.getD k 0∧l.getD k 0<n
def zor(a b l:List V):Prop:=ZN a b∧∃xs,l=I xs∧InL a.length xs∧xs.length≤1000
theorem zx2(bs:List (List Int))(l:List Int)(i:Nat)(h:i<l.length):partB bs (l.take (i+1))=partB bs (l.take i)++[bs.getD (l.getD i 0).toNat []]:=by
 rw[partB,zF h,kt,gAt h]
 rfl
def ziO(ms:List (List Int))(l:List Int)(i:Int):List Int:=l.map fun k=>mm ms i.toNat k.toNat
theorem zyX(ms:List (List Int))(l:List Int)(x:Int)(i:Nat)(h:i<l.length):ziO ms (l.take (i+1)) x=ziO ms (l.take i) x++[mm ms x.toNat (l.getD i 0).toNat]:=by
 rw[ziO,zF h,kt,gAt h]
 rfl
def zej(ms:List (List Int))(l:List Int)(n:Nat):List (List Int):=(l.take n).map (ziO ms l)
theorem zxZ(ms:List (List Int))(l:List Int)(i:Nat)(h:i<l.length):zej ms l (i+1)=zej ms l i++[ziO ms l (l.getD i 0)]:=by
 rw[zej,zF h,kt,gAt h]
 rfl
theorem zx1(ms:List (List Int))(l:List Int){n:Nat}(h:l.length≤n):zej ms l n=partM ms l:=by
 rw[zej,zB h];rfl
theorem kB(bs:List (List Int))(l:List Int):(partB bs l).length=l.length:=by simp[partB]
theorem zAt(ms:List (List Int))(l:List Int)(x:Int):(ziO ms l x).length=l.length:=by simp[ziO]
theorem zdc:yT Tryz.prog 27 (zbx Yh zor):=by
 intro args ps r h hp
 unfold zbx at h
 split at h
 ·rename_i a0 a1 a2
  simp only[za,zb]at h
  obtain⟨rfl,rfl⟩:=h
  obtain⟨⟨⟨⟨bs,hbs,hb1,hb2⟩,⟨ms,hms,hm1,hm2⟩⟩,hcv⟩,⟨ls,hls,hin,hll⟩⟩:=(zl.1 hp).1
  rw[hbs,hms,zW,zO]at hcv
  have g1:V.frzs a0=a0:=by rw[hbs,yL]
  have g2:V.frzs a1=a1:=by rw[hms,yF]
  have hbl:a0.length=bs.length:=by rw[hbs,yK]
  have hml:a1.length=ms.length:=by rw[hms,yk]
  have gb:∀k,a0.getD k (.agg [.slc false 2 (.int .i64 0) []])=.agg [.slc false 2 (.int .i64 0) (I (bs.getD k []))]:=fun k=>by rw[hbs,uo]
  have gm:∀k,a1.getD k (.slc false 2 (.int .i64 0) [])=.slc false 2 (.int .i64 0) (I (ms.getD k [])):=fun k=>by rw[hms,qB]
  have hm0:∀x y:Nat,(ms.getD x []).getD y 0=mm ms x y:=fun _ _=>rfl
  obtain⟨n,hn⟩:∃n:Int,n=bs.length:=⟨_,rfl⟩
  have n1:=hcv.n1
  have n6:=hcv.n6
  have hmn:ms.length=bs.length:=hcv.tab.len
  have hbr:∀i,i<bs.length→Br (bs.getD i []):=fun i hi=>YI (hcv.br i hi)
  have rl:∀k,k<bs.length→(ms.getD k []).length=bs.length:=fun k hk=>(hcv.tab.row k hk).1
  have mmr:∀i k,i<bs.length→k<bs.length→0≤mm ms i k∧mm ms i k≤200:=fun i k hi hk=>hcv.tab.range hi hk
  have mmo:∀i k,i<bs.length→k<bs.length→i≠k→1≤mm ms i k∧mm ms i k≤200:=fun i k hi hk hne=>((hcv.tab.row i hi).2 k hk).2 hne
  rw[hbl]at hin
  have hf0:Yh a0 a1 a2=(BB true (partB bs ls),II true (partM ms ls)):=by rw[Yh,hbs,hms,hls,zW,zO,zq]
  have hal:a2.length=ls.length:=by rw[hls,zj]
  have gl:∀k,a2.getD k (.int .i64 0)=.int .i64 (ls.getD k 0):=fun k=>by rw[hls,zR]
  obtain⟨m,hm⟩:∃m:Int,m=ls.length:=⟨_,rfl⟩
  generalize qu:same=jB
  generalize yv:jU=qA
  refine zD (T:=tab) (B:=[(59,zhf jB qA)]) (Bi:=[]) [2000010050,0,1,2,4,5,6,7,8] Tryz.func27 rfl rfl (by kernel_rfl) (zg rfl) zP zQ (by subst qu yv;exact(zm zjH zy)) (by subst qu yv;exact zu) (by kernel_rfl) ?_
  intro L lp rr hL hr hf hlp
  have qcp:∀x,Br x→qA (I x):=fun x hx=>by rw[←yv];exact⟨⟨_,rfl⟩,by rw[zj];have:=hx.len;omega⟩
  have ecp:∀x,jB (I x)=I x:=fun x=>by rw[←qu];rfl
  conv=>cbv
  refine hlp ((List V×List V)×Int) _ _ _ [1,2,4,5,6] (fun x=>[(1,none,.val (.slc false 2 (.int .i64 0) a2)),(2,none,.val (.box 27 (.agg [.slc false 68 (.agg [.slc false 2 (.int .i64 0) []]) a0,.slc false 30 (.slc false 2 (.int .i64 0) []) a1]))),(4,none,.val (.box 27 (.agg [.slc true 68 (.agg [.slc true 2 (.int .i64 0) []]) [],.slc true 30 (.slc true 2 (.int .i64 0) []) []]))),(5,none,.val (.box 27 (.agg [.slc true 68 (.agg [.slc true 2 (.int .i64 0) []]) x.1.1,.slc true 30 (.slc true 2 (.int .i64 0) []) x.1.2]))),(6,none,.val (.int .i64 x.2))])
   (fun x=>0≤x.2∧x.2≤m∧x.1.1=BB true (partB bs (ls.take x.2.toNat))∧x.1.2=II true (zej ms ls x.2.toNat)) (fun x=>(m-x.2).toNat) ((([],[]),0)) (by subst hL;rfl) ?_ ?_
  ·exact⟨by simp,by simp only;omega,rfl,rfl⟩
  rintro⟨⟨fs,gs⟩,i⟩ ⟨i0,i1,hI,hJ⟩ hfx ag hag
  simp only at i0 i1 hI hJ
  conv=>cbv
  simp only[zp hL,sQ,hal,gl,←hm]
  refine⟨fun h2=>?_,fun h2=>?_⟩
  ·have hil:i.toNat<ls.length:=by omega
   have hxi:=hin _ hil
   obtain⟨x,hx⟩:∃x,x=ls.getD i.toNat 0:=⟨_,rfl⟩
   rw[←hx]at hxi
   have hbx:=hbr x.toNat (by omega)
   have hrx:=rl x.toNat (by omega)
   have hfl:fs.length≤1000:=by rw[hI,yK,kB,zL];omega
   have hgl:gs.length≤1000:=by rw[hJ,yk,zej,yh,zL];omega
   have qx:=qcp _ hbx
   refine hlp (List V×Int) _ _ _ [1,2,4,5,6,7,8] (fun y=>[(1,none,.val (.slc false 2 (.int .i64 0) a2)),(2,none,.val (.box 27 (.agg [.slc false 68 (.agg [.slc false 2 (.int .i64 0) []]) a0,.slc false 30 (.slc false 2 (.int .i64 0) []) a1]))),(4,none,.val (.box 27 (.agg [.slc true 68 (.agg [.slc true 2 (.int .i64 0) []]) [],.slc true 30 (.slc true 2 (.int .i64 0) []) []]))),(5,none,.val (.box 27 (.agg [.slc true 68 (.agg [.slc true 2 (.int .i64 0) []]) fs,.slc true 30 (.slc true 2 (.int .i64 0) []) gs]))),(6,none,.val (.int .i64 i)),(7,none,.val (.slc true 2 (.int .i64 0) y.1)),(8,none,.val (.int .i64 y.2))])
    (fun y=>0≤y.2∧y.2≤m∧y.1=I (ziO ms (ls.take y.2.toNat) x)) (fun y=>(m-y.2).toNat) (([],0)) (by subst hL;rfl) ?_ ?_
   ·exact⟨by simp,by simp only;omega,rfl⟩
   rintro⟨rs,k⟩ ⟨k0,k1,hK⟩ hfx2 ag2 hag2
   simp only at k0 k1 hK
   conv=>cbv
   simp only[zp hL,sQ,hal,gl,gm,hml,hm0,←hx,hrx,←hm,hbl,gb,uk,ut,uv,ecp]
   refine⟨fun h3=>?_,fun h3=>?_⟩
   ·have hkl:k.toNat<ls.length:=by omega
    have hyk:=hin _ hkl
    have hrs:rs.length≤1000:=by rw[hK,zj,zAt,zL];omega
    rw[zo (n:=k+1) (by omega) (by omega)]
    (repeat' first|(exact yR _)|(exact jZ rfl)|(exact qL _)|(apply And.intro)|(intro _))<;>(try first|exact True.intro|omega|rfl|(simp only[zi,zr,zj];omega))
    refine hag2 (_,k+1) ⟨by simp only;omega,by simp only;omega,?_⟩ (by simp only;omega)
    simp only[zU k0]
    rw[zyX _ _ _ _ hkl,hK,←qr]
    rfl
   ·have hrs:rs=I (ziO ms ls x):=by rw[hK,zB (by omega)]
    obtain⟨fs',hfs'⟩:∃fs',fs'=fs++[V.agg [.slc true 2 (.int .i64 0) (I (bs.getD x.toNat []))]]:=⟨_,rfl⟩
    rw[zo (n:=i+1) (by omega) (by omega),←hfs']
    have hff:fs'=BB true (partB bs (ls.take (i.toNat+1))):=by
     rw[zx2 _ _ _ hil,hfs',hI,←hx]
     simp[BB]
    have hgg:gs++[V.slc true 2 (.int .i64 0) rs]=II true (zej ms ls (i.toNat+1)):=by
     rw[zxZ _ _ _ hil,ZH,hJ,hrs,←hx]
     rfl
    refine⟨i0,h2,hxi.1,hxi.2,qx,by simp only[zi,zr];omega,jZ rfl,by simp only[zi,zr];omega,jZ rfl,hag ((fs',_),i+1) ⟨by simp only;omega,by simp only;omega,?_,?_⟩ (by simp only;omega)⟩
    ·simp only[zU i0];exact hff
    ·simp only[zU i0];exact hgg
  ·rw[hr,hf0,hI,hJ,zB (by omega),zx1 _ _ (by omega)]
 ·cases h
def okp(n:Nat)(l:List Int):Bool:= !(l.length==0)&&asc l&&jX l 0 ((n:Int)-1)
def zqr(f:List V→List V→List V→List V×List V×Int)(q:List V→List V→List V→Prop):zN:=fun
 |[.agg [.slc false 68 (.agg [.slc false 2 (.int .i64 0) []]) a0,.slc false 30 (.slc false 2 (.int .i64 0) []) a1],.slc false 2 (.int .i64 0) a2]=>some ([q a0 a1 a2],.tup [.agg [.slc true 68 (.agg [.slc true 2 (.int .i64 0) []]) ((f a0 a1 a2).1),.slc true 30 (.slc true 2 (.int .i64 0) []) ((f a0 a1 a2).2.1)],.int .i64 ((f a0 a1 a2).2.2)])
 |_=>none
def zAC(a b l:List V):Prop:=uj a b∧jU l
end Go.Ax
namespace Go.Ax
open Go.Proofs
def za2(a b l:List V):List V×List V:=Yh a b (I (qj (qb l)))
def zsf(a b l:List V):Prop:=ZN a b∧∃xs,l=I xs∧KC xs∧xs.length=a.length
def zxD(ms:List (List Int))(ls:List Int)(i:Nat):List Int:=ZO ls (fun k=>mm ms i k) 0 ls.length ls.length
theorem za9:yT Tryz.prog 33 (zbx za2 zsf):=by
 intro args ps r h hp
 unfold zbx at h
 split at h
 ·rename_i a0 a1 a2
  simp only[za,zb]at h
  obtain⟨rfl,rfl⟩:=h
  obtain⟨⟨⟨⟨bs,hbs,hb1,hb2⟩,⟨ms,hms,hm1,hm2⟩⟩,hcv⟩,⟨ls,hls,hpm,hll⟩⟩:=(zl.1 hp).1
  rw[hbs,hms,zW,zO]at hcv
  have g1:V.frzs a0=a0:=by rw[hbs,yL]
  have g2:V.frzs a1=a1:=by rw[hms,yF]
  have hbl:a0.length=bs.length:=by rw[hbs,yK]
  have hml:a1.length=ms.length:=by rw[hms,yk]
  have gb:∀k,a0.getD k (.agg [.slc false 2 (.int .i64 0) []])=.agg [.slc false 2 (.int .i64 0) (I (bs.getD k []))]:=fun k=>by rw[hbs,uo]
  have gm:∀k,a1.getD k (.slc false 2 (.int .i64 0) [])=.slc false 2 (.int .i64 0) (I (ms.getD k [])):=fun k=>by rw[hms,qB]
  have hm0:∀x y:Nat,(ms.getD x []).getD y 0=mm ms x y:=fun _ _=>rfl
  obtain⟨n,hn⟩:∃n:Int,n=bs.length:=⟨_,rfl⟩
  have n1:=hcv.n1
  have n6:=hcv.n6
  have hmn:ms.length=bs.length:=hcv.tab.len
  have hbr:∀i,i<bs.length→Br (bs.getD i []):=fun i hi=>YI (hcv.br i hi)
  have rl:∀k,k<bs.length→(ms.getD k []).length=bs.length:=fun k hk=>(hcv.tab.row k hk).1
  have mmr:∀i k,i<bs.length→k<bs.length→0≤mm ms i k∧mm ms i k≤200:=fun i k hi hk=>hcv.tab.range hi hk
  have mmo:∀i k,i<bs.length→k<bs.length→i≠k→1≤mm ms i k∧mm ms i k≤200:=fun i k hi hk hne=>((hcv.tab.row i hi).2 k hk).2 hne
  rw[hbl]at hll
  have hf0:za2 a0 a1 a2=(BB true (partB bs (qj ls)),II true (partM ms (qj ls))):=by rw[za2,Yh,hbs,hms,hls,zW,zO,zq,zq]
  have hal:a2.length=ls.length:=by rw[hls,zj]
  have gl:∀k,a2.getD k (.int .i64 0)=.int .i64 (ls.getD k 0):=fun k=>by rw[hls,zR]
  have hin:=hpm.inr
  obtain⟨m,hm⟩:∃m:Int,m=ls.length:=⟨_,rfl⟩
  generalize qu:same=jB
  generalize yv:jU=qA
  generalize zhK:zhc=zmI
  generalize zyG:q_n=zEF
  refine zD (T:=tab) (B:=[(66,zhf jB qA),(65,zus zmI zEF)]) (Bi:=[]) [2000001012,2000001015,0,1,2,4,5,6,7,8,9,18,19,20,38,39,40] Tryz.func33 rfl rfl (by kernel_rfl) (zg rfl) zP zQ (by subst qu yv zhK zyG;exact(zm zeU (zm zr4 zy))) (by subst qu yv zhK zyG;exact zu) (by kernel_rfl) ?_
  intro L lp rr hL hr hf hlp
  have qcp:∀x,Br x→qA (I x):=fun x hx=>by rw[←yv];exact⟨⟨_,rfl⟩,by rw[zj];have:=hx.len;omega⟩
  have ecp:∀x,jB (I x)=I x:=fun x=>by rw[←qu];rfl
  have Esq:zmI m=II true (List.replicate ls.length (List.replicate ls.length 0)):=by rw[←zhK,zhc,hm,zC]
  conv=>cbv
  simp only[zp hL,sQ,hal,←hm,Esq]
  obtain⟨fs0,hfs0⟩:∃fs0,fs0=List.replicate m.toNat (V.agg [V.slc true 2 (V.int IntKind.i64 0) []]):=⟨_,rfl⟩
  obtain⟨gs0,hgs0⟩:∃gs0,gs0=II true (List.replicate ls.length (List.replicate ls.length 0)):=⟨_,rfl⟩
  have hF0:fs0=BB true (ZO ls (fun i=>bs.getD i []) [] ls.length 0):=by
   rw[hfs0,ZO,zvt,hm,zC];rfl
  have hG0:gs0=II true (ZO ls (zxD ms ls) (List.replicate ls.length 0) ls.length 0):=by rw[hgs0,ZO]
  rw[←hfs0,←hgs0]
  refine⟨by omega,by omega,by omega,by rw[←zyG];exact⟨by omega,by omega⟩,?_⟩
  refine hlp ((List V×List V)×Int) _ _ _ [1,2,4,5,18,19,20] (fun x=>[(1,none,.val (.slc false 2 (.int .i64 0) a2)),(2,none,.val (.box 27 (.agg [.slc false 68 (.agg [.slc false 2 (.int .i64 0) []]) a0,.slc false 30 (.slc false 2 (.int .i64 0) []) a1]))),(4,none,.val (.box 27 (.agg [.slc true 68 (.agg [.slc true 2 (.int .i64 0) []]) [],.slc true 30 (.slc true 2 (.int .i64 0) []) []]))),(5,none,.val (.box 27 (.agg [.slc true 68 (.agg [.slc true 2 (.int .i64 0) []]) x.1.1,.slc true 30 (.slc true 2 (.int .i64 0) []) x.1.2]))),(18,none,.val (.slc false 68 (.agg [.slc false 2 (.int .i64 0) []]) a0)),(19,none,.val (.int .i64 n)),(20,none,.val (.int .i64 x.2))])
   (fun x=>0≤x.2∧x.2≤n∧x.1.1=BB true (ZO ls (fun i=>bs.getD i []) [] ls.length x.2.toNat)∧x.1.2=II true (ZO ls (zxD ms ls) (List.replicate ls.length 0) ls.length x.2.toNat)) (fun x=>(n-x.2).toNat) (((fs0,gs0),0)) (by subst hL;rw[hn,←hbl];rfl) ?_ ?_
  ·exact⟨by simp,by simp only;omega,hF0,hG0⟩
  rintro⟨⟨fs,gs⟩,i⟩ ⟨i0,i1,hI,hJ⟩ hfx ag hag
  simp only at i0 i1 hI hJ
  have hfl:fs.length=ls.length:=by rw[hI,yK,Yw]
  have hgl:gs.length=ls.length:=by rw[hJ,yk,Yw]
  obtain⟨fsg,hfsg⟩:∃fsg:Nat→List Int,∀k,fs.getD k (V.agg [V.slc true 2 (V.int IntKind.i64 0) []])=V.agg [V.slc true 2 (V.int IntKind.i64 0) (I (fsg k))]:=⟨fun k=>(ZO ls (fun i=>bs.getD i []) [] ls.length i.toNat).getD k [],fun k=>by rw[hI,uo]⟩
  conv=>cbv
  simp only[zp hL,sQ,hbl,hml,gb,gm,uk,ut,uv,hal,gl,ecp,hfl,hgl,hfsg,←hn]
  refine⟨fun h2=>?_,fun h2=>?_⟩
  ·have hil:i.toNat<ls.length:=by omega
   have hxi:=hin _ hil
   have hbx:=hbr i.toNat (by omega)
   have hrx:=rl i.toNat (by omega)
   have qx:=qcp _ hbx
   obtain⟨fs',hfs'⟩:∃fs',fs'=fs.set (ls.getD i.toNat 0).toNat (V.agg [.slc true 2 (.int .i64 0) (I (bs.getD i.toNat []))]):=⟨_,rfl⟩
   obtain⟨vr,hvr⟩:∃vr,vr=I (ms.getD i.toNat []):=⟨_,rfl⟩
   have hvl:vr.length=ls.length:=by rw[hvr,zj];omega
   have gv:∀k,vr.getD k (.int .i64 0)=.int .i64 (mm ms i.toNat k):=fun k=>by rw[hvr,zR,hm0]
   obtain⟨r,hrr⟩:∃r:Int,r=(ms.getD i.toNat []).length:=⟨_,rfl⟩
   have hrn:r=n:=by omega
   obtain⟨G,hG⟩:∃G,G=ZO ls (zxD ms ls) (List.replicate ls.length 0) ls.length i.toNat:=⟨_,rfl⟩
   have hGl:G.length=ls.length:=by rw[hG,Yw]
   rw[←hG]at hJ
   rw[←hfs',←hvr]
   refine⟨i0,h2,i0,by omega,qx,hxi.1,hxi.2,by omega,.inl (uk _ _ _),i0,by omega,?_⟩
   obtain⟨x,hx⟩:∃x,x=ls.getD i.toNat 0:=⟨_,rfl⟩
   refine hlp (List V×Int) _ _ _ [1,2,4,5,6,18,19,20,38,39,40] (fun y=>[(1,none,.val (.slc false 2 (.int .i64 0) a2)),(2,none,.val (.box 27 (.agg [.slc false 68 (.agg [.slc false 2 (.int .i64 0) []]) a0,.slc false 30 (.slc false 2 (.int .i64 0) []) a1]))),(4,none,.val (.box 27 (.agg [.slc true 68 (.agg [.slc true 2 (.int .i64 0) []]) [],.slc true 30 (.slc true 2 (.int .i64 0) []) []]))),(5,none,.val (.box 27 (.agg [.slc true 68 (.agg [.slc true 2 (.int .i64 0) []]) fs',.slc true 30 (.slc true 2 (.int .i64 0) []) y.1]))),(6,none,.val (.int .i64 i)),(18,none,.val (.slc false 68 (.agg [.slc false 2 (.int .i64 0) []]) a0)),(19,none,.val (.int .i64 n)),(20,none,.val (.int .i64 i)),(38,none,.val (.slc false 2 (.int .i64 0) vr)),(39,none,.val (.int .i64 r)),(40,none,.val (.int .i64 y.2))])
    (fun y=>0≤y.2∧y.2≤n∧y.1=II true (G.set x.toNat (ZO ls (fun k=>mm ms i.toNat k) 0 ls.length y.2.toNat))) (fun y=>(n-y.2).toNat) ((gs,0)) (by subst hL;rw[hrr];rfl) ?_ ?_
   ·refine⟨by simp,by simp only;omega,?_⟩
    simp only
    have e0:ZO ls (fun k=>mm ms i.toNat k) 0 ls.length (0:Int).toNat=List.replicate ls.length 0:=rfl
    rw[hJ,e0,hG,hx,zy1 hpm _ _ hil]
   rintro⟨ks,k⟩ ⟨k0,k1,hK⟩ hfx2 ag2 hag2
   simp only at k0 k1 hK
   have hln:(ls.length:Int)=n:=by omega
   have hn6:n≤6:=by omega
   have hxn:x.toNat<ls.length:=by omega
   have hx0:0≤x∧x<ls.length:=by rw[hx];exact hxi
   clear hb1 hm1 hb2 hm2 hll n1 n6 hmn hbl hml hn hm hfl hgl hrr hrx hcv mmr mmo hbx rl hbr hxi
   have hkl:ks.length=ls.length:=by rw[hK,yk,List.length_set,hGl]
   obtain⟨R,hR⟩:∃R,R=ZO ls (fun k=>mm ms i.toNat k) 0 ls.length k.toNat:=⟨_,rfl⟩
   have hRl:R.length=ls.length:=by rw[hR,Yw]
   rw[←hR]at hK
   have gk:ks.getD x.toNat (.slc true 2 (.int .i64 0) [])=.slc true 2 (.int .i64 0) (I R):=by
    rw[hK,qB,ziC (by omega),if_pos rfl]
   conv=>cbv
   simp only[zp hL,sQ,hvl,gv,hal,gl,←hx,hkl,gk]
   refine⟨fun h3=>?_,fun h3=>?_⟩
   ·have hkl2:k.toNat<ls.length:=by omega
    have hyk:=hin _ hkl2
    rw[zo (n:=k+1) (by omega) (by omega)]
    (repeat' first|(exact yR _)|(exact jZ rfl)|(exact qL _)|(apply And.intro)|(intro _))<;>(try first|exact True.intro|omega|rfl|(simp only[zi,zr,zj];omega))
    refine hag2 (_,k+1) ⟨by simp only;omega,by simp only;omega,?_⟩ (by simp only;omega)
    simp only[zU k0]
    rw[hK,KY,zk5,List.set_set,hR,ZO]
   ·rw[zo (n:=i+1) (by omega) (by omega)]
    refine hag ((fs',ks),i+1) ⟨by simp only;omega,by simp only;omega,?_,?_⟩ (by simp only;omega)
    ·simp only[zU i0]
     rw[hfs',hI,zEp,ZO]
    ·simp only[zU i0]
     rw[hK,hR,ZO,←hG,show k.toNat=ls.length by omega,←hx]
     rfl
  ·rw[hr,hf0,hI,hJ,show i.toNat=ls.length by omega,zkc hpm,zkc hpm]
   rw[show(zxD ms ls)=fun i=>(qj ls).map fun k=>mm ms i k.toNat from funext fun i=>zkc hpm _ _]
   rfl
 ·cases h
end Go.Ax
namespace Go.Ax
open Go.Proofs
def zhB(bs:List (List Int)):List Int:=(bs.map fun b=>(b.length:Int)::b).flatten
def ud(bs ms:List (List Int)):List Int:=zhB bs++ms.flatten
theorem zt3{n:Nat}:∀ms ms':List (List Int),ms.length=ms'.length→(∀r∈ms,r.length=n)→(∀r∈ms',r.length=n)→ms.flatten=ms'.flatten→ms=ms'
 |[],[],_,_,_,_=>rfl
 |[],_::_,h,_,_,_=>by simp at h
 |_::_,[],h,_,_,_=>by simp at h
 |r::ms,r'::ms',hl,h1,h2,h=>by
  rw[List.flatten_cons,List.flatten_cons]at h
  obtain⟨e1,e2⟩:=List.append_inj h (by rw[h1 r (by simp),h2 r' (by simp)])
  rw[e1,zt3 ms ms' (by simpa using hl) (fun x hx=>h1 x (by simp[hx])) (fun x hx=>h2 x (by simp[hx])) e2]
theorem ztI:∀(bs bs':List (List Int)) (u u':List Int),bs.length=bs'.length→zhB bs++u=zhB bs'++u'→bs=bs'∧u=u'
 |[],[],_,_,_,h=>⟨rfl,h⟩
 |[],_::_,_,_,h,_=>by simp at h
 |_::_,[],_,_,h,_=>by simp at h
 |b::bs,b'::bs',u,u',hl,h=>by
  have e:∀(b:List Int) bs u,zhB (b::bs)++u=(b.length:Int)::(b++(zhB bs++u)):=fun b bs u=>by simp[zhB]
  rw[e,e]at h
  obtain⟨h1,h2⟩:=List.cons.inj h
  obtain⟨e1,e2⟩:=List.append_inj h2 (by omega)
  obtain⟨e3,e4⟩:=ztI bs bs' u u' (by simpa using hl) e2
  exact⟨by rw[e1,e3],e4⟩
theorem zi6{n:Nat}{bs ms bs' ms':List (List Int)}(h1:bs.length=bs'.length)(h2:ms.length=ms'.length)(h3:∀r∈ms,r.length=n)(h4:∀r∈ms',r.length=n)(h:ud bs ms=ud bs' ms'):bs=bs'∧ms=ms':=by
 obtain⟨e1,e2⟩:=ztI bs bs' _ _ h1 h
 exact⟨e1,zt3 ms ms' h2 h3 h4 e2⟩
theorem ub(ms:List (List Int))(l:List Int):(partM ms l).length=l.length:=yh _
theorem ZE{ms:List (List Int)}{l r:List Int}(h:r∈partM ms l):r.length=l.length:=by
 obtain⟨i,_,rfl⟩:=List.mem_map.1 h
 exact yh _
theorem zac{bs:List (List Int)}{l:List Int}{j:Nat}(h:j<l.length):(partB bs l).getD j []=bs.getD (l.getD j 0).toNat []:=by
 rw[partB,zd,zH,ze h]
 simp[zd,ze h]
theorem zei{ms:List (List Int)}{l:List Int}{j k:Nat}(h:j<l.length)(h2:k<l.length):mm (partM ms l) j k=mm ms (l.getD j 0).toNat (l.getD k 0).toNat:=by
 rw[mm,partM,zd (l:=List.map _ _),zH,ze h]
 simp only[Option.map_some,Option.getD_some]
 rw[zd,zH,ze h2]
 simp[zd,ze h,ze h2]
theorem zAK{n:Nat}{bs ms:List (List Int)}{q q':List Int}(h:q.length=n)(h':q'.length=n)(hk:ud (partB bs q) (partM ms q)=ud (partB bs q') (partM ms q')):partB bs q=partB bs q'∧partM ms q=partM ms q':=
 zi6 (n:=n) (by rw[kB,kB,h,h']) (by rw[ub,ub,h,h']) (fun r hr=>by rw[ZE hr,h]) (fun r hr=>by rw[ZE hr,h']) hk
theorem zmN{ms:List (List Int)}{n:Nat}(h:TabP ms n){r:List Int}(hr:r∈ms):r.length=n:=by
 obtain⟨i,hi,rfl⟩:=qk.1 hr
 have:=(h.row i (by rw[←h.len];exact hi)).1
 rwa [zd,ze hi]at this
theorem zp1{ms ns:List (List Int)}{n:Nat}(h1:ms.length=n)(h2:ns.length=n)(h3:∀i,i<n→(ms.getD i []).length=n)(h4:∀i,i<n→(ns.getD i []).length=n)(h:∀i k,i<n→k<n→mm ms i k=mm ns i k):ms=ns:=
 Yy [] h1 h2 fun j hj=>Yy 0 (h3 j hj) (h4 j hj) fun k hk=>h j k hj hk
def ZQ(bs ms ds ns:List (List Int))(p:List Int)(y:Int):Bool:=(bs.getD p.length []==ds.getD y.toNat [])&&(List.range p.length).all fun k=>mm ms p.length k==mm ns y.toNat (p.getD k 0).toNat
theorem zum{bs ms ds ns:List (List Int)}{p:List Int}{y:Int}:ZQ bs ms ds ns p y=true↔bs.getD p.length []=ds.getD y.toNat []∧∀k,k<p.length→mm ms p.length k=mm ns y.toNat (p.getD k 0).toNat:=by
 simp only[ZQ,zh,beq_iff_eq,List.all_eq_true,List.mem_range]
theorem zky{bs ms ds ns:List (List Int)}{n:Nat}(hb:bs.length=n)(hd:ds.length=n)(hm:TabP ms n)(hn:TabP ns n){q:List Int}(hq:q.Perm (yq n)):
 Gd (ZQ bs ms ds ns) q↔ud (partB bs (qj q)) (partM ms (qj q))=ud ds ns:=by
 obtain⟨hp,hl⟩:=ul hq
 have hol:(qj q).length=n:=by rw[uu,hl]
 have hin:=hp.inr
 rw[hl]at hin
 have oat:∀t,t<n→(qj q).getD (q.getD t 0).toNat 0=t:=fun t ht=>zdm hp (by omega)
 have pB:∀t,t<n→(partB bs (qj q)).getD (q.getD t 0).toNat []=bs.getD t []:=fun t ht=>by
  have:=hin t ht
  rw[zac (by omega),oat t ht,zC]
 have pM:∀t s,t<n→s<n→mm (partM ms (qj q)) (q.getD t 0).toNat (q.getD s 0).toNat=mm ms t s:=fun t s ht hs=>by
  have:=hin t ht
  have:=hin s hs
  rw[zei (by omega) (by omega),oat t ht,oat s hs,zC,zC]
 have tk:∀i,i<n→(q.take i).length=i:=fun i hi=>by rw[zL];omega
 have tg:∀i k,k<i→i<n→(q.take i).getD k 0=q.getD k 0:=fun i k hk hi=>by
  rw[zd,List.getElem?_take_of_lt hk,←zd]
 constructor
 ·intro h
  have hg:∀t,t<n→bs.getD t []=ds.getD (q.getD t 0).toNat []∧∀k,k<t→mm ms t k=mm ns (q.getD t 0).toNat (q.getD k 0).toNat:=fun t ht=>by
   have h1:=zum.1 (h t (by omega))
   rw[tk t ht]at h1
   refine⟨h1.1,fun k hk=>?_⟩
   have:=h1.2 k hk
   rwa [tg t k hk ht]at this
  have eB:partB bs (qj q)=ds:=Yy [] (by rw[kB,hol]) hd fun j hj=>by
   obtain⟨t,ht,he⟩:=hp.sur (j:=j) (by omega)
   have:=pB t (by omega)
   rw[he,zC]at this
   rw[this,(hg t (by omega)).1,he,zC]
  have eM:partM ms (qj q)=ns:=zp1 (n:=n) (by rw[ub,hol]) hn.len (fun i hi=>by
   refine(ZE (ms:=ms) (l:=qj q) ?_).trans hol
   rw[zd,ze (by rw[ub,hol];exact hi)]
   exact ya _) (fun i hi=>(hn.row i hi).1) fun i k hi hk=>by
   obtain⟨t,ht,he⟩:=hp.sur (j:=i) (by omega)
   obtain⟨s,hs,he2⟩:=hp.sur (j:=k) (by omega)
   rw[hl]at ht hs
   have h1:=pM t s ht hs
   rw[he,he2,zC,zC]at h1
   rw[h1]
   rcases Nat.lt_trichotomy s t with h2|h2|h2
   ·have:=(hg t ht).2 s h2
    rw[he,he2,zC,zC]at this
    exact this
   ·subst h2
    have e:i=k:=by omega
    subst e
    rw[((hm.row s hs).2 s hs).1 rfl,((hn.row i hi).2 i hi).1 rfl]
   ·have:=(hg s hs).2 t h2
    rw[he,he2,zC,zC]at this
    rw[←hm.sym t ht s hs,this,hn.sym i hi k hk]
  rw[eB,eM]
 ·intro h
  obtain⟨eB,eM⟩:=zi6 (n:=n) (by rw[kB,hol,hd]) (by rw[ub,hol,hn.len]) (fun r hr=>by rw[ZE hr,hol]) (fun r hr=>zmN hn hr) h
  intro i hi
  rw[zum,tk i (by omega)]
  refine⟨?_,fun k hk=>?_⟩
  ·rw[←pB i (by omega),eB]
  ·rw[tg i k hk (by omega),←pM i k (by omega) (by omega),eM]
theorem zc3.congr{G G':List Int→Prop}{n:Nat}{r:List Int}(h:∀q,q.Perm (yq n)→(G q↔G' q))(hr:zc3 G n r):zc3 G' n r:=by
 rcases hr with⟨e,h1⟩|⟨h1,h2,h3⟩
 ·exact .inl ⟨e,fun q hq hG=>h1 q hq ((h q hq).2 hG)⟩
 ·exact .inr ⟨h1,(h r h1).1 h2,fun q hq hG=>h3 q hq ((h q hq).2 hG)⟩
theorem zfs{q:List Int}(h:KC q):KC (qj q):=fun t ht=>by
 rw[uu]at ht
 have h1:=zdm h ht
 have h2:=h.inr t ht
 rw[←h1,zd,ze (by rw[uu];omega)]
 exact ya _
theorem zkg{q:List Int}(h:KC q):qj (qj q)=q:=by
 refine Yy 0 (by rw[uu,uu]) rfl fun j hj=>?_
 have h1:=zdm h hj
 have h2:=h.inr j hj
 have h3:=zdm (zfs h) (t:=(q.getD j 0).toNat) (by rw[uu];omega)
 rw[h1,zC]at h3
 rw[h3]
 omega
theorem zrz(n:Nat):qj (yq n)=yq n:=by
 have hp:=(ul (List.Perm.refl (yq n))).1
 refine Yy 0 (n:=n) (by rw[uu,qd]) (qd n) fun j hj=>?_
 have h1:=zdm hp (t:=j) (by rw[qd];exact hj)
 rw[Kh _ _ hj,zC]at h1
 rw[h1,Kh _ _ hj]
theorem zry{bs ms:List (List Int)}{n:Nat}(hb:bs.length=n)(hm:TabP ms n):partB bs (yq n)=bs∧partM ms (yq n)=ms:=by
 refine⟨Yy [] (by rw[kB,qd]) hb fun j hj=>?_,zp1 (n:=n) (by rw[ub,qd]) hm.len (fun i hi=>?_) (fun i hi=>(hm.row i hi).1) fun i k hi hk=>?_⟩
 ·rw[zac (by rw[qd];exact hj),Kh _ _ hj,zC]
 ·refine(ZE (ms:=ms) (l:=yq n) ?_).trans (qd n)
  rw[zd,ze (by rw[ub,qd];exact hi)]
  exact ya _
 ·rw[zei (by rw[qd];exact hi) (by rw[qd];exact hk),Kh _ _ hi,Kh _ _ hk,zC,zC]
def kP(bs ms:List (List Int))(q:List Int):List Int:=ud (partB bs q) (partM ms q)
def JM(bs ms:List (List Int))(n:Nat)(R:List (List Int)×List (List Int)):Prop:=
 (∃q,q.Perm (yq n)∧R=(partB bs q,partM ms q))∧∀q,q.Perm (yq n)→yo (kP bs ms q) (ud R.1 R.2)=false
theorem JM.unique{bs ms:List (List Int)}{n:Nat}{R R':List (List Int)×List (List Int)}(h:JM bs ms n R)(h':JM bs ms n R'):R=R':=by
 obtain⟨⟨q,hq,rfl⟩,h⟩:=h
 obtain⟨⟨q',hq',rfl⟩,h'⟩:=h'
 have e:=zcc _ _ (h' q hq) (h q' hq')
 obtain⟨e1,e2⟩:=zAK (n:=n) (by rw[hq.length_eq,qd]) (by rw[hq'.length_eq,qd]) e
 rw[e1,e2]
def YC(bs ms:List (List Int))(n:Nat):Nat→List Int→List (List Int)×List (List Int)→List (List Int)×List (List Int)
 |0,p,B=>if yo (kP bs ms p) (ud B.1 B.2)then(partB bs p,partM ms p)else B
 |m+1,p,B=>(List.range n).foldl (fun B (y:Nat)=>if p.contains (y:Int)then B else YC bs ms n m (p++[(y:Int)]) B) B
def YS(bs ms:List (List Int))(n m:Nat)(p:List Int)(B:List (List Int)×List (List Int))(k:Nat):List (List Int)×List (List Int):=(List.range k).foldl (fun B (y:Nat)=>if p.contains (y:Int)then B else YC bs ms n m (p++[(y:Int)]) B) B
theorem zd0(bs ms:List (List Int))(n m:Nat)(p:List Int)(B:List (List Int)×List (List Int))(k:Nat):
 YS bs ms n m p B (k+1)=if p.contains (k:Int)then YS bs ms n m p B k else YC bs ms n m (p++[(k:Int)]) (YS bs ms n m p B k):=by
 rw[YS,List.range_succ,List.foldl_append]
 rfl
theorem zkm{a b c:List Int}(h1:yo b a=false)(h2:yo c b=false):yo c a=false:=ztD c b a h2 h1
def LC(bs ms:List (List Int))(n:Nat)(P:List Int→Prop)(B R:List (List Int)×List (List Int)):Prop:=
 (R=B∨∃q,q.Perm (yq n)∧R=(partB bs q,partM ms q))∧yo (ud B.1 B.2) (ud R.1 R.2)=false∧∀q,q.Perm (yq n)→P q→yo (kP bs ms q) (ud R.1 R.2)=false
theorem LC.trans{bs ms:List (List Int)}{n:Nat}{P P':List Int→Prop}{B R S:List (List Int)×List (List Int)}(h:LC bs ms n P B R)(h':LC bs ms n P' R S):LC bs ms n (fun q=>P q∨P' q) B S:=by
 obtain⟨a1,a2,a3⟩:=h
 obtain⟨b1,b2,b3⟩:=h'
 refine⟨?_,zkm b2 a2,fun q hq hP=>?_⟩
 ·rcases b1 with rfl|b1
  ·exact a1
  ·exact .inr b1
 ·rcases hP with hP|hP
  ·exact zkm b2 (a3 q hq hP)
  ·exact b3 q hq hP
theorem zmv{bs ms:List (List Int)}{n:Nat}:∀(m:Nat) (p:List Int) (B:List (List Int)×List (List Int)),p.length+m=n→p.Nodup→(∀x∈p,0≤x∧x<n)→LC bs ms n (fun q=>∃s,q=p++s) B (YC bs ms n m p B)
 |0,p,B,hl,hd,hin=>by
  have hp:=zrO hd hin (by omega)
  have hs:∀s,(p++s).Perm (yq n)→p++s=p:=fun s hs=>by
   have h1:=hs.length_eq
   rw[zk,qd]at h1
   have:s=[]:=List.eq_nil_of_length_eq_zero (by omega)
   rw[this,List.append_nil]
  rw[YC]
  by_cases h:yo (kP bs ms p) (ud B.1 B.2)=true
  ·rw[if_pos h]
   refine⟨.inr ⟨p,hp,rfl⟩,?_,?_⟩
   ·cases h2:yo (ud B.1 B.2) (ud (partB bs p) (partM ms p))with
    |false=>rfl
    |true=>
     have:=zbr _ _ _ h h2
     rw[kP,Yf]at this
     cases this
   ·rintro q hq ⟨s,rfl⟩
    rw[hs s hq]
    exact Yf _
  ·rw[if_neg h]
   refine⟨.inl rfl,Yf _,?_⟩
   rintro q hq ⟨s,rfl⟩
   rw[hs s hq]
   simpa using h
 |m+1,p,B,hl,hd,hin=>by
  have key:∀k,k≤n→LC bs ms n (fun q=>∃(t:Nat) (s:List Int),t<k∧(t:Int)∉p∧q=p++(t:Int)::s) B (YS bs ms n m p B k):=by
   intro k
   induction k with
   |zero=>exact fun _=>⟨.inl rfl,Yf _,fun q _ ⟨t,s,ht,_⟩=>absurd ht (by omega)⟩
   |succ k ih=>
    intro hk
    have h1:=ih (by omega)
    rw[zd0]
    by_cases h:p.contains (k:Int)=true
    ·rw[if_pos h]
     obtain⟨a1,a2,a3⟩:=h1
     refine⟨a1,a2,?_⟩
     rintro q hq ⟨t,s,ht,htp,rfl⟩
     refine a3 _ hq ⟨t,s,?_,htp,rfl⟩
     have:t≠k:=fun e=>htp (by rw[e];simpa using h)
     omega
    ·rw[if_neg h]
     have hkp:(k:Int)∉p:=by simpa using h
     obtain⟨o1,o2⟩:=zv5 hd hin (show k<n by omega) hkp
     have h2:=h1.trans (zmv (bs:=bs) (ms:=ms) m (p++[(k:Int)]) (YS bs ms n m p B k) (by rw[zk];simp;omega) o1 o2)
     obtain⟨a1,a2,a3⟩:=h2
     refine⟨a1,a2,?_⟩
     rintro q hq ⟨t,s,ht,htp,rfl⟩
     refine a3 _ hq ?_
     by_cases e:t=k
     ·subst e
      exact .inr ⟨s,by simp⟩
     ·exact .inl ⟨t,s,by omega,htp,rfl⟩
  have h1:=key n (Nat.le_refl _)
  obtain⟨a1,a2,a3⟩:=h1
  refine⟨a1,a2,?_⟩
  rintro q hq ⟨s,rfl⟩
  obtain⟨t,s',ht,rfl,htp⟩:=znq hq (by omega)
  exact a3 _ hq ⟨t,s',ht,htp,rfl⟩
theorem zkn{bs ms:List (List Int)}{n:Nat}:JM bs ms n (YC bs ms n n [] (partB bs (yq n),partM ms (yq n))):=by
 obtain⟨a1,a2,a3⟩:=zmv (bs:=bs) (ms:=ms) (n:=n) n [] (partB bs (yq n),partM ms (yq n)) (by simp) .nil (fun x hx=>by cases hx)
 refine⟨?_,fun q hq=>a3 q hq ⟨q,rfl⟩⟩
 rcases a1 with a1|a1
 ·exact⟨yq n,.refl _,a1⟩
 ·exact a1
def zbC(bs ms:List (List Int))(n:Nat)(p:List Int)(R:List (List Int)×List (List Int)):Prop:=
 (∃q,q.Perm (yq n)∧R=(partB bs (qj q),partM ms (qj q)))∧∀q,q.Perm (yq n)→(yo q p=true∨q=p)→yo (kP bs ms (qj q)) (ud R.1 R.2)=false
theorem zbC.start{bs ms:List (List Int)}{n:Nat}(hb:bs.length=n)(hm:TabP ms n):zbC bs ms n (yq n) (bs,ms):=by
 obtain⟨e1,e2⟩:=zry hb hm
 refine⟨⟨yq n,.refl _,by rw[zrz,e1,e2]⟩,fun q hq h=>?_⟩
 rcases h with h|rfl
 ·rw[zoP hq]at h;cases h
 ·rw[zrz,kP,e1,e2];exact Yf _
theorem zbC.next{bs ms:List (List Int)}{n:Nat}{p:List Int}{R:List (List Int)×List (List Int)}(h:zbC bs ms n p R)(hp:p.Perm (yq n))(hb:Ky p=true):
 zbC bs ms n (uH p) (if yo (kP bs ms (qj (uH p))) (ud R.1 R.2)then(partB bs (qj (uH p)),partM ms (qj (uH p)))else R):=by
 have hp':=zlx hp hb
 obtain⟨a1,a2⟩:=h
 by_cases hc:yo (kP bs ms (qj (uH p))) (ud R.1 R.2)=true
 ·rw[if_pos hc]
  refine⟨⟨uH p,hp',rfl⟩,fun q hq h=>?_⟩
  rcases h with h|rfl
  ·rw[zlw hp hb hq]at h
   have h1:=a2 q hq h
   cases h2:yo (kP bs ms (qj q)) (ud (partB bs (qj (uH p))) (partM ms (qj (uH p))))with
   |false=>rfl
   |true=>rw[zbr _ _ _ h2 hc]at h1;cases h1
  ·exact Yf _
 ·rw[if_neg hc]
  refine⟨a1,fun q hq h=>?_⟩
  rcases h with h|rfl
  ·exact a2 q hq ((zlw hp hb hq).1 h)
  ·simpa using hc
theorem zbC.least{bs ms:List (List Int)}{n:Nat}{p:List Int}{R:List (List Int)×List (List Int)}(h:zbC bs ms n p R)(hp:p.Perm (yq n))(hb:Ky p=false):JM bs ms n R:=by
 obtain⟨⟨q,hq,rfl⟩,a2⟩:=h
 obtain⟨k1,k2⟩:=ul hq
 refine⟨⟨qj q,zhX (zfs k1) (by rw[uu,k2]),rfl⟩,fun q' hq'=>?_⟩
 obtain⟨k3,k4⟩:=ul hq'
 have hq2:(qj q').Perm (yq n):=zhX (zfs k3) (by rw[uu,k4])
 have h1:=a2 (qj q') hq2 (zwn hp hb hq2)
 rwa [zkg k3]at h1
theorem zAT{bs ms ds ns:List (List Int)}{n:Nat}(hb:bs.length=n)(hd:ds.length=n)(hm:TabP ms n)(hn:TabP ns n)(h1:1≤n){p:List Int}(hp:p.Perm (yq n))
 (hlt:∀q,q.Perm (yq n)→yo q p=true→¬kP bs ms (qj q)=ud ds ns) (he:kP bs ms (qj p)=ud ds ns):kh (ZQ bs ms ds ns) n n []=p:=by
 refine(zbo h1).unique (zc3.congr (G:=fun q=>kP bs ms (qj q)=ud ds ns) (fun q hq=>(zky hb hd hm hn hq).symm) (.inr ⟨hp,he,fun q hq hG=>?_⟩))
 cases h:yo q p with
 |false=>rfl
 |true=>exact absurd hG (hlt q hq h)
theorem zCB{bs ms ds ns:List (List Int)}{n:Nat}(hb:bs.length=n)(hd:ds.length=n)(hm:TabP ms n)(hn:TabP ns n)(h1:1≤n){p:List Int}(hp:p.Perm (yq n))
 (hlt:∀q,q.Perm (yq n)→(yo q p=true∨q=p)→¬kP bs ms (qj q)=ud ds ns) (hb2:Ky p=false):kh (ZQ bs ms ds ns) n n []=[]:=by
 refine(zbo h1).unique (zc3.congr (G:=fun q=>kP bs ms (qj q)=ud ds ns) (fun q hq=>(zky hb hd hm hn hq).symm) (.inl ⟨rfl,fun q hq=>hlt q hq (zwn hp hb2 hq)⟩))
end Go.Ax
namespace Go.Ax
open Go.Proofs
def zbb(q p:List Int):List Int:=p.map fun x=>q.getD x.toNat 0
theorem uE(q p:List Int):(zbb q p).length=p.length:=yh _
theorem Jo{q p:List Int}{j:Nat}(h:j<p.length):(zbb q p).getD j 0=q.getD (p.getD j 0).toNat 0:=by
 rw[zbb,zd,zH,ze h]
 simp[zd,ze h]
theorem zpV{n:Nat}{q:List Int}(hq:q.Perm (yq n)){j:Nat}(hj:j<n):0≤q.getD j 0∧q.getD j 0<n:=by
 obtain⟨h,hl⟩:=ul hq
 have:=h.inr j (by omega)
 omega
theorem zkU{n:Nat}{q p:List Int}(hq:q.Perm (yq n))(hp:p.Perm (yq n)):(zbb q p).Perm (yq n):=by
 obtain⟨h,hl⟩:=ul hq
 obtain⟨h',hl'⟩:=ul hp
 refine zhX (fun t ht=>?_) (by rw[uE,hl'])
 rw[uE]at ht
 obtain⟨s,hs,he⟩:=h.sur (j:=t) (by omega)
 obtain⟨u,hu,he'⟩:=h'.sur (j:=s) (by omega)
 have:=Jo (q:=q) hu
 rw[he',zC,he]at this
 rw[←this,zd,ze (by rw[uE];exact hu)]
 exact ya _
theorem zg1{bs ms:List (List Int)}{n:Nat}{q p:List Int}(hq:q.Perm (yq n))(hp:p.Perm (yq n)):
 partB (partB bs q) p=partB bs (zbb q p)∧partM (partM ms q) p=partM ms (zbb q p):=by
 obtain⟨_,hl⟩:=ul hq
 obtain⟨_,hl'⟩:=ul hp
 have hin:=fun j (hj:j<n)=>zpV hp hj
 refine⟨Yy [] (n:=n) (by rw[kB,hl']) (by rw[kB,uE,hl']) fun j hj=>?_,zp1 (n:=n) (by rw[ub,hl']) (by rw[ub,uE,hl']) (fun i hi=>?_) (fun i hi=>?_) fun i k hi hk=>?_⟩
 ·have:=hin j hj
  rw[zac (by omega),zac (by omega),zac (by rw[uE];omega),Jo (by omega)]
 ·refine(ZE (ms:=partM ms q) (l:=p) ?_).trans hl'
  rw[zd,ze (by rw[ub,hl'];exact hi)]
  exact ya _
 ·refine(ZE (ms:=ms) (l:=zbb q p) ?_).trans (by rw[uE,hl'])
  rw[zd,ze (by rw[ub,uE,hl'];exact hi)]
  exact ya _
 ·have:=hin i hi
  have:=hin k hk
  rw[zei (by omega) (by omega),zei (by omega) (by omega),zei (by rw[uE];omega) (by rw[uE];omega),Jo (by omega),Jo (by omega)]
theorem zb9{n:Nat}{q:List Int}(hq:q.Perm (yq n)):(qj q).Perm (yq n):=by
 obtain⟨h,hl⟩:=ul hq
 exact zhX (zfs h) (by rw[uu,hl])
theorem znu{n:Nat}{q:List Int}(hq:q.Perm (yq n)):zbb q (qj q)=yq n:=by
 obtain⟨h,hl⟩:=ul hq
 have ho:=zfs h
 refine Yy 0 (n:=n) (by rw[uE,uu,hl]) (qd n) fun j hj=>?_
 rw[Jo (by rw[uu];omega),Kh _ _ hj]
 have:=zdm ho (t:=j) (by rw[uu];omega)
 rwa [zkg h]at this
theorem zzL{n:Nat}{q p r:List Int}(hr:r.Perm (yq n))(hp:p.Perm (yq n)):zbb (zbb q p) r=zbb q (zbb p r):=by
 obtain⟨_,hl⟩:=ul hr
 obtain⟨_,hl'⟩:=ul hp
 refine Yy 0 (n:=n) (by rw[uE,hl]) (by rw[uE,uE,hl]) fun j hj=>?_
 have:=zpV hr hj
 rw[Jo (by omega),Jo (by omega),Jo (by rw[uE];omega),Jo (by omega)]
theorem zA3{n:Nat}{r:List Int}(hr:r.Perm (yq n)):zbb (yq n) r=r:=by
 obtain⟨_,hl⟩:=ul hr
 refine Yy 0 (n:=n) (by rw[uE,hl]) hl fun j hj=>?_
 have:=zpV hr hj
 rw[Jo (by omega),Kh _ _ (by omega),Int.toNat_of_nonneg this.1]
theorem JM.orbit{bs ms:List (List Int)}{n:Nat}{q:List Int}(hq:q.Perm (yq n)){R:List (List Int)×List (List Int)}(h:JM bs ms n R):JM (partB bs q) (partM ms q) n R:=by
 obtain⟨⟨r,hr,rfl⟩,h⟩:=h
 have hp:(zbb (qj q) r).Perm (yq n):=zkU (zb9 hq) hr
 refine⟨⟨zbb (qj q) r,hp,?_⟩,fun p hp2=>?_⟩
 ·obtain⟨e1,e2⟩:=zg1 (bs:=bs) (ms:=ms) hq hp
  rw[e1,e2,←zzL hr (zb9 hq),znu hq,zA3 hr]
 ·obtain⟨e1,e2⟩:=zg1 (bs:=bs) (ms:=ms) hq hp2
  have:=h (zbb q p) (zkU hq hp2)
  rwa [kP,←e1,←e2]at this
theorem JM.len{bs ms:List (List Int)}{n:Nat}{R:List (List Int)×List (List Int)}(h:JM bs ms n R):R.1.length=n:=by
 obtain⟨⟨r,hr,rfl⟩,_⟩:=h
 rw[kB,hr.length_eq,qd]
theorem zx8{bs ms ds ns:List (List Int)}{n:Nat}(hb:bs.length=n)(hd:ds.length=n)(hm:TabP ms n)(hn:TabP ns n)(h1:1≤n){R S:List (List Int)×List (List Int)}(hR:JM bs ms n R)(hS:JM ds ns n S):
 kh (ZQ bs ms ds ns) n n []≠[]↔R=S:=by
 constructor
 ·intro h
  rcases zbo (chk:=ZQ bs ms ds ns) h1 with⟨e,_⟩|⟨hp,hG,_⟩
  ·exact absurd e h
  ·obtain⟨q,hqd⟩:∃q,q=kh (ZQ bs ms ds ns) n n []:=⟨_,rfl⟩
   rw[←hqd]at hp hG
   have hk:=(zky hb hd hm hn hp).1 hG
   have ho:=zb9 hp
   have hol:(qj q).length=n:=by rw[ho.length_eq,qd]
   obtain⟨eB,eM⟩:=zi6 (n:=n) (by rw[kB,hol,hd]) (by rw[ub,hol,hn.len]) (fun r hr=>by rw[ZE hr,hol]) (fun r hr=>zmN hn hr) hk
   have:=hR.orbit ho
   rw[eB,eM]at this
   exact this.unique hS
 ·rintro rfl h
  obtain⟨⟨q,hq,e⟩,_⟩:=hR
  obtain⟨⟨r,hr,e'⟩,_⟩:=hS
  rw[e,zb]at e'
  have ho:=zb9 hr
  have hc:=zkU hq ho
  obtain⟨a1,a2⟩:=zg1 (bs:=ds) (ms:=ns) hr ho
  obtain⟨b1,b2⟩:=zg1 (bs:=bs) (ms:=ms) hq ho
  obtain⟨i1,i2⟩:=zry hd hn
  rw[znu hr,i1,←e'.1,b1]at a1
  rw[znu hr,i2,←e'.2,b2]at a2
  rcases zbo (chk:=ZQ bs ms ds ns) h1 with⟨_,hno⟩|⟨hp,_⟩
  ·have hc2:=zb9 hc
   refine hno _ hc2 ((zky hb hd hm hn hc2).2 ?_)
   rw[zkg (ul hc).1,a1,a2]
  ·rw[h]at hp
   have:=hp.length_eq
   rw[qd]at this
   simp at this
   omega
theorem zzf{bs ms ds ns:List (List Int)}{n:Nat}(hb:bs.length=n)(hd:ds.length=n)(hm:TabP ms n)(hn:TabP ns n)(h1:1≤n)(h:kh (ZQ bs ms ds ns) n n []≠[]):
 (kh (ZQ bs ms ds ns) n n []).Perm (yq n)∧partB bs (qj (kh (ZQ bs ms ds ns) n n []))=ds∧partM ms (qj (kh (ZQ bs ms ds ns) n n []))=ns:=by
 rcases zbo (chk:=ZQ bs ms ds ns) h1 with⟨e,_⟩|⟨hp,hG,_⟩
 ·exact absurd e h
 ·have hk:=(zky hb hd hm hn hp).1 hG
  have ho:=zb9 hp
  have hol:(qj (kh (ZQ bs ms ds ns) n n [])).length=n:=by rw[ho.length_eq,qd]
  exact⟨hp,zi6 (n:=n) (by rw[kB,hol,hd]) (by rw[ub,hol,hn.len]) (fun r hr=>by rw[ZE hr,hol]) (fun r hr=>zmN hn hr) hk⟩
end Go.Ax
namespace Go.Ax
open Go.Proofs
def zbk(P S:List Int)(i:Nat):Bool:=if i=0 then decide (P.getD 0 0= -1)&&decide (S.getD 0 0= -1)else
 (decide (0≤P.getD i 0)&&decide (P.getD i 0<i))&&(decide (S.getD i 0= -1)||decide (0≤S.getD i 0)&&(decide (S.getD i 0=P.getD (P.getD i 0).toNat 0)||decide (S.getD i 0=S.getD (P.getD i 0).toNat 0)))
def zd3(P S:List Int)(i j:Nat):Bool:= !(decide (0≤S.getD i 0)&&decide (S.getD i 0=S.getD j 0)&&decide (P.getD i 0=P.getD j 0))
structure ClP (P S Q:List Int):Prop where
 n1:1≤P.length
 n24:P.length≤24
 sl:S.length=P.length
 ql:Q.length=P.length
 q:∀i,i<P.length→-100000≤Q.getD i 0∧Q.getD i 0≤100000
 place:∀i,i<P.length→zbk P S i=true
 diff:∀i j,i<P.length→j<i→zd3 P S i j=true
noncomputable def zp5(P S Q:List Int):Bool:= @decide (ClP P S Q) (Classical.propDecidable _)
theorem zgb{P S Q:List Int}:zp5 P S Q=true↔ClP P S Q:=by
 rw[zp5]
 exact@decide_eq_true_iff _ (Classical.propDecidable _)
theorem zCI{P S Q:List Int}(h:¬ClP P S Q):zp5 P S Q=false:=by
 cases hb:zp5 P S Q with
 |false=>rfl
 |true=>exact absurd (zgb.1 hb) h
theorem zfY{P S:List Int}:zbk P S 0=true↔P.getD 0 0= -1∧S.getD 0 0= -1:=by
 rw[zbk,if_pos rfl]
 simp only[zh,decide_eq_true_eq]
theorem zfX{P S:List Int}{i:Nat}(hi:i≠0):zbk P S i=true↔(0≤P.getD i 0∧P.getD i 0<i)∧(S.getD i 0= -1∨0≤S.getD i 0∧(S.getD i 0=P.getD (P.getD i 0).toNat 0∨S.getD i 0=S.getD (P.getD i 0).toNat 0)):=by
 rw[zbk,if_neg hi]
 simp only[zh,Bool.or_eq_true,decide_eq_true_eq]
theorem zrw{P S:List Int}{i:Nat}(h:∀t,t≤i→zbk P S t=true):∀t,t≤i→-1≤P.getD t 0∧P.getD t 0<t∧-1≤S.getD t 0∧(0<t→S.getD t 0<t):=by
 intro t
 induction t using Nat.strongRecOn with
 |ind t ih=>
  intro ht
  have hp:=h t ht
  by_cases h0:t=0
  ·subst h0
   obtain⟨h1,h2⟩:=zfY.1 hp
   omega
  ·obtain⟨⟨h1,h2⟩,h3⟩:=(zfX h0).1 hp
   have h4:=ih (P.getD t 0).toNat (by omega) (by omega)
   refine⟨by omega,h2,by omega,fun _=>?_⟩
   rcases h3 with h3|⟨_,h3|h3⟩
   ·omega
   ·omega
   ·by_cases h5:(P.getD t 0).toNat=0
    ·have:=zfY.1 (h 0 (by omega))
     rw[h5]at h3
     omega
    ·have:=h4.2.2.2 (by omega)
     omega
def zfm(f:List V→List V→List V→Bool)(q:List V→List V→List V→Prop):zN:=fun
 |[.agg [.slc false 2 (.int .i64 0) a0,.slc false 2 (.int .i64 0) a1,.slc false 2 (.int .i64 0) a2]]=>some ([q a0 a1 a2],.bool (f a0 a1 a2))
 |_=>none
noncomputable def kD(a b c:List V):Bool:=zp5 (qb a) (qb b) (qb c)
def q_K(a b c:List V):Prop:=KF a∧KF b∧KF c
def zqp(f:List V→List V→List V→Int→Int→Bool)(q:List V→List V→List V→Int→Int→Prop):zN:=fun
 |[.agg [.slc false 2 (.int .i64 0) a0,.slc false 2 (.int .i64 0) a1,.slc false 2 (.int .i64 0) a2],.int .i64 a3,.int .i64 a4]=>some ([q a0 a1 a2 a3 a4],.bool (f a0 a1 a2 a3 a4))
 |_=>none
def zt8(a b _:List V)(i j:Int):Bool:=decide (0≤j)&&(decide ((qb a).getD i.toNat 0=j)||decide ((qb b).getD i.toNat 0=j))
def zAA(a b c:List V)(i _:Int):Prop:=KF a∧KF b∧KF c∧0≤i∧i<a.length∧b.length=a.length
theorem zpF:yT Tryz.prog 111 (zqp zt8 zAA):=by
 intro args ps r h hp
 unfold zqp at h
 split at h
 ·rename_i a0 a1 a2 i j
  simp only[za,zb]at h
  obtain⟨rfl,rfl⟩:=h
  obtain⟨⟨P,hP⟩,⟨S,hS⟩,⟨Q,hQ⟩,i0,i1,hsl⟩:zAA a0 a1 a2 i j:=(zl.1 hp).1
  have g0:V.frzs a0=a0:=by rw[hP,zG]
  have g1:V.frzs a1=a1:=by rw[hS,zG]
  have g2:V.frzs a2=a2:=by rw[hQ,zG]
  have hpl:a0.length=P.length:=by rw[hP,zj]
  have hsl2:a1.length=P.length:=by rw[hsl,hpl]
  have gp:∀k,a0.getD k (.int .i64 0)=.int .i64 (P.getD k 0):=fun k=>by rw[hP,zR]
  have gs:∀k,a1.getD k (.int .i64 0)=.int .i64 (S.getD k 0):=fun k=>by rw[hS,zR]
  have hf0:zt8 a0 a1 a2 i j=(decide (0≤j)&&(decide (P.getD i.toNat 0=j)||decide (S.getD i.toNat 0=j))):=by rw[zt8,hP,hS,zq,zq]
  rw[hpl]at i1
  refine zD (T:=tab) (B:=[]) (Bi:=[]) [0,1,2,3,6] Tryz.func111 rfl rfl (by kernel_rfl) (zg rfl) zP zQ (by exact zy) (by exact zu) (by kernel_rfl) ?_
  intro L lp rr hL hr hf hlp
  conv=>cbv
  simp only[zp hL,sQ,g0,g1,g2,hpl,hsl2,gp,gs]
  refine⟨fun _=>i0,fun _=>i1,fun _=>trivial,fun _=>i0,fun _=>i1,fun _=>trivial,fun h2 h3=>⟨h2,h3⟩,?_⟩
  rw[hr,hf0]
  rfl
 ·cases h
theorem zcz:yT Tryz.prog 87 (zfm kD q_K):=by
 intro args ps r h hp
 unfold zfm at h
 split at h
 ·rename_i a0 a1 a2
  simp only[za,zb]at h
  obtain⟨rfl,rfl⟩:=h
  have hq:q_K a0 a1 a2:=(zl.1 hp).1
  obtain⟨⟨P,hP⟩,⟨S,hS⟩,⟨Q,hQ⟩⟩:=id hq
  have g0:V.frzs a0=a0:=by rw[hP,zG]
  have g1:V.frzs a1=a1:=by rw[hS,zG]
  have g2:V.frzs a2=a2:=by rw[hQ,zG]
  have hpl:a0.length=P.length:=by rw[hP,zj]
  have hsl:a1.length=S.length:=by rw[hS,zj]
  have hql:a2.length=Q.length:=by rw[hQ,zj]
  have gp:∀k,a0.getD k (.int .i64 0)=.int .i64 (P.getD k 0):=fun k=>by rw[hP,zR]
  have gs:∀k,a1.getD k (.int .i64 0)=.int .i64 (S.getD k 0):=fun k=>by rw[hS,zR]
  have gq:∀k,a2.getD k (.int .i64 0)=.int .i64 (Q.getD k 0):=fun k=>by rw[hQ,zR]
  have hf0:kD a0 a1 a2=zp5 P S Q:=by rw[kD,hP,hS,hQ,zq,zq,zq]
  have hno:¬ClP P S Q→kD a0 a1 a2=false:=fun h=>by rw[hf0,zCI h]
  obtain⟨n,hn⟩:∃n:Int,n=P.length:=⟨_,rfl⟩
  generalize yD:yG=je
  generalize zu2:zt8=zz3
  generalize zuS:zAA=zEf
  refine zD (T:=tab) (B:=[(48,jg je),(111,zqp zz3 zEf)]) (Bi:=[]) [0,1,2,3,4,5] Tryz.func87 rfl rfl (by kernel_rfl) (zg rfl) zP zQ (by subst yD zu2 zuS;exact(zm YR (zm zpF zy))) (by subst yD zu2 zuS;exact zu) (by kernel_rfl) ?_
  intro L lp rr hL hr hf hlp
  have Er:∀x a b,je x a b=(decide (a≤x)&&decide (x≤b)):=fun x a b=>by rw[←yD,yG]
  have En:∀i j,zz3 a0 a1 a2 i j=(decide (0≤j)&&(decide (P.getD i.toNat 0=j)||decide (S.getD i.toNat 0=j))):=fun i j=>by rw[←zu2,zt8,hP,hS,zq,zq]
  conv=>cbv
  simp only[zp hL,sQ,g0,g1,g2,hpl,hsl,hql,←hn,Er,gp,gs]
  refine⟨fun h=>by omega,fun h=>by omega,fun _=>trivial,fun h=>by omega,fun h=>by omega,fun _=>trivial,fun h=>?_,fun h=>?_⟩
  ·rw[hr,hno (fun c=>?_)]
   have c1:=c.n1
   have c2:=c.n24
   have c3:=c.sl
   have c4:=c.ql
   have c5:=zfY.1 (c.place 0 (by omega))
   omega
  obtain⟨⟨⟨⟨⟨n1,n24⟩,hsl2⟩,hql2⟩,hp0⟩,hs0⟩:=h
  have hSl:S.length=P.length:=by omega
  have hQl:Q.length=P.length:=by omega
  refine hlp (Int) _ _ _ [1,3,4] (fun x=>[(1,none,.val (.box 78 (.agg [.slc false 2 (.int .i64 0) a0,.slc false 2 (.int .i64 0) a1,.slc false 2 (.int .i64 0) a2]))),(3,none,.val (.int .i64 n)),(4,none,.val (.int .i64 x))])
   (fun x=>0≤x∧x≤n∧(∀i,i<x.toNat→-100000≤Q.getD i 0∧Q.getD i 0≤100000)∧(∀i,i<x.toNat→zbk P S i=true)∧(∀i j,i<x.toNat→j<i→zd3 P S i j=true)) (fun x=>(n-x).toNat) (0) (by subst hL;rfl) ?_ ?_
  ·exact⟨by omega,by omega,fun i hi=>by simp at hi,fun i hi=>by simp at hi,fun i j hi=>by simp at hi⟩
  intro i ⟨i0,i1,hqr,hpl1,hdf1⟩ hfx ag hag
  conv=>cbv
  simp only[zp hL,sQ,g0,g1,g2,hpl,hsl,hql,←hn,Er,En,gp,gs,gq]
  refine⟨fun h2=>?_,fun h2=>?_⟩
  ·have hwi:IntKind.wrap .i64 (i+1)=i+1:=zo (by omega) (by omega)
   have hag':(-100000≤Q.getD i.toNat 0∧Q.getD i.toNat 0≤100000)→zbk P S i.toNat=true→(∀j,j<i.toNat→zd3 P S i.toNat j=true)→(0≤i+1∧i+1≤n∧(∀t,t<(i+1).toNat→-100000≤Q.getD t 0∧Q.getD t 0≤100000)∧(∀t,t<(i+1).toNat→zbk P S t=true)∧(∀t j,t<(i+1).toNat→j<t→zd3 P S t j=true)):=fun u1 u2 u3=>by
    refine⟨by omega,by omega,fun t ht=>?_,fun t ht=>?_,fun t j ht hj=>?_⟩
    ·by_cases e:t=i.toNat
     ·rw[e];exact u1
     ·exact hqr t (by omega)
    ·by_cases e:t=i.toNat
     ·rw[e];exact u2
     ·exact hpl1 t (by omega)
    ·by_cases e:t=i.toNat
     ·rw[e];exact u3 j (by omega)
     ·exact hdf1 t j (by omega) hj
   rw[hwi]
   refine⟨i0,by omega,fun h3=>?_,fun h3=>⟨fun h4=>?_,fun h4=>⟨i0,h2,?_⟩⟩⟩
   ·rw[hr,hno (fun c=>by have:=c.q i.toNat (by omega);omega)]
   ·have e0:i.toNat=0:=by omega
    refine hag (i+1) (hag' h3 ?_ ?_) (by omega)
    ·rw[e0];exact zfY.2 ⟨hp0,hs0⟩
    ·intro j hj;omega
   have hwm:IntKind.wrap .i64 (i-1)=i-1:=zo (by omega) (by omega)
   have hi0:¬i.toNat=0:=by omega
   rw[hwm]
   obtain⟨p,hpp⟩:∃p,p=P.getD i.toNat 0:=⟨_,rfl⟩
   obtain⟨s,hss⟩:∃s,s=S.getD i.toNat 0:=⟨_,rfl⟩
   have hpb:= @zfX P S i.toNat hi0
   rw[←hpp,←hss]at hpb
   rw[←hpp,←hss]
   have hlow:ClP P S Q→(0≤p∧p<i)∧s<i∧(s= -1∨0≤s∧(s=P.getD p.toNat 0∨s=S.getD p.toNat 0)):=fun c=>by
    have:=zrw (i:=i.toNat) (fun t ht=>c.place t (by omega)) i.toNat (Nat.le_refl _)
    rw[←hpp,←hss]at this
    have h5:=hpb.1 (c.place i.toNat (by omega))
    exact⟨by omega,by omega,h5.2⟩
   have hdneg:s= -1→∀j,zd3 P S i.toNat j=true:=fun h j=>by
    rw[zd3,←hss,decide_eq_false (show ¬0≤s by omega)];rfl
   refine⟨fun h5=>?_,fun h5=>⟨i0,by omega,fun h6=>?_,fun h6=>?_⟩⟩
   ·rw[hr,hno (fun c=>by have:=hlow c;omega)]
   ·exact hag (i+1) (hag' h3 (hpb.2 ⟨by omega,.inl h6⟩) (fun j _=>hdneg h6 j)) (by omega)
   refine⟨i0,by omega,fun _=>i0,fun _=>h2,fun _=>trivial,fun _=>i0,fun _=>by omega,fun _=>trivial,fun _=>?_,fun h7=>?_,fun h7=>?_⟩
   ·rw[←zuS];exact⟨hq.1,hq.2.1,hq.2.2,h5.1,by omega,by omega⟩
   ·rw[hr,hno (fun c=>?_)]
    obtain⟨c1,c2,c3⟩:=hlow c
    rcases c3 with c3|⟨c3,c4⟩
    ·exact h6 c3
    ·rcases h7 with(h7|h7)|h7|h7
     ·exact h7 c3
     ·omega
     ·exact h7 c3
     ·rcases c4 with c4|c4
      ·exact h7.1 c4.symm
      ·exact h7.2 c4.symm
   ·obtain⟨⟨s0,s1⟩,_,s3⟩:=h7
    have hpl2:zbk P S i.toNat=true:=hpb.2 ⟨by omega,.inr ⟨s0,s3.imp Eq.symm Eq.symm⟩⟩
    refine hlp (Int) _ _ _ [1,3,4,5] (fun x=>[(1,none,.val (.box 78 (.agg [.slc false 2 (.int .i64 0) a0,.slc false 2 (.int .i64 0) a1,.slc false 2 (.int .i64 0) a2]))),(3,none,.val (.int .i64 n)),(4,none,.val (.int .i64 i)),(5,none,.val (.int .i64 x))])
     (fun x=>1≤x∧x≤i∧∀j,j<x.toNat→zd3 P S i.toNat j=true) (fun x=>(i-x).toNat) (1) (by subst hL;rfl) ?_ ?_
    ·refine⟨by omega,by omega,fun j hj=>?_⟩
     have:j=0:=by omega
     subst this
     rw[zd3,hs0,←hss,decide_eq_false (show ¬s= -1 by omega)]
     cases decide (0≤s)<;>rfl
    intro j ⟨j0,j1,hdj⟩ hfx2 ag2 hag2
    conv=>cbv
    simp only[zp hL,sQ,g0,g1,g2,hpl,hsl,hql,←hn,gp,gs]
    rw[←hpp,←hss]
    refine⟨fun h8=>?_,fun h8=>?_⟩
    ·have j0':0≤j:=by omega
     refine⟨j0',by omega,i0,h2,fun _=>j0',fun _=>by omega,fun _=>trivial,fun _=>i0,fun _=>by omega,fun _=>trivial,fun h9=>?_,fun h9=>?_⟩
     ·rw[hr,hno (fun c=>?_)]
      have:=c.diff i.toNat j.toNat (by omega) (by omega)
      rw[zd3,←hss,←hpp,decide_eq_true s0,decide_eq_true h9.2.symm,decide_eq_true h9.1.symm]at this
      cases this
     ·rw[zo (n:=j+1) (by omega) (by omega)]
      refine hag2 (j+1) ⟨by omega,by omega,fun t ht=>?_⟩ (by omega)
      rw[zU j0']at ht
      by_cases htj:t=j.toNat
      ·rw[htj,zd3,←hss,←hpp]
       rcases h9 with h9|h9
       ·rw[decide_eq_false (show ¬p=P.getD j.toNat 0 from fun e=>h9 e.symm),YQ];rfl
       ·rw[decide_eq_false (show ¬s=S.getD j.toNat 0 from fun e=>h9 e.symm),YQ];rfl
      ·exact hdj t (by omega)
    ·rw[hwi]
     exact hag (i+1) (hag' h3 hpl2 (fun t ht=>hdj t (by omega))) (by omega)
  ·have hcl:ClP P S Q:=⟨by omega,by omega,hSl,hQl,fun k hk=>hqr k (by omega),fun k hk=>hpl1 k (by omega),fun k j hk hj=>hdf1 k j (by omega) hj⟩
   rw[hr,hf0,zgb.2 hcl]
 ·cases h
end Go.Ax
namespace Go.Ax
open Go.Proofs
abbrev PtS:Type:=List Int×List Int×Int×Int
def ptD(es:List V)(P S:List Int)(σ:Int×Int):Int×Int×Int×Int:=
 let l:=[1,1,2,(P.length:Int)]
 let m:=min (P.length:Int) (Yd es σ l)
 let par:=(P.length:Int)-1-jI es (Kx es σ l) m
 let τ:=qa es (Kx es σ l) m
 if jI es τ 2=0 then
  if 0≤S.getD par.toNat 0 then(par,if jI es (qa es τ 2) 2=0 then S.getD par.toNat 0 else P.getD par.toNat 0,qa es (qa es τ 2) 2)
  else(par,P.getD par.toNat 0,qa es τ 2)
 else(par,-1,qa es τ 2)
def ptC(P S:List Int)(par s:Int):Nat→Int
 |0=>s
 |j+1=>if 0≤ptC P S par s j∧P.getD (j+1) 0=par∧S.getD (j+1) 0=ptC P S par s j then-1 else ptC P S par s j
def ptR(es:List V)(x:PtS):PtS:=
 let d:=ptD es x.1 x.2.1 x.2.2
 (x.1++[d.1],x.2.1++[ptC x.1 x.2.1 d.1 d.2.1 (x.1.length-1)],d.2.2)
def ptN(es:List V):Nat→PtS→PtS
 |0,x=>x
 |k+1,x=>ptN es k (ptR es x)
def ptF(es:List V)(σ:Int×Int)(most:Int):PtS:=ptN es (jI es σ most).toNat ([-1],[-1],qa es σ most)
structure PtOk (es:List V) (x:PtS) (k:Nat):Prop where
 n1:1≤x.1.length
 n:x.1.length+k≤24
 sl:x.2.1.length=x.1.length
 src:yi es x.2.2.1 x.2.2.2
theorem zDI{es:List V}{P S:List Int}{σ:Int×Int}(hq:yi es σ.1 σ.2)(hn:1≤P.length):0≤(ptD es P S σ).1∧(ptD es P S σ).1<P.length∧yi es (ptD es P S σ).2.2.1 (ptD es P S σ).2.2.2:=by
 have hp:=zfZ (σ:=σ) (l:=[1,1,2,(P.length:Int)]) hq (by simp)
 have h1:=zaM (σ:=σ) (l:=[1,1,2,(P.length:Int)]) hq
 have h2:1≤min (P.length:Int) (Yd es σ [1,1,2,(P.length:Int)]):=by simp at hp;omega
 have h3:=zel (σ:=Kx es σ [1,1,2,(P.length:Int)]) h1 h2
 have h4:=jv (σ:=Kx es σ [1,1,2,(P.length:Int)]) (n:=min (P.length:Int) (Yd es σ [1,1,2,(P.length:Int)])) h1
 have h5:=jv (σ:=qa es (Kx es σ [1,1,2,(P.length:Int)]) (min (P.length:Int) (Yd es σ [1,1,2,(P.length:Int)]))) (n:=2) h4
 have h6:=jv (σ:=qa es (qa es (Kx es σ [1,1,2,(P.length:Int)]) (min (P.length:Int) (Yd es σ [1,1,2,(P.length:Int)]))) 2) (n:=2) h5
 unfold ptD
 simp only
 split
 ·split
  ·exact⟨by simp only;omega,by simp only;omega,h6⟩
  ·exact⟨by simp only;omega,by simp only;omega,h5⟩
 ·exact⟨by simp only;omega,by simp only;omega,h5⟩
theorem PtOk.round{es:List V}{x:PtS}{k:Nat}(h:PtOk es x (k+1)):PtOk es (ptR es x) k:=by
 obtain⟨h1,h2,h3,h4⟩:=h
 have h5:=zDI (S:=x.2.1) (σ:=x.2.2) h4 h1
 refine⟨?_,?_,?_,h5.2.2⟩<;>simp only[ptR,zk,zi,zr]<;>omega
theorem PtOk.run{es:List V}:∀{k:Nat} {x:PtS},PtOk es x k→PtOk es (ptN es k x) 0
 |0,_,h=>h
 |_+1,_,h=>h.round.run
theorem zy4{es:List V}{σ:Int×Int}{most:Int}(hq:yi es σ.1 σ.2)(h1:1≤most)(h2:most≤24):PtOk es (ptF es σ most) 0:=by
 have h3:=zel (σ:=σ) hq h1
 exact PtOk.run ⟨by simp,by simp;omega,rfl,jv (σ:=σ) hq⟩
def zsp(es:List V)(a h m:Int):List V×List V×List V×Int×Int:=
 (I (ptF es (a,h) m).1,I (ptF es (a,h) m).2.1,I (List.replicate (ptF es (a,h) m).1.length 0),(ptF es (a,h) m).2.2)
def zxK(es:List V)(a h m:Int):Prop:=yi es a h∧1≤m∧m≤24
def ztP(f:List V→Int→Int→Int→List V×List V×List V×Int×Int)(q:List V→Int→Int→Int→Prop):jz:=fun
 |[.box 71 (.agg [.slc false 5 (.int .u8 0) a0,.int .i64 a1,.int .u64 a2]),.int .i64 a3]=>some ([q a0 a1 a2 a3],.agg [.slc true 2 (.int .i64 0) (f a0 a1 a2 a3).1,.slc true 2 (.int .i64 0) (f a0 a1 a2 a3).2.1,.slc true 2 (.int .i64 0) (f a0 a1 a2 a3).2.2.1],.box 71 (.agg [.slc false 5 (.int .u8 0) a0,.int .i64 (f a0 a1 a2 a3).2.2.2.1,.int .u64 (f a0 a1 a2 a3).2.2.2.2]))
 |_=>none
theorem zmT:zcY Tryz.prog 54 1000 (ztP zsp zxK):=by
 intro args ps r y h hp
 unfold ztP at h
 split at h
 ·rename_i a0 a1 a2 a3
  simp only[za,zb]at h
  obtain⟨rfl,rfl,rfl⟩:=h
  obtain⟨hq,m1,m2⟩:zxK a0 a1 a2 a3:=(zl.1 hp).1
  obtain⟨k0,hk0⟩:∃k0:Int,k0=jI a0 (a1,a2) a3:=⟨_,rfl⟩
  have hk:=zel (σ:=(a1,a2)) (n:=a3) hq m1
  rw[←hk0]at hk
  obtain⟨E,hE⟩:∃E,E=ptF a0 (a1,a2) a3:=⟨_,rfl⟩
  generalize yP:jm=qZ
  generalize yO:jl=qY
  generalize yN:jx=qX
  generalize qz:zdi=kI
  generalize jE:QC=ZC
  generalize jD:Ja=ZB
  generalize jC:QZ=ZA
  generalize kf:zfU=YF
  refine zfv (T:=tab) (B:=[]) (Bi:=[(25,0,false,zaX qZ qY qX kI),(50,0,false,zfg ZC ZB ZA YF)]) 0 [2000006831,0,1,4,5,6,7,8,9,10] Tryz.func54 rfl rfl (by kernel_rfl) (zg rfl) zP zQ (by subst yP yO yN qz jE jD jC kf;exact zy) (by subst yP yO yN qz jE jD jC kf;exact(qg ki (qg ZM zu))) (by kernel_rfl) rfl rfl zbj rfl ?_
  intro L lp rr yy hL hr hy hf hlp
  conv=>cbv
  obtain⟨b1,hb1⟩:∃b1,b1=jl a0 a1 a2 a3:=⟨_,rfl⟩
  obtain⟨b2,hb2⟩:∃b2,b2=jx a0 a1 a2 a3:=⟨_,rfl⟩
  have e0:qZ a0 a1 a2 a3=k0:=by rw[←yP,hk0]
  have e1:qY a0 a1 a2 a3=b1:=by rw[←yO,hb1]
  have e2:qX a0 a1 a2 a3=b2:=by rw[←yN,hb2]
  have Qn:∀a h n,yi a0 a h→kI a0 a h n:=fun a h n hs=>by rw[←qz];exact hs
  have ok0:PtOk a0 ([-1],[-1],b1,b2) k0.toNat:=⟨by simp,by simp;omega,rfl,by rw[hb1,hb2];exact uf hq⟩
  have hE0:ptN a0 k0.toNat ([-1],[-1],b1,b2)=E:=by rw[hE,hb1,hb2,hk0];rfl
  simp only[zp hL,sQ,true_and,e0,e1,e2]
  refine⟨Qn _ _ _ hq,?_⟩
  refine hlp (List V×List V×List V×Int×Int×Int) _ _ _ [0,4,5,6] (fun x=>[(0,none,.val (.box 71 (.agg [.slc false 5 (.int .u8 0) a0,.int .i64 x.2.2.2.1,.int .u64 x.2.2.2.2.1]))),(4,none,.val (.box 78 (.agg [.slc true 2 (.int .i64 0) [],.slc true 2 (.int .i64 0) [],.slc true 2 (.int .i64 0) []]))),(5,none,.val (.box 78 (.agg [.slc true 2 (.int .i64 0) x.1,.slc true 2 (.int .i64 0) x.2.1,.slc true 2 (.int .i64 0) x.2.2.1]))),(6,none,.val (.int .i64 x.2.2.2.2.2))])
   (fun x=>0≤x.2.2.2.2.2∧∃P S:List Int,x.1=I P∧x.2.1=I S∧x.2.2.1=I (List.replicate P.length 0)∧PtOk a0 (P,S,x.2.2.2.1,x.2.2.2.2.1) x.2.2.2.2.2.toNat∧ptN a0 x.2.2.2.2.2.toNat (P,S,x.2.2.2.1,x.2.2.2.2.1)=E) (fun x=>x.2.2.2.2.2.toNat) ((I [-1],I [-1],I [0],b1,b2,k0)) (by subst hL;rfl) ?_ ?_
  ·exact⟨by simp only;omega,[-1],[-1],rfl,rfl,rfl,ok0,hE0⟩
  rintro⟨vp,vs,vw,a,h,k⟩ ⟨i0,P,S,hP,hS,hW,hok,hN⟩ hfx ag hag
  simp only at i0 hP hS hW hok hN
  have hsrc:yi a0 a h:=hok.src
  have hn1:=hok.n1
  have hn24:=hok.n
  have hsl:=hok.sl
  simp only at hsrc hn1 hn24 hsl
  obtain⟨il,hil⟩:∃il:Int,il=P.length:=⟨_,rfl⟩
  have hvl:vp.length=P.length:=by rw[hP,zj]
  have hsl2:vs.length=P.length:=by rw[hS,zj,hsl]
  have hwl:vw.length=P.length:=by rw[hW,zj,List.length_replicate]
  have gP:∀k,vp.getD k (.int .i64 0)=.int .i64 (P.getD k 0):=fun k=>by rw[hP,zR]
  have gS:∀k,vs.getD k (.int .i64 0)=.int .i64 (S.getD k 0):=fun k=>by rw[hS,zR]
  obtain⟨m,hm⟩:∃m,m=QC a0 a h (I [1,1,2,il]):=⟨_,rfl⟩
  obtain⟨A1,hA1⟩:∃A1,A1=Ja a0 a h (I [1,1,2,il]):=⟨_,rfl⟩
  obtain⟨H1,hH1⟩:∃H1,H1=QZ a0 a h (I [1,1,2,il]):=⟨_,rfl⟩
  obtain⟨mi,hmi⟩:∃mi,mi=min il m:=⟨_,rfl⟩
  obtain⟨par,hpar⟩:∃par,par=il-1-jm a0 A1 H1 mi:=⟨_,rfl⟩
  obtain⟨A2,hA2⟩:∃A2,A2=jl a0 A1 H1 mi:=⟨_,rfl⟩
  obtain⟨H2,hH2⟩:∃H2,H2=jx a0 A1 H1 mi:=⟨_,rfl⟩
  obtain⟨u,hu⟩:∃u,u=jm a0 A2 H2 2:=⟨_,rfl⟩
  obtain⟨A3,hA3⟩:∃A3,A3=jl a0 A2 H2 2:=⟨_,rfl⟩
  obtain⟨H3,hH3⟩:∃H3,H3=jx a0 A2 H2 2:=⟨_,rfl⟩
  obtain⟨v,hv⟩:∃v,v=jm a0 A3 H3 2:=⟨_,rfl⟩
  obtain⟨A4,hA4⟩:∃A4,A4=jl a0 A3 H3 2:=⟨_,rfl⟩
  obtain⟨H4,hH4⟩:∃H4,H4=jx a0 A3 H3 2:=⟨_,rfl⟩
  have hD:ptD a0 P S (a,h)=if u=0 then(if 0≤S.getD par.toNat 0 then(par,if v=0 then S.getD par.toNat 0 else P.getD par.toNat 0,A4,H4)else(par,P.getD par.toNat 0,A3,H3))else(par,-1,A3,H3):=by
   subst hH4 hA4 hv hH3 hA3 hu hH2 hA2 hpar hmi hH1 hA1 hm hil
   rfl
  have mp:m∈[1,1,2,il]:=by rw[hm];exact zfZ (σ:=(a,h)) (l:=[1,1,2,il]) hsrc (by simp)
  have s1:yi a0 A1 H1:=by rw[hA1,hH1];exact uf hsrc
  have m1:1≤mi:=by simp at mp;omega
  have d1:=YA (n:=mi) s1 m1
  have s2:yi a0 A2 H2:=by rw[hA2,hH2];exact uf s1
  have s3:yi a0 A3 H3:=by rw[hA3,hH3];exact uf s2
  have s4:yi a0 A4 H4:=by rw[hA4,hH4];exact uf s3
  have g3:∀l,l=I [1,1,2,il]→ZC a0 a h l=m∧ZB a0 a h l=A1∧ZA a0 a h l=H1∧YF a0 a h l:=by
   intro l hl
   rw[hl,←jE,←jD,←jC,←kf,hm,hA1,hH1]
   exact⟨rfl,rfl,rfl,hsrc,⟨_,rfl⟩,by simp,by simp⟩
  obtain⟨g4,g5,g6,g7⟩:=g3 (V.frzs (V.frzs [V.int IntKind.i64 1,V.int IntKind.i64 1,V.int IntKind.i64 2,V.int IntKind.i64 il])) rfl
  have g8:qZ a0 A1 H1 mi=il-1-par:=by rw[←yP];omega
  have g9:qY a0 A1 H1 mi=A2:=by rw[←yO,hA2]
  have g10:qX a0 A1 H1 mi=H2:=by rw[←yN,hH2]
  have g11:qZ a0 A2 H2 2=u:=by rw[←yP,hu]
  have g12:qY a0 A2 H2 2=A3:=by rw[←yO,hA3]
  have g13:qX a0 A2 H2 2=H3:=by rw[←yN,hH3]
  have g14:qZ a0 A3 H3 2=v:=by rw[←yP,hv]
  have g15:qY a0 A3 H3 2=A4:=by rw[←yO,hA4]
  have g16:qX a0 A3 H3 2=H4:=by rw[←yN,hH4]
  have wi:IntKind.wrap .i64 (il-1)=il-1:=zo (by omega) (by omega)
  have wp:IntKind.wrap .i64 (il-1-(il-1-par))=par:=by rw[show il-1-(il-1-par)=par by omega];exact zo (by omega) (by omega)
  conv=>cbv
  simp only[zp hL,sQ,true_and,hvl,hsl2,hwl,←hil,g4,g5,g6,g7,←hmi,g8,g9,g10,g11,g12,g13,g14,g15,g16,wi,wp,gP,gS]
  have hR:∀sec A H,ptD a0 P S (a,h)=(par,sec,A,H)→0<k→PtOk a0 (P++[par],S++[ptC P S par sec (P.length-1)],A,H) (k-1).toNat∧ptN a0 (k-1).toNat (P++[par],S++[ptC P S par sec (P.length-1)],A,H)=E:=by
   intro sec A H e hk
   have e2:k.toNat=(k-1).toNat+1:=by omega
   have e3:ptR a0 (P,S,a,h)=(P++[par],S++[ptC P S par sec (P.length-1)],A,H):=by simp only[ptR,e]
   rw[e2]at hok hN
   rw[←e3]
   exact⟨hok.round,hN⟩
  have wk:IntKind.wrap .i64 (k-1)=k-1:=zo (by omega) (by omega)
  refine⟨fun hk=>⟨Qn _ _ _ s1,Qn _ _ _ s2,fun u0=>⟨by omega,by omega,by omega,by omega,by omega,by omega,fun sp=>⟨sp,Qn _ _ _ s3,fun v0=>⟨by omega,by omega,by omega,?a⟩,fun v0=>?b⟩,fun sp=>⟨fun hh=>absurd hh.1 sp,fun _=>?c⟩⟩,fun u0=>?d⟩,fun hk=>?e⟩
  case' a=>
   have hD5:ptD a0 P S (a,h)=(par,S.getD par.toNat 0,A4,H4):=by rw[hD,if_pos u0,if_pos sp,if_pos v0.2]
   obtain⟨sec,hsec⟩:∃sec,sec=S.getD par.toNat 0:=⟨_,rfl⟩
   obtain⟨A5,hA5⟩:∃A5,A5=A4:=⟨_,rfl⟩
   obtain⟨H5,hH5⟩:∃H5,H5=H4:=⟨_,rfl⟩
   rw[←hsec,←hA5,←hH5]at hD5 ⊢
  case' b=>
   have hD5:ptD a0 P S (a,h)=(par,P.getD par.toNat 0,A4,H4):=by rw[hD,if_pos u0,if_pos sp,if_neg (by omega)]
   obtain⟨sec,hsec⟩:∃sec,sec=P.getD par.toNat 0:=⟨_,rfl⟩
   obtain⟨A5,hA5⟩:∃A5,A5=A4:=⟨_,rfl⟩
   obtain⟨H5,hH5⟩:∃H5,H5=H4:=⟨_,rfl⟩
   rw[←hsec,←hA5,←hH5]at hD5 ⊢
  case' c=>
   have hD5:ptD a0 P S (a,h)=(par,P.getD par.toNat 0,A3,H3):=by rw[hD,if_pos u0,if_neg sp]
   obtain⟨sec,hsec⟩:∃sec,sec=P.getD par.toNat 0:=⟨_,rfl⟩
   obtain⟨A5,hA5⟩:∃A5,A5=A3:=⟨_,rfl⟩
   obtain⟨H5,hH5⟩:∃H5,H5=H3:=⟨_,rfl⟩
   rw[←hsec,←hA5,←hH5]at hD5 ⊢
  case' d=>
   have hD5:ptD a0 P S (a,h)=(par,-1,A3,H3):=by rw[hD,if_neg u0]
   obtain⟨sec,hsec⟩:∃sec:Int,sec= -1:=⟨_,rfl⟩
   obtain⟨A5,hA5⟩:∃A5,A5=A3:=⟨_,rfl⟩
   obtain⟨H5,hH5⟩:∃H5,H5=H3:=⟨_,rfl⟩
   rw[←hsec]at hD5
   rw[←hA5,←hH5]at hD5 ⊢
  case e=>
   have hk0:k.toNat=0:=by omega
   rw[hk0]at hN
   rw[hr,hy,zsp,←hE,←hN,hP,hS,hW]
   exact⟨rfl,rfl⟩
  all_goals
   clear hN hok hE0 ok0 e0 e1 e2 g3 g4 g5 g6 g7 g8 g9 g10 g11 g12 g13 g14 g15 g16 hD hm hA1 hH1 hmi hpar hA2 hH2 hu hA3 hH3 hv hA4 hH4 mp s1 m1 d1 s2 s3 s4 hE hb1 hb2 hk0 hq Qn wi wp hA5 hH5
   refine hlp (Int×Int) _ _ _ [0,4,5,6,7,8,9,10] (fun x=>[(0,none,.val (.box 71 (.agg [.slc false 5 (.int .u8 0) a0,.int .i64 A5,.int .u64 H5]))),(4,none,.val (.box 78 (.agg [.slc true 2 (.int .i64 0) [],.slc true 2 (.int .i64 0) [],.slc true 2 (.int .i64 0) []]))),(5,none,.val (.box 78 (.agg [.slc true 2 (.int .i64 0) vp,.slc true 2 (.int .i64 0) vs,.slc true 2 (.int .i64 0) vw]))),(6,none,.val (.int .i64 k)),(7,none,.val (.int .i64 il)),(8,none,.val (.int .i64 par)),(9,none,.val (.int .i64 x.1)),(10,none,.val (.int .i64 x.2))])
    (fun x=>1≤x.2∧x.2≤il∧x.1=ptC P S par sec (x.2-1).toNat) (fun x=>(il-x.2).toNat) ((sec,1)) (by subst hL;first|rfl|(rw[hsec];rfl)) ?_ ?_
   ·exact⟨by simp,by simp only;omega,rfl⟩
   rintro⟨sx,j⟩ ⟨j1,j2,hJ⟩ hfx2 ag2 hag2
   simp only at j1 j2 hJ
   have wj:IntKind.wrap .i64 (j+1)=j+1:=zo (by omega) (by omega)
   have hst:ptC P S par sec (j+1-1).toNat=if 0≤sx∧P.getD j.toNat 0=par∧S.getD j.toNat 0=sx then-1 else sx:=by
    rw[show(j+1-1).toNat=(j-1).toNat+1 by omega,ptC,←hJ,show(j-1).toNat+1=j.toNat by omega]
   conv=>cbv
   simp only[zp hL,sQ,true_and,hvl,hsl2,hwl,gP,gS,wj,wk]
   refine⟨fun h2=>⟨fun _=>by omega,fun _=>by omega,fun _=>by omega,fun _=>trivial,fun _=>by omega,fun _=>by omega,fun _=>by omega,fun _=>trivial,fun h3=>?_,fun h3=>?_⟩,fun h2=>?_⟩
   ·refine hag2 (-1,j+1) ⟨by simp only;omega,by simp only;omega,?_⟩ (by simp only;omega)
    simp only
    rw[hst,if_pos ⟨h3.1.1,h3.1.2,h3.2⟩]
   ·refine hag2 (sx,j+1) ⟨by simp only;omega,by simp only;omega,?_⟩ (by simp only;omega)
    simp only
    rw[hst,if_neg (fun h4=>by
     rcases h3 with(h3|h3)|h3
     ·exact h3 h4.1
     ·exact h3 h4.2.1
     ·exact h3 h4.2.2)]
   ·obtain⟨t1,t2⟩:=hR sec A5 H5 hD5 hk
    rw[show(j-1).toNat=P.length-1 by omega]at hJ
    rw[←hJ]at t1 t2
    refine⟨rfl,by simp only[zi,zr];omega,yR _,rfl,by simp only[zi,zr];omega,yR _,rfl,by simp only[zi,zr];omega,yR _,?_⟩
    refine hag (_,_,_,A5,H5,k-1) ⟨by simp only;omega,_,_,?_,?_,?_,t1,t2⟩ (by simp only;omega)
    ·simp only
     rw[hP,←qr]
     rfl
    ·simp only
     rw[hS,←qr]
     rfl
    ·simp only
     rw[hW,zk,List.length_singleton,List.replicate_succ',←qr]
     rfl
 ·cases h
end Go.Ax
namespace Go.Ax
open Go.Proofs
inductive Cn (es:List (List Int)):Int→Int→Prop
 |refl (u:Int):Cn es u u
 |tail {u v w:Int} (h:Cn es u v) (hw:w∈ztq es v):Cn es u w
end Go.Ax
namespace Go.Ax
open Go.Proofs
structure Bfs (n:Nat) (es:List (List Int)) (root:Int) (ord par:List Int) (i k:Nat):Prop where
 nd:ord.Nodup
 inr:∀x∈ord,0≤x∧x<n
 pl:par.length=n
 ne:0<ord.length
 hd:ord.getD 0 0=root
 rp:gI par root= -1
 tree:∀t,0<t→t<ord.length→∃s,s<t∧s≤i∧gI par (ord.getD t 0)=ord.getD s 0∧ord.getD t 0∈ztq es (ord.getD s 0)∧(s=i→ord.getD t 0∈(ztq es (ord.getD i 0)).take k)
 done:∀t,t<i→∀x∈ztq es (ord.getD t 0),x∈ord
 cur:∀x∈(ztq es (ord.getD i 0)).take k,x∈ord
 ile:i≤ord.length
theorem znf{l:List Int}{t:Nat}(h:t<l.length):l.getD t 0∈l:=by
 rw[zd,ze h];exact ya _
theorem zwx{l:List Int}{k:Nat}(h:k<l.length):l[k]=l.getD k 0:=by
 rw[zd,ze h];rfl
theorem zDO{l:List Int}{x:Int}(h:x∈l):∃t,t<l.length∧l.getD t 0=x:=by
 obtain⟨t,ht,rfl⟩:=qk.1 h
 exact⟨t,ht,by rw[zd,ze ht];rfl⟩
theorem zrC:∀{n:Nat} (l:List Int),l.Nodup→(∀x∈l,0≤x∧x<n)→l.length≤n
 |0,l,_,hl=>by
  cases l with
  |nil=>simp
  |cons x l=>have:=hl x (by simp);omega
 |n+1,l,hn,hl=>by
  have h1:=zrC (n:=n) (l.filter fun x=>x !=(n:Int)) (hn.filter _) (fun x hx=>by
   have h2:=List.mem_filter.1 hx
   have h3:=hl x h2.1
   have h4:x≠n:=by simpa using h2.2
   omega)
  have h2:∀l:List Int,l.Nodup→l.length≤(l.filter fun x=>x !=(n:Int)).length+1:=by
   intro l
   induction l with
   |nil=>simp
   |cons y l ih=>
    intro hy
    have hy2:=List.nodup_cons.1 hy
    have ih2:=ih hy2.2
    by_cases hyn:y=n
    ·have h3:(l.filter fun x=>x !=(n:Int))=l:=by
      rw[List.filter_eq_self]
      intro a ha
      have:a≠n:=fun h=>hy2.1 (by rw[hyn,←h];exact ha)
      simpa using this
     rw[List.filter_cons,hyn]
     simp[h3]
    ·rw[List.filter_cons]
     simp[hyn]
     omega
  have h3:=h2 l hn
  omega
end Go.Ax
namespace Go.Ax
open Go.Proofs
end Go.Ax
namespace Go.Ax
open Go.Proofs
theorem zsI{α:Type}(f:Nat→α){n i:Nat}(x:α)(h:i<n):(qD f n).set i x=qD (fun t=>if t=i then x else f t) n:=by
 apply List.ext_getElem?
 intro j
 rw[List.getElem?_set]
 by_cases hj:j<n
 ·rw[uR _ _ _ hj,uR _ _ _ hj]
  by_cases h1:i=j
  ·rw[if_pos h1,if_pos (by rw[qh];exact h),if_pos h1.symm]
  ·rw[if_neg h1,if_neg (Ne.symm h1)]
 ·rw[if_neg (by omega),zI (by rw[qh];omega),zI (by rw[qh];omega)]
end Go.Ax
namespace Go.Proofs
open Go.Shelf
def zzi:Go.Shelf.Ren:=⟨fun|5=>76|8=>106|7=>105|19=>132|20=>133|10=>123|11=>124|12=>125|13=>126|14=>127|15=>128|16=>129|17=>130|18=>131|30=>141|31=>142|32=>143|33=>144|34=>145|35=>122|40=>150|n=>n,fun|23=>30|25=>2|3=>3|32=>76|22=>30|0=>0|44=>134|46=>69|4=>4|36=>126|35=>125|41=>131|5=>5|9=>9|53=>143|57=>147|63=>151|64=>152|n=>n,fun|n=>n⟩
theorem zBY:Go.Proofs.SlLaysM.n5 Tryz.prog zzi:={
 mixed:=by kernel_rfl
 f5:=⟨Tryz.f76.name,by decide,Tryz.func76.trans (congrArg some (by kernel_rfl))⟩
 f7:=⟨Tryz.f105.name,by decide,Tryz.func105.trans (congrArg some (by kernel_rfl))⟩
 f8:=Tryz.func106.trans (congrArg some (by kernel_rfl))
 f10:=⟨Tryz.f123.name,by decide,Tryz.func123.trans (congrArg some (by kernel_rfl))⟩
 f11:=⟨Tryz.f124.name,by decide,Tryz.func124.trans (congrArg some (by kernel_rfl))⟩
 f12:=⟨Tryz.f125.name,by decide,Tryz.func125.trans (congrArg some (by kernel_rfl))⟩
 f13:=⟨Tryz.f126.name,by decide,Tryz.func126.trans (congrArg some (by kernel_rfl))⟩
 f14:=⟨Tryz.f127.name,by decide,Tryz.func127.trans (congrArg some (by kernel_rfl))⟩
 f15:=⟨Tryz.f128.name,by decide,Tryz.func128.trans (congrArg some (by kernel_rfl))⟩
 f16:=⟨Tryz.f129.name,by decide,Tryz.func129.trans (congrArg some (by kernel_rfl))⟩
 f17:=⟨Tryz.f130.name,by decide,Tryz.func130.trans (congrArg some (by kernel_rfl))⟩
 f18:=⟨Tryz.f131.name,by decide,Tryz.func131.trans (congrArg some (by kernel_rfl))⟩
 f19:=Tryz.func132.trans (congrArg some (by kernel_rfl))
 f20:=Tryz.func133.trans (congrArg some (by kernel_rfl))
 f30:=⟨Tryz.f141.name,by decide,Tryz.func141.trans (congrArg some (by kernel_rfl))⟩
 f31:=Tryz.func142.trans (congrArg some (by kernel_rfl))
 f32:=Tryz.func143.trans (congrArg some (by kernel_rfl))
 f33:=⟨Tryz.f144.name,by decide,Tryz.func144.trans (congrArg some (by kernel_rfl))⟩
 f34:=⟨Tryz.f145.name,by decide,Tryz.func145.trans (congrArg some (by kernel_rfl))⟩
 f35:=⟨Tryz.f122.name,by decide,Tryz.func122.trans (congrArg some (by kernel_rfl))⟩
 f40:=⟨Tryz.f150.name,by decide,Tryz.func150.trans (congrArg some (by kernel_rfl))⟩
 t0:=Tryz.underlying0
 a0:=Tryz.isAgg0
 z0:=Tryz.sizeOf0
 v0:=Tryz.zeroValue0
 t3:=Tryz.underlying3
 a3:=Tryz.isAgg3
 z3:=Tryz.sizeOf3
 v3:=Tryz.zeroValue3
 t4:=Tryz.underlying4
 a4:=Tryz.isAgg4
 z4:=Tryz.sizeOf4
 v4:=Tryz.zeroValue4
 t5:=Tryz.underlying5
 a5:=Tryz.isAgg5
 z5:=Tryz.sizeOf5
 v5:=Tryz.zeroValue5
 t9:=Tryz.underlying9
 a9:=Tryz.isAgg9
 z9:=Tryz.sizeOf9
 v9:=Tryz.zeroValue9
 t22:=Tryz.underlying30
 a22:=Tryz.isAgg30
 z22:=Tryz.sizeOf30
 v22:=Tryz.zeroValue30
 t23:=Tryz.underlying30
 a23:=Tryz.isAgg30
 z23:=Tryz.sizeOf30
 v23:=Tryz.zeroValue30
 t25:=Tryz.underlying2
 a25:=Tryz.isAgg2
 z25:=Tryz.sizeOf2
 v25:=Tryz.zeroValue2
 t32:=Tryz.underlying76
 a32:=Tryz.isAgg76
 z32:=Tryz.sizeOf76
 v32:=Tryz.zeroValue76
 t35:=Tryz.underlying125
 a35:=Tryz.isAgg125
 z35:=Tryz.sizeOf125
 v35:=Tryz.zeroValue125
 t36:=Tryz.underlying126
 a36:=Tryz.isAgg126
 z36:=Tryz.sizeOf126
 v36:=Tryz.zeroValue126
 t41:=Tryz.underlying131
 a41:=Tryz.isAgg131
 z41:=Tryz.sizeOf131
 v41:=Tryz.zeroValue131
 t44:=Tryz.underlying134
 a44:=Tryz.isAgg134
 z44:=Tryz.sizeOf134
 v44:=Tryz.zeroValue134
 t46:=Tryz.underlying69
 a46:=Tryz.isAgg69
 z46:=Tryz.sizeOf69
 v46:=Tryz.zeroValue69
 t53:=Tryz.underlying143
 a53:=Tryz.isAgg143
 z53:=Tryz.sizeOf143
 v53:=Tryz.zeroValue143
 t57:=Tryz.underlying147
 a57:=Tryz.isAgg147
 z57:=Tryz.sizeOf147
 v57:=Tryz.zeroValue147
 t63:=Tryz.underlying151
 a63:=Tryz.isAgg151
 z63:=Tryz.sizeOf151
 v63:=Tryz.zeroValue151
 t64:=Tryz.underlying152
 a64:=Tryz.isAgg152
 z64:=Tryz.sizeOf152
 v64:=Tryz.zeroValue152}
end Go.Proofs
namespace Go.Ax
open Go.Proofs Go.Sort Go.RowKit
theorem zsa{xs:List Int}{j:Nat}(h:j<xs.length):xs.toArray[j]! =xs.getD j 0:=by
 rw[getElem!_pos xs.toArray j (by simpa using h)]
 simp[zd,ze h]
theorem cz1: Tryz.prog.cellsOf 2 =1:=by kernel_rfl
theorem zv9{cz:TypeId→Nat}{w:World}{F O:Nat→Prop}{k:IntKind}{n:Int}{cs:List Value}(h:Rep cz w F (.int k n) cs O):cs=[.int k n]:=by
 cases h
 rfl
theorem zmy{w:World}{blk:Nat}{cur:Array Value}{t:TypeId}{fz:Nat×Nat}(hb:w.heap[blk]? =some (.cells cur t fz))(d:Array Int):
 (putRow (Value.int .i64) w blk 0 d).heap[blk]? =some (.cells (putCells (Value.int .i64) 0 d cur) t fz):=by
 simp[putRow,mapBlock,Array.getElem?_modify,hb,onCells]
theorem zh3{w:World}{blk k:Nat}(hk:k≠blk)(d:Array Int):(putRow (Value.int .i64) w blk 0 d).heap[k]? =w.heap[k]? :=by
 simp[putRow,mapBlock,Array.getElem?_modify,Ne.symm hk]
end Go.Ax
