import Derived.Test.YtnhfpgcicpfohaaGreatDoorB04p1
import Derived.Test.YtnhfpgcicpfohaaGreatDoorB01p1
import Derived.Test.YtnhfpgcicpfohaaGreatDoorB02p1
import Derived.Test.YtnhfpgcicpfohaaGreatDoorB03p1
set_option linter.all false
set_option maxRecDepth 100000
set_option maxHeartbeats 4000000
open Bool renaming and_eq_false_iff→ky
open List renaming all_eq_true→zZ,append_assoc→zS,append_nil→yh,drop_zero→qY,getD_eq_getElem?_getD→zd,getElem?_drop→ya,getElem?_eq_getElem→ze,getElem?_eq_some_iff→zj,length_append→zk,length_cons→zi,length_map→zy,length_nil→zq,length_replicate→zU,length_singleton→yr,length_take→zD,mem_singleton→zX,replicate_append_replicate→je,replicate_zero→uB,take_append_drop→jq,take_of_length_le→zu,take_succ_eq_append_getElem→zC
open Nat renaming add_zero→zY,gcd_comm→uN,le_of_ble_eq_true→zh
open Option.some renaming injEq→za
open Prod.mk renaming injEq→zb
/-
 Branches of sequences:spec.l04Branch,spec.StrictTransform. No conditions but those of the contracts.
-/
namespace Go.Ax
open Go.Proofs
theorem zxL{n:Nat}{l:List Nat}{L:List Int}(h:zpp n l L):∀i,i+1<L.length→L.getD (i+1) 0≤L.getD i 0:=by
 obtain⟨hb,_,m,rfl⟩:=h
 intro i hi
 obtain⟨hg,_⟩:=zcX (zsp hb)
 have h1:∀j,j<(yv (uZ 0 n l++List.replicate m 1)).length→(yv (uZ 0 n l++List.replicate m 1)).getD j 0=(mul (yv (n::l)) j:Int):=fun j hj=>by
  have h2:(yv (uZ 0 n l++List.replicate m 1)).getD j 0=(yv (uZ 0 n l++List.replicate m 1)).getD j 1:=by
   rw[zd,ze hj,zd,ze hj];rfl
  have h3:yv (List.replicate m 1)=List.replicate m 1:=by simp[yv]
  rw[h2,za0,h3,zjX,←zBb hb,zrR]
 rw[h1 _ hi,h1 _ (by omega)]
 have:=hg.fall i
 omega
theorem zsh:∀(l:List (Nat×Nat)) (p:Nat×Nat),OkB (p::l)→l.length≤(Zo l).length
 |[],_,_=>Nat.zero_le _
 |q::l,p,h=>by
  have ih:=zsh l q h.2.2
  have h2:1≤q.2:=h.2.1
  rw[ZE,zk,zU,zi]
  omega
theorem zyT{B:List (Nat×Nat)}(x:Nat)(h:B≠[]):(zg4 B x).head?.map Prod.fst=B.head?.map Prod.fst:=by
 rw[zg4]
 match B,h with
 |[p],_=>
  simp only[List.getLast?_singleton]
  split<;>rfl
 |p::q::B,_=>
  cases h2:(p::q::B).getLast? with
  |none=>simp at h2
  |some r=>
   simp only
   split
   ·rw[show(p::q::B).length-1=B.length+1 by simp];rfl
   ·rfl
theorem zoi:∀(k:Nat) (L:List Nat),L.length=k→(Qk L).head?.map Prod.fst=L.head?
 |0,L,h=>by
  obtain rfl:=List.eq_nil_of_length_eq_zero h
  rfl
 |k+1,L0,h=>by
  obtain⟨L,x,rfl⟩:∃L x,L0=L++[x]:=by
   have hne:L0≠[]:=fun h2=>by rw[h2]at h;simp at h
   exact⟨L0.dropLast,L0.getLast hne,(List.dropLast_concat_getLast hne).symm⟩
  have ih:=zoi k L (by rw[zk,yr]at h;omega)
  rw[zkh]
  by_cases hL:L=[]
  ·subst hL;rfl
  ·have hb:Qk L≠[]:=fun h2=>by
    have h3:=(zlf L).2.1
    rw[h2]at h3
    exact hL h3.symm
   rw[zyT x hb,ih]
   cases L with
   |nil=>exact absurd rfl hL
   |cons y L=>rfl
theorem zyB{α:Type}{l tl:List α}{k:Nat}{x y:α}(h:l.drop k=x::tl)(hk:k<l.length):(l.set k y).drop k=y::tl:=by
 have hsp:l=l.take k++x::tl:=by rw[←h,jq]
 have hl:(l.take k).length=k:=by rw[zD];omega
 have h2:l.set k y=l.take k++y::tl:=by
  conv=>lhs;rw[hsp]
  rw[List.set_append_right _ _ (by omega),hl,Nat.sub_self];rfl
 rw[h2]
 conv=>lhs;rw[←hl]
 rw[hl]
 have h3:=List.drop_left (l₁:=l.take k) (l₂:=y::tl)
 rw[hl]at h3
 exact h3
def zwC(a:List V):Prop:=∃n l L,a=I L∧zpp n l L∧L.length≤1000
theorem zmf:yZ Tryz.prog 108 (ztv zk6 zwC):=by
 intro args ps r h hp
 unfold ztv at h
 split at h
 ·rename_i a0
  simp only[za,zb]at h
  obtain⟨rfl,rfl⟩:=h
  obtain⟨n,l,ls,hL0,hs,hLl⟩:zwC a0:=(zo.1 hp).1
  have g0:V.frzs a0=a0:=by rw[hL0,zN]
  have hal:a0.length=ls.length:=by rw[hL0,zm]
  have gal:∀k,a0.getD k (.int .i64 0)=.int .i64 (ls.getD k 0):=fun k=>by rw[hL0,zT]
  have hfall:=zxL hs
  obtain⟨hh,hlen⟩:=zzo hs
  have hf0:zk6 a0=(I (yv (n::l)),true):=by rw[zk6,hL0,zB,zhO hs]
  obtain⟨hb,hne,m,hLe⟩:=hs
  have hlo:=hb.lo
  have hhi:=hb.hi
  obtain⟨ni,hni⟩:∃ni:Int,ni=n:=⟨_,rfl⟩
  obtain⟨lm,hlm⟩:∃lm:Int,lm=ls.length:=⟨_,rfl⟩
  have hh2:ls.getD 0 0=ni:=by rw[hh,hni]
  obtain⟨N,hN⟩:∃N,N=uZ 0 n l++List.replicate m 1:=⟨_,rfl⟩
  rw[←hN]at hLe
  obtain⟨bl0,hbl0⟩:∃bl0,bl0=Qk N:=⟨_,rfl⟩
  obtain⟨vb,hvb⟩:∃vb,vb=II true (QD bl0):=⟨_,rfl⟩
  have hfb:zk7 a0=vb:=by rw[zk7,hL0,zB,hLe,zaB,←hbl0,hvb]
  have hNl:N.length=ls.length:=by rw[hLe,kV]
  obtain⟨hok0,hex0,hlast0⟩:=zlf N
  rw[←hbl0]at hok0 hex0
  have hbr:=zsp hb
  have hsm:=zqb l n n (by omega) hb.val
  generalize zp3:zk7=zv8
  generalize zpC:zwK=zCa
  generalize qG:kP=jv
  generalize qj:uU=km
  refine zO (T:=tab) (B:=[(117,zld zv8 zCa),(42,YP jv km)]) (Bi:=[]) [0,2,3,4,5,6,7,8,9,10,11] Tryz.func108 rfl rfl (by kernel_rfl) (zh rfl) mixed yd (by subst zp3 zpC qG qj;exact(zt zmg (zt KM zH))) (by subst zp3 zpC qG qj;exact zE) (by kernel_rfl) ?_
  intro L lp rr hL hr hf hlp
  have Eb:zv8 a0=vb:=by rw[←zp3,hfb]
  conv=>cbv
  refine hlp (Int) _ _ _ [0,2,4] (fun x=>[(0,none,.val (.slc false 2 (.int .i64 0) a0)),(2,none,.val (.box 46 (.agg [.slc true 2 (.int .i64 0) []]))),(4,none,.val (.int .i64 x))])
   (fun x=>1≤x∧x≤lm) (fun x=>(lm-x).toNat) (1) (by subst hL;rfl) ?_ ?_
  ·exact⟨by omega,by omega⟩
  intro i ⟨i0,i1⟩ hfx ag hag
  have hfi:i<lm→ls.getD i.toNat 0≤ls.getD (i-1).toNat 0:=fun h=>by
   have:=hfall (i-1).toNat (by omega)
   rw[show(i-1).toNat+1=i.toNat by omega]at this
   exact this
  have b1:IntKind.wrap .i64 (i-1)=i-1:=zl (by omega) (by omega)
  have b2:IntKind.wrap .i64 (i+1)=i+1:=zl (by omega) (by omega)
  conv=>cbv
  simp only[zr hL,sQ,g0,hal,gal,←hlm,b1,b2,Eb,hh2]
  refine⟨fun h2=>⟨by omega,by omega,by omega,by omega,fun h3=>?_,fun h3=>hag (i+1) ⟨by omega,by omega⟩ (by omega)⟩,fun h2=>⟨?_,by omega,by omega,by omega,by omega,?_⟩⟩
  ·have:=hfi h2
   omega
  ·rw[←zpC];exact⟨N,by rw[hL0,hLe],by omega⟩
  clear hag hfx ag
  refine hlp (List V×List V×Int×Int×Int) _ _ _ [2,5,6,7,8,9] (fun x=>[(2,none,.val (.box 46 (.agg [.slc true 2 (.int .i64 0) []]))),(5,none,.val (.slc true 44 (.slc true 2 (.int .i64 0) []) x.1)),(6,none,.val (.box 46 (.agg [.slc true 2 (.int .i64 0) x.2.1]))),(7,none,.val (.int .i64 x.2.2.1)),(8,none,.val (.int .i64 x.2.2.2.1)),(9,none,.val (.int .i64 x.2.2.2.2))])
   (fun x=>∃(bl:List (Nat×Nat)) (pre rest:List Nat) (p e m a:Nat),x.1=II true (QD bl)∧x.2.1=I (yv (n::pre))∧l=pre++rest∧x.2.2.1=(p:Int)∧x.2.2.2.1=(a:Int)∧x.2.2.2.2=(e:Int)∧0<e∧e≤64∧p≤2000∧e ∣ p∧Val p e rest∧bl.length≤2000∧(Zo (bl.drop a)).length≤1000∧OkB (bl.drop a)∧Zo (bl.drop a)=uZ p e rest++List.replicate m 1∧(∀v c tl,bl.drop a=(v,c)::tl→v=e)) (fun x=>x.2.2.2.2.toNat) ((vb,[V.int IntKind.i64 ni],0,0,ni)) (by subst hL;rfl) ?_ ?_
  ·refine⟨bl0,[],l,0,n,m,0,hvb,by rw[hni];rfl,rfl,rfl,rfl,hni,by omega,hhi,by omega,⟨0,rfl⟩,hb.val.weak (by omega),?_,by rw[qY,hex0];omega,hok0,by rw[qY,hex0,hN],?_⟩
   ·cases hb9:bl0 with
    |nil=>simp
    |cons q9 l9=>
     rw[hb9]at hok0 hex0
     have h3:=zsh l9 q9 hok0
     have h4:=congrArg List.length hex0
     rw[ZE,zk]at h4
     simp only[zi]
     omega
   ·intro v c tl h3
    rw[qY]at h3
    have h4:=zoi _ N rfl
    rw[←hbl0,h3]at h4
    have h5:N.getD 0 0=n:=by
     have h6:=KQ N 0 0
     rw[←hLe]at h6
     have h7:ls.getD 0 0=((N.getD 0 0:Nat):Int):=h6
     rw[hh]at h7
     omega
    cases hN9:N with
    |nil=>rw[hN9]at h4;simp at h4
    |cons y N9=>
     rw[hN9]at h4 h5
     simp only[List.head?_cons,Option.map_some,za]at h4
     rw[h4]
     exact h5
  rintro⟨vs,bs,la,ti,e⟩ ⟨bl,pre,rest,p,e',m',a,hV,hB,hl,hp,ha,he,he0,he64,hp2,hd,hv,hbl,hel,hok,hex,hhd⟩ hfx ag hag
  simp only at hV hB hp ha he
  have hvl:vs.length=bl.length:=by rw[hV,yz,zqj]
  have hbsl:bs.length=pre.length+1:=by rw[hB,zm,kV];rfl
  have gvs:∀(k:Nat) (q:Nat×Nat),bl[k]? =some q→vs.getD k (.slc true 2 (.int .i64 0) [])=.slc true 2 (.int .i64 0) (I [(q.1:Int),(q.2:Int)]):=fun k q h=>by
   rw[hV,jf,zqk h]
  have hl2:∀x y:Int,[x,y].length=2:=fun _ _=>rfl
  have hg0:∀x y:Int,[x,y].getD 0 0=x:=fun _ _=>rfl
  have hg1:∀x y:Int,[x,y].getD 1 0=y:=fun _ _=>rfl
  by_cases he1:1<e
  ·cases rest with
   |nil=>have h3:e'=1:=hv
         omega
   |cons t rest=>
    obtain⟨v1,v2,v3,v4⟩:=hv
    obtain⟨X,hx,hr0,hr1⟩:=zk9 he0 (znF hd v1 v3)
    obtain⟨q,hq⟩:∃q,q=(t-p)/e':=⟨_,rfl⟩
    obtain⟨r,hr9⟩:∃r,r=(t-p)%e':=⟨_,rfl⟩
    obtain⟨Y,hY⟩:∃Y,Y=uZ t (Nat.gcd e' t) rest++List.replicate m' 1:=⟨_,rfl⟩
    have hxe:ex (t-p) e'=List.replicate q e'++ex e' r:=by rw[uK he0,←hq,←hr9]
    rw[←hq,←hr9]at hx
    rw[←hr9]at hr0 hr1
    have hk:q*e'+r=t-p:=by rw[hq,hr9,Nat.mul_comm];exact Nat.div_add_mod _ _
    have hXe:ex e' r=r::X:=by
     have h3:=hxe.symm.trans hx
     exact List.append_cancel_left h3
    have hex2:Zo (bl.drop a)=List.replicate q e'++r::(X++Y):=by
     rw[hex,uZ,zS,←hY,hx];simp
    obtain⟨c,tl,hdr⟩:∃c tl,bl.drop a=(e',c)::tl:=by
     match h3:bl.drop a with
     |[]=>
      rw[h3]at hex2
      exfalso
      have h4:=congrArg List.length hex2
      simp[Zo]at h4
     |(v,c)::tl=>exact⟨c,tl,by rw[hhd v c tl h3]⟩
    rw[hdr]at hok hex2 hel
    obtain⟨hcq,c1,tl',htl,hok2,hex3⟩:=ztK hok (by omega) hex2
    have hbA:bl[a]? =some (e',q):=by
     have h4:(bl.drop a)[0]? =some (e',c):=by rw[hdr];rfl
     rw[ya,zY,hcq]at h4
     exact h4
    have hdr1:bl.drop (a+1)=(r,c1)::tl':=by
     have h4:(bl.drop a).drop 1=tl:=by rw[hdr];rfl
     rw[List.drop_drop,htl]at h4
     exact h4
    have hbB:bl[a+1]? =some (r,c1):=by
     have h4:(bl.drop (a+1))[0]? =some (r,c1):=by rw[hdr1];rfl
     rw[ya,zY]at h4
     exact h4
    have hal2:a+1<bl.length:=(zj.1 hbB).1
    have ht1:ti.toNat=a:=by omega
    have ht2:(ti+1).toNat=a+1:=by omega
    have b3:IntKind.wrap .i64 (ti+1)=ti+1:=zl (by omega) (by omega)
    have hqe:q*e'≤2000:=by omega
    obtain⟨qe,hqe9⟩:∃qe:Int,qe=((q*e':Nat):Int):=⟨_,rfl⟩
    have b4:IntKind.wrap .i64 ((q:Int)*e)=qe:=by
     have h5:(q:Int)*e=((q*e':Nat):Int):=by rw[he];push_cast;rfl
     rw[h5,hqe9]
     exact zl (by omega) (by omega)
    have b5:IntKind.wrap .i64 (la+qe)=la+qe:=zl (by omega) (by omega)
    have b6:IntKind.wrap .i64 (la+qe+(r:Int))=(t:Int):=by
     rw[zl (by omega) (by omega)]
     omega
    have hpl:pre.length≤5:=by
     have h6:l.length=pre.length+(rest.length+1):=by rw[hl,zk];rfl
     have h7:l.length≤6:=by
      rcases Nat.lt_or_ge 6 l.length with h8|h8
      ·exfalso
       have h9:2^7≤2^l.length:=Nat.pow_le_pow_right (by omega) (by omega)
       omega
      ·exact h8
     omega
    have gA:=gvs _ _ hbA
    have gB:=gvs _ _ hbB
    conv=>cbv
    simp only[zr hL,sQ,hvl,b3,ht1,ht2,gA,gB,zeI,zm,zT,uz,hl2,hg0,hg1,b4,b5,b6]
    refine⟨fun _=>⟨fun _=>by omega,fun _=>by omega,fun _=>by omega,fun _=>trivial,fun _=>by omega,fun _=>trivial,fun _=>by omega,fun _=>by omega,fun _=>by omega,fun _=>trivial,fun _=>by omega,fun _=>trivial,fun h3=>by omega,fun _=>⟨by omega,by omega,hal2,hal2,by omega,by omega,hal2,by omega,?_⟩⟩,fun h=>absurd he1 h⟩
    obtain⟨bs2,hb2⟩:∃bs2,bs2=bs++[V.int IntKind.i64 (t:Int)]:=⟨_,rfl⟩
    have hb2l:bs2.length=pre.length+2:=by rw[hb2,zk,hbsl];rfl
    have hB2:bs2=I (yv (n::(pre++[t]))):=by
     rw[hb2,hB,show yv (n::(pre++[t]))=yv (n::pre)++[(t:Int)] by simp[yv],←jS];rfl
    simp only[←hb2,hb2l]
    have hgp:=Nat.gcd_pos_of_pos_left t he0
    have hgl:=Nat.le_of_dvd he0 (Nat.gcd_dvd_left e' t)
    have hgr:Nat.gcd e' r=Nat.gcd e' t:=by
     have h4:Nat.gcd e' (t-p)=Nat.gcd e' t:=zyq hd (by omega)
     rw[←h4,Nat.gcd_rec e' (t-p),←hr9,uN]
    refine⟨by omega,by omega,by omega,by omega,by omega,by omega,by omega,by omega,rfl,by simp only[yr];omega,qJ _,fun h8=>by omega,fun _=>?_⟩
    refine hlp (Int×Int×Int) _ _ _ [2,5,6,7,8,9,10] (fun x=>[(2,none,.val (.box 46 (.agg [.slc true 2 (.int .i64 0) []]))),(5,none,.val (.slc true 44 (.slc true 2 (.int .i64 0) []) vs)),(6,none,.val (.box 46 (.agg [.slc true 2 (.int .i64 0) bs2]))),(7,none,.val (.int .i64 (t:Int))),(8,none,.val (.int .i64 x.1)),(9,none,.val (.int .i64 x.2.1)),(10,none,.val (.int .i64 x.2.2))])
     (fun x=>∃(a1 e1 r1 c:Nat) (tl:List (Nat×Nat)),(Zo ((r1,c)::tl)).length≤1000∧x.1=(a1:Int)∧x.2.1=(e1:Int)∧x.2.2=(r1:Int)∧0<r1∧r1≤64∧0<e1∧e1≤64∧Nat.gcd e1 r1=Nat.gcd e' t∧bl.drop a1=(r1,c)::tl∧OkB ((r1,c)::tl)∧Zo ((r1,c)::tl)=ex e1 r1++Y) (fun x=>x.2.2.toNat) ((ti+1,e,(r:Int))) (by subst hL;rfl) ?_ ?_
    ·have hel2:(Zo ((r,c1)::tl')).length≤1000:=by
      rw[←htl]
      rw[ZE,zk]at hel
      omega
     exact⟨a+1,e',r,c1,tl',hel2,by simp only;omega,he,rfl,hr0,by omega,he0,he64,hgr,hdr1,by rw[←htl];exact hok2,by rw[←htl,hex3,hXe];rfl⟩
    rintro⟨tj,f,s⟩ ⟨a1,e1,r1,c9,tl9,hel9,ha1,hf9,hs9,r0,r64,ee0,ee64,hgc,hdr9,hok9,hex9⟩ hfx2 ag2 hag2
    simp only at ha1 hf9 hs9
    have hbA9:bl[a1]? =some (r1,c9):=by
     have h4:(bl.drop a1)[0]? =some (r1,c9):=by rw[hdr9];rfl
     rw[ya,zY]at h4
     exact h4
    have hA9:a1<bl.length:=(zj.1 hbA9).1
    have ht9:tj.toNat=a1:=by omega
    have hm9:f.tmod s=((e1%r1:Nat):Int):=by rw[hf9,hs9];exact(Int.ofNat_tmod e1 r1).symm
    have hd9:f.tdiv s=((e1/r1:Nat):Int):=by rw[hf9,hs9];exact(Int.ofNat_tdiv e1 r1).symm
    have hdl:e1/r1≤e1:=Nat.div_le_self _ _
    have hre:ex e1 r1=List.replicate (e1/r1) r1++ex r1 (e1%r1):=uK r0
    have hfo:=fun h:¬e1%r1=0=>zk9 r0 (k:=e1) (fun h2=>h (Nat.mod_eq_zero_of_dvd h2))
    obtain⟨k9,hk9e⟩:∃k9,k9=e1/r1:=⟨_,rfl⟩
    rw[←hk9e]at hd9 hdl hre
    simp only[←hk9e]at hfo
    have b7:IntKind.wrap .i64 (k9:Int)=(k9:Int):=zl (by omega) (by omega)
    have b8:IntKind.wrap .i64 (tj+1)=tj+1:=zl (by omega) (by omega)
    have hs0:s≠0:=by omega
    have gA9:=gvs _ _ hbA9
    by_cases hmod:e1%r1=0
    ·have hex10:ex e1 r1=List.replicate k9 r1:=by rw[hre,hmod,zeN,yh]
     rw[hex10]at hex9
     obtain⟨hk9,hok10,hex11⟩:=zAj hok9 hex9
     obtain⟨c10,hc10⟩:∃c10,c10=c9-k9:=⟨_,rfl⟩
     rw[←hc10]at hok10 hex11
     have hm10:f.tmod s=0:=by rw[hm9,hmod];rfl
     have hc9:c9≤1000000:=by
      rw[ZE,zk,zU]at hel9
      simp only at hel9
      omega
     have hel10:(Zo ((r1,c10)::tl9)).length≤1000:=by
      rw[ZE,zk,zU]at hel9 ⊢
      simp only at hel9 ⊢
      omega
     have b9:IntKind.wrap .i64 ((c9:Int)-(k9:Int))=(c10:Int):=by
      rw[zl (by omega) (by omega)];omega
     obtain⟨vs2,hvs2⟩:∃vs2,vs2=vs.set a1 (.slc true 2 (.int .i64 0) (I [(r1:Int),(c10:Int)])):=⟨_,rfl⟩
     have hset:(I [(r1:Int),(c9:Int)]).set 1 (V.int .i64 (c10:Int))=I [(r1:Int),(c10:Int)]:=rfl
     have hv2l:vs2.length=bl.length:=by rw[hvs2,List.length_set,hvl]
     have gA10:vs2.getD a1 (.slc true 2 (.int .i64 0) [])=.slc true 2 (.int .i64 0) (I [(r1:Int),(c10:Int)]):=by
      rw[hvs2,zd,List.getElem?_set_self (by omega)];rfl
     conv=>cbv
     simp only[zr hL,sQ,hvl,ht9,gA9,zeI,zm,zT,uz,hl2,hg0,hg1,hm10,hd9,b7,b9,hset,←hvs2,hv2l,gA10]
     refine⟨hs0,fun h=>absurd trivial h,fun _=>⟨by omega,by omega,hA9,hA9,by omega,by omega,hA9,by omega,hs0,hA9,by omega,by omega,hA9,by omega,?_⟩⟩
     have hrg:r1=Nat.gcd e' t:=by rw[←hgc];exact(Nat.gcd_eq_right (Nat.dvd_of_mod_eq_zero hmod)).symm
     have hsp:bl=bl.take a1++(r1,c9)::tl9:=by rw[←hdr9,jq]
     have hdrs:(bl.set a1 (r1,c10)).drop a1=(r1,c10)::tl9:=by
      rw[zyB hdr9 hA9]
     refine⟨hA9,by omega,by omega,hA9,by omega,fun h=>by omega,fun _=>?_⟩
     refine hag (vs2,bs2,(t:Int),tj,s) ⟨bl.set a1 (r1,c10),pre++[t],rest,t,r1,m',a1,?_,hB2,by rw[hl];simp,rfl,ha1,hs9,r0,r64,v2,by rw[hrg];exact Nat.gcd_dvd_right e' t,by rw[hrg];exact v4,by rw[List.length_set];exact hbl,by rw[hdrs];exact hel10,by rw[hdrs];exact hok10,by rw[hdrs,hex11,hY,hrg],?_⟩ ?_
     ·simp only
      rw[hvs2,hV,zd2,←zqi]
     ·intro v c tl h3
      rw[hdrs]at h3
      injection h3 with h3 _
      injection h3 with h3 _
      exact h3.symm
     ·simp only
      have h5:r1<e':=by
       rw[hrg]
       omega
      omega
    ·obtain⟨X2,hx2,hq0,hq1⟩:=hfo hmod
     obtain⟨s1,hs1⟩:∃s1,s1=e1%r1:=⟨_,rfl⟩
     rw[←hs1]at hx2 hq0 hq1 hm9
     have hex10:Zo ((r1,c9)::tl9)=List.replicate k9 r1++s1::(X2++Y):=by rw[hex9,hx2];simp
     obtain⟨hcq9,c2,tl2,htl9,hok10,hex11⟩:=ztK hok9 (by omega) hex10
     have hdr10:bl.drop (a1+1)=(s1,c2)::tl2:=by
      have h4:(bl.drop a1).drop 1=tl9:=by rw[hdr9];rfl
      rw[List.drop_drop,htl9]at h4
      exact h4
     have hbB9:bl[a1+1]? =some (s1,c2):=by
      have h4:(bl.drop (a1+1))[0]? =some (s1,c2):=by rw[hdr10];rfl
      rw[ya,zY]at h4
      exact h4
     have hB9:a1+1<bl.length:=(zj.1 hbB9).1
     have ht10:(tj+1).toNat=a1+1:=by omega
     have gB9:=gvs _ _ hbB9
     have hxe2:ex r1 s1=s1::X2:=by
      rw[hre,←hs1]at hx2
      exact List.append_cancel_left hx2
     rw[hcq9]at gA9
     conv=>cbv
     simp only[zr hL,sQ,hvl,b8,ht9,ht10,gA9,gB9,zeI,zm,zT,uz,hl2,hg0,hg1,hm9,hd9,b7]
     refine⟨hs0,fun _=>⟨by omega,by omega,hA9,hA9,by omega,by omega,hA9,by omega,hs0,fun _=>by omega,fun _=>by omega,fun _=>hB9,fun _=>trivial,fun _=>hB9,fun _=>trivial,fun _=>by omega,fun _=>by omega,fun _=>hB9,fun _=>trivial,fun _=>by omega,fun _=>trivial,fun _=>hs0,fun h=>?_,fun _=>⟨by omega,by omega,hB9,hB9,by omega,by omega,hB9,by omega,?_⟩⟩,fun h=>by omega⟩
     ·rcases h with(h|h)|h
      ·exact absurd trivial h
      ·omega
      ·exact absurd trivial h
     ·have hgc2:Nat.gcd r1 s1=Nat.gcd e' t:=by
       rw[←hgc,uN e1 r1,Nat.gcd_rec r1 e1,←hs1,uN]
      have hel10:(Zo ((s1,c2)::tl2)).length≤1000:=by
       rw[←htl9]
       rw[ZE,zk]at hel9
       omega
      exact hag2 (tj+1,s,(s1:Int)) ⟨a1+1,r1,s1,c2,tl2,hel10,by simp only;omega,hs9,rfl,hq0,by omega,r0,r64,hgc2,hdr10,by rw[←htl9];exact hok10,by rw[←htl9,hex11,hxe2];rfl⟩ (by simp only;omega)
  ·have he9:e'=1:=by omega
   have hr0:rest=[]:=by
    cases rest with
    |nil=>rfl
    |cons t rest=>
     have h3:=hv.2.2.1
     rw[he9,Nat.gcd_one_left]at h3
     exact absurd rfl h3
   have hfb2:V.frzs bs=bs:=by rw[hB,zN]
   have hll:l=pre:=by rw[hl,hr0,yh]
   rw[←hll]at hB
   have Ei:jv bs=true:=by rw[←qG,kP,hB,zB];exact hbr.is
   conv=>cbv
   simp only[zr hL,sQ,hfb2,Ei]
   refine⟨fun h=>absurd h he1,fun _=>⟨?_,fun h=>(by cases h),fun _=>by rw[hr,hf0,hB]⟩⟩
   rw[←qj,hB]
   exact⟨⟨_,rfl⟩,by rw[zm];have:=hbr.len;omega⟩
 ·cases h
end Go.Ax
namespace Go.Ax
open Go.Proofs
def okC(cs:List Nat):Bool:=(mC cs).all fun x=>decide (x≤64)
def ziP(cs:List Nat):List Int:=ztJ (yv (mC cs))
def zk3(a:List V):List V×Int:=bif okC (zfl (yV a))then(I (ziP (zfl (yV a))),0)else([],5)
theorem zBO{cs:List Nat}(h:okC cs=true):cvm cs=(I (yv (mC cs)),true):=by
 rw[okC,zay,List.all_cons,Bool.and_eq_true,decide_eq_true_eq]at h
 rw[cvm,if_pos h.2,decide_eq_true h.1]
theorem zCW{cs:List Nat}(h:okC cs=false):(cvm cs).2=false:=by
 rw[okC,zay,List.all_cons,ky,decide_eq_false_iff_not]at h
 rw[cvm]
 split
 ·rename_i h2
  rcases h with h|h
  ·exact decide_eq_false h
  ·rw[h2]at h;cases h
 ·rfl
theorem zBk{cs:List Nat}(hl:cs.length≤30)(h:okC cs=true):∃n l m,BrN n l∧mC cs=uZ 0 n l++List.replicate m 1:=by
 obtain⟨n,l,m,h1,h2,_,_⟩:=zx9 cs hl (fun x hx=>by
  rw[okC,zZ]at h
  simpa using h x hx)
 exact⟨n,l,m,h1,h2⟩
theorem zDz(cs:List Nat):mC cs≠[]:=by rw[zay];simp
theorem zmb{cs:List Nat}(hl:cs.length≤30)(h:okC cs=true)(k:Nat):(∃n l,zpp n l (yv (mC cs++List.replicate k 1)))∧ztJ (yv (mC cs++List.replicate k 1))=ziP cs:=by
 obtain⟨n,l,m,h1,h2⟩:=zBk hl h
 have hne:∀k,yv (mC cs++List.replicate k 1)≠[]:=fun k=>by
  rw[yv]
  simp[zDz]
 have hs:∀k,zpp n l (yv (mC cs++List.replicate k 1)):=fun k=>⟨h1,hne k,m+k,by rw[h2,zS,je]⟩
 refine⟨⟨n,l,hs k⟩,?_⟩
 have h0:=hs 0
 rw[uB,yh]at h0
 rw[ziP,zhO (hs k),zhO h0]
theorem zhn:yZ Tryz.prog 92 (ztu zk3 zew):=by
 intro args ps r h hp
 unfold ztu at h
 split at h
 ·rename_i a0
  simp only[za,zb]at h
  obtain⟨rfl,rfl⟩:=h
  have hq:zew a0:=(zo.1 hp).1
  obtain⟨cs,hcs,hv,hl⟩:=id hq
  have g0:V.frzs a0=a0:=by rw[hcs,zN]
  have hf0:zk3 a0=bif okC cs then(I (ziP cs),0)else([],5):=by rw[zk3,hcs,zB,zaB]
  have hfm:zk2 a0=cvm cs:=by rw[zk2,hcs,zB,zaB]
  generalize zmU:zsX=zAy
  generalize zdj:zew=zlm
  generalize zpU:zk2=zCg
  generalize zmY:zhA=zAA
  generalize zmS:zr6=zAx
  generalize zp1:zk6=zCk
  generalize zpv:zwC=zB4
  refine zO (T:=tab) (B:=[(106,ztt zAy zlm),(107,zts zCg zlm),(109,ztx zAA zAx),(108,ztv zCk zB4)]) (Bi:=[]) [0,2,3,4,5,6,7] Tryz.func92 rfl rfl (by kernel_rfl) (zh rfl) mixed yd (by subst zmU zdj zpU zmY zmS zp1 zpv;exact(zt zrT (zt zjx (zt zoE (zt zmf zH))))) (by subst zmU zdj zpU zmY zmS zp1 zpv;exact zE) (by kernel_rfl) ?_
  intro L lp rr hL hr hf hlp
  conv=>cbv
  simp only[zr hL,sQ,g0]
  subst zpU zdj zp1 zpv zmY zmS zmU
  rw[hfm]
  cases hok:okC cs with
  |true=>
   rw[zBO hok]
   have e1:I (yv (mC cs))++zhA 64=I (yv (mC cs++List.replicate 64 1)):=by
    rw[zhA,jS,←za0]
    rfl
   obtain⟨⟨n,l,hs⟩,hb⟩:=zmb hl hok 64
   have e2:zk6 (I (yv (mC cs++List.replicate 64 1)))=(I (ziP cs),true):=by rw[zk6,zB,hb]
   dsimp only
   rw[e1,zN,e2]
   have hone:zhA 64=I (yv (List.replicate 64 1)):=rfl
   refine⟨hq,fun h=>(by cases h),fun _=>⟨hq,fun h=>(by cases h),fun _=>⟨⟨by omega,by omega⟩,(by rw[hone];exact zfM _),?_,(by rw[hone];exact zhS _),⟨n,l,_,rfl,hs,?_⟩,zhT _,fun h=>(by cases h),fun _=>?_⟩⟩⟩
   ·rw[hone,zm,zm,kV,kV,QG,zU]
    omega
   ·rw[kV,zk,QG,zU]
    omega
   ·rw[hr,hf0,hok]
    rfl
  |false=>
   have h2:=zCW hok
   refine⟨hq,fun h=>(by cases h),fun _=>⟨hq,fun _=>?_,fun h=>(nomatch (h.symm.trans h2:true=false))⟩⟩
   rw[hr,hf0,hok]
   rfl
 ·cases h
end Go.Ax
namespace Go.Ax
open Go.Proofs
def zDG(es:List V):Prop:=∃xss,es=BB false xss∧xss.length≤2147483647∧∀xs∈xss,xs.length≤2147483647
end Go.Ax
namespace Go.Ax
open Go.Proofs
def mm(ms:List (List Int))(i k:Nat):Int:=(ms.getD i []).getD k 0
def zAD(i k:Nat)(c:Int):Prop:=(i=k→c=0)∧(i≠k→1≤c∧c≤200)
def zAr(ms:List (List Int))(n i:Nat):Prop:=(ms.getD i []).length=n∧∀k,k<n→zAD i k (mm ms i k)
def zC7(ms:List (List Int))(n i:Nat):Prop:=∀k,k<n→mm ms k i=mm ms i k
structure TabP (ms:List (List Int)) (n:Nat):Prop where
 len:ms.length=n
 row:∀i,i<n→zAr ms n i
 sym:∀i,i<n→zC7 ms n i
noncomputable def zdU(es:List V)(n:Int):Bool:= @decide (TabP (Ka es) n.toNat) (Classical.propDecidable _)
def znu(es:List V)(n:Int):Prop:=zEd false es∧0≤n∧n≤2147483647
theorem zz9{p:Prop}(h:p): @decide p (Classical.propDecidable _)=true:= @decide_eq_true p (Classical.propDecidable _) h
theorem zj7{p:Prop}(h:¬p): @decide p (Classical.propDecidable _)=false:= @decide_eq_false p (Classical.propDecidable _) h
def ztq(f:List V→Int→Bool)(q:List V→Int→Prop):zQ:=fun
 |[.slc false 44 (.slc false 2 (.int .i64 0) []) a0,.int .i64 a1]=>some ([q a0 a1],.bool (f a0 a1))
 |_=>none
theorem zoI:yZ Tryz.prog 33 (ztq zdU znu):=by
 intro args ps r h hp
 unfold ztq at h
 split at h
 ·rename_i a0 a1
  simp only[za,zb]at h
  obtain⟨rfl,rfl⟩:=h
  obtain⟨⟨ms,hms⟩,n0,n1⟩:znu a0 a1:=(zo.1 hp).1
  obtain⟨n,hn⟩:∃n:Nat,(n:Int)=a1:=⟨a1.toNat,by omega⟩
  have hn':a1.toNat=n:=by omega
  have hml:a0.length=ms.length:=by rw[hms,yz]
  have gm:∀k,a0.getD k (.slc false 2 (.int .i64 0) [])=.slc false 2 (.int .i64 0) (I (ms.getD k [])):=fun k=>by rw[hms,jf]
  have hT:TabP ms n→zdU a0 a1=true:=fun h=>by rw[zdU,hms,qC,hn'];exact zz9 h
  have hF:¬TabP ms n→zdU a0 a1=false:=fun h=>by rw[zdU,hms,qC,hn'];exact zj7 h
  generalize yO:yE=jP
  refine zO (T:=tab) (B:=[(56,jI jP)]) (Bi:=[]) [0,1,4,5,6,7,8,9,10,11,12,17,18,19,28,29,30,54,55,56,61,62,63] Tryz.func33 rfl rfl (by kernel_rfl) (zh rfl) mixed yd (by subst yO;exact(zt zcS zH)) (by subst yO;exact zE) (by kernel_rfl) ?_
  intro L lp rr hL hr hf hlp
  have hle:=hf.1.1
  conv=>cbv
  simp only[zr hL,sQ,hml]
  refine⟨fun h=>?_,fun h=>?_⟩
  ·rw[hr,hF]
   intro ht
   have:=ht.len
   omega
  have hmn:ms.length=n:=by omega
  refine hlp (Int) _ _ _ [0,1,17,18,19] (fun x=>[(0,none,.val (.slc false 44 (.slc false 2 (.int .i64 0) []) a0)),(1,none,.val (.int .i64 a1)),(17,none,.val (.slc false 44 (.slc false 2 (.int .i64 0) []) a0)),(18,none,.val (.int .i64 a1)),(19,none,.val (.int .i64 x))])
   (fun x=>0≤x∧x≤a1∧∀t:Nat,t<x.toNat→zAr ms n t) (fun x=>(a1-x).toNat) (0) (by subst hL;rw[h];rfl) ?_ ?_
  ·exact⟨by omega,by omega,fun t ht=>by simp at ht⟩
  rintro i ⟨i0,i1,hI⟩ hfx ag hag
  conv=>cbv
  simp only[zr hL,sQ,hml,gm]
  refine⟨fun h2=>?_,fun h2=>?_⟩
  ·obtain⟨r,hR⟩:∃r,r=ms.getD i.toNat []:=⟨_,rfl⟩
   rw[←hR]
   refine⟨i0,by omega,fun h3=>?_,fun h3=>?_⟩
   ·rw[hr,hF]
    intro ht
    have:=(ht.row i.toNat (by omega)).1
    rw[←hR]at this
    omega
   have hrl:r.length=n:=by omega
   obtain⟨vr,hvr⟩:∃vr,vr=I r:=⟨_,rfl⟩
   have vrl:vr.length=n:=by rw[hvr,zm,hrl]
   have gr:∀t,vr.getD t (.int .i64 0)=.int .i64 (r.getD t 0):=fun t=>by rw[hvr,zT]
   rw[←hvr]
   refine hlp (Int) _ _ _ [0,1,5,17,18,19,28,29,30] (fun x=>[(0,none,.val (.slc false 44 (.slc false 2 (.int .i64 0) []) a0)),(1,none,.val (.int .i64 a1)),(5,none,.val (.int .i64 i)),(17,none,.val (.slc false 44 (.slc false 2 (.int .i64 0) []) a0)),(18,none,.val (.int .i64 a1)),(19,none,.val (.int .i64 i)),(28,none,.val (.slc false 2 (.int .i64 0) vr)),(29,none,.val (.int .i64 a1)),(30,none,.val (.int .i64 x))])
    (fun x=>0≤x∧x≤a1∧∀t:Nat,t<x.toNat→zAD i.toNat t (r.getD t 0)) (fun x=>(a1-x).toNat) (0) (by subst hL;rw[hrl,hn];rfl) ?_ ?_
   ·exact⟨by omega,by omega,fun t ht=>by simp at ht⟩
   rintro k ⟨k0,k1,hK⟩ hfx2 ag2 hag2
   conv=>cbv
   subst yO
   simp only[zr hL,sQ,vrl,gr]
   refine⟨fun h4=>⟨k0,by omega,fun h5 h6=>⟨h5,h6⟩,fun h5=>?_,fun h5=>?_⟩,fun h4=>?_⟩
   ·rw[hr,hF]
    intro ht
    have hE:=(ht.row i.toNat (by omega)).2 k.toNat (by omega)
    rw[mm,←hR]at hE
    rcases h5 with⟨h5,h6⟩|⟨h5,h6⟩
    ·exact h6 (hE.1 (by omega))
    ·have:=hE.2 (by omega)
     simp only[yE,ky,decide_eq_false_iff_not]at h6
     omega
   ·rw[zl (n:=k+1) (by omega) (by omega)]
    refine hag2 (k+1) ⟨by omega,by omega,fun t ht=>?_⟩ (by omega)
    by_cases htk:t=k.toNat
    ·rw[htk]
     refine⟨fun e=>h5.1.resolve_left (fun hne=>hne (by omega)),fun e=>?_⟩
     have:=h5.2.resolve_left (fun h=>e (by omega))
     simpa [yE]using this
    ·exact hK t (by omega)
   ·rw[zl (n:=i+1) (by omega) (by omega)]
    refine hag (i+1) ⟨by omega,by omega,fun t ht=>?_⟩ (by omega)
    by_cases hti:t=i.toNat
    ·rw[hti]
     refine⟨by rw[←hR];exact hrl,fun k' hk'=>?_⟩
     rw[mm,←hR]
     exact hK k' (by omega)
    ·exact hI t (by omega)
  ·have hrow:∀t,t<n→zAr ms n t:=fun t ht=>hI t (by omega)
   refine hlp (Int) _ _ _ [0,54,55,56] (fun x=>[(0,none,.val (.slc false 44 (.slc false 2 (.int .i64 0) []) a0)),(54,none,.val (.slc false 44 (.slc false 2 (.int .i64 0) []) a0)),(55,none,.val (.int .i64 a1)),(56,none,.val (.int .i64 x))])
    (fun x=>0≤x∧x≤a1∧∀t:Nat,t<x.toNat→zC7 ms n t) (fun x=>(a1-x).toNat) (0) (by subst hL;rw[h];rfl) ?_ ?_
   ·exact⟨by omega,by omega,fun t ht=>by simp at ht⟩
   rintro i ⟨i0,i1,hI⟩ hfx ag hag
   conv=>cbv
   simp only[zr hL,sQ,hml,gm]
   refine⟨fun h2=>?_,fun h2=>?_⟩
   ·obtain⟨r,hR⟩:∃r,r=ms.getD i.toNat []:=⟨_,rfl⟩
    have hrl:r.length=n:=by rw[hR];exact(hrow i.toNat (by omega)).1
    rw[←hR]
    obtain⟨vr,hvr⟩:∃vr,vr=I r:=⟨_,rfl⟩
    have vrl:vr.length=n:=by rw[hvr,zm,hrl]
    have gr:∀t,vr.getD t (.int .i64 0)=.int .i64 (r.getD t 0):=fun t=>by rw[hvr,zT]
    rw[←hvr]
    refine⟨i0,by omega,?_⟩
    refine hlp (Int) _ _ _ [0,9,54,55,56,61,62,63] (fun x=>[(0,none,.val (.slc false 44 (.slc false 2 (.int .i64 0) []) a0)),(9,none,.val (.int .i64 i)),(54,none,.val (.slc false 44 (.slc false 2 (.int .i64 0) []) a0)),(55,none,.val (.int .i64 a1)),(56,none,.val (.int .i64 i)),(61,none,.val (.slc false 2 (.int .i64 0) vr)),(62,none,.val (.int .i64 a1)),(63,none,.val (.int .i64 x))])
     (fun x=>0≤x∧x≤a1∧∀t:Nat,t<x.toNat→mm ms t i.toNat=r.getD t 0) (fun x=>(a1-x).toNat) (0) (by subst hL;rw[hrl,hn];rfl) ?_ ?_
    ·exact⟨by omega,by omega,fun t ht=>by simp at ht⟩
    rintro k ⟨k0,k1,hK⟩ hfx2 ag2 hag2
    conv=>cbv
    simp only[zr hL,sQ,vrl,gr,hml,gm]
    refine⟨fun h4=>?_,fun h4=>?_⟩
    ·have hkl:(ms.getD k.toNat []).length=n:=(hrow k.toNat (by omega)).1
     refine⟨k0,by omega,k0,by omega,i0,by omega,fun h5=>?_,fun h5=>?_⟩
     ·rw[hr,hF]
      intro ht
      have:=ht.sym i.toNat (by omega) k.toNat (by omega)
      rw[mm,mm,←hR]at this
      exact h5 this
     ·rw[zl (n:=k+1) (by omega) (by omega)]
      refine hag2 (k+1) ⟨by omega,by omega,fun t ht=>?_⟩ (by omega)
      by_cases htk:t=k.toNat
      ·rw[htk];exact h5
      ·exact hK t (by omega)
    ·rw[zl (n:=i+1) (by omega) (by omega)]
     refine hag (i+1) ⟨by omega,by omega,fun t ht=>?_⟩ (by omega)
     by_cases hti:t=i.toNat
     ·rw[hti]
      intro k' hk'
      have:=hK k' (by omega)
      rw[this,hR]
      rfl
     ·exact hI t (by omega)
   ·rw[hr,hT]
    exact⟨hmn,hrow,fun t ht=>hI t (by omega)⟩
 ·cases h
structure CvP (bs ms:List (List Int)):Prop where
 n1:1≤bs.length
 n6:bs.length≤6
 tab:TabP ms bs.length
 br:∀i,i<bs.length→qK (bs.getD i [])=true
 shr:∀i k,i<bs.length→k<bs.length→i≠k→shr (bs.getD i []) (bs.getD k []) (mm ms i k).toNat=true
 ult:∀i k j,i<bs.length→k<bs.length→j<bs.length→i≠k→j≠i→j≠k→¬mm ms i k<min (mm ms i j) (mm ms j k)
noncomputable def zc5(bs ms:List (List Int)):Bool:= @decide (CvP bs ms) (Classical.propDecidable _)
theorem Jb{bs ms:List (List Int)}:zc5 bs ms=true↔CvP bs ms:=by
 rw[zc5]
 exact@decide_eq_true_iff _ (Classical.propDecidable _)
noncomputable def ud(a b:List V):Bool:=zc5 (zcO a) (Ka b)
def q_C(a b:List V):Prop:=zDG a∧zDF b
def zDc(bs ms:List (List Int))(i k:Nat):Prop:=i≠k→shr (bs.getD i []) (bs.getD k []) (mm ms i k).toNat=true∧∀j,j<bs.length→j≠i→j≠k→¬mm ms i k<min (mm ms i j) (mm ms j k)
def ztj(bs:List (List Int))(n:Nat):List (List Int):=qu (fun i=>kN (bs.getD i []) 201) n
def zgz(f:List V→List V→Bool)(q:List V→List V→Prop):zQ:=fun
 |[.agg [.slc false 46 (.agg [.slc false 2 (.int .i64 0) []]) a0,.slc false 44 (.slc false 2 (.int .i64 0) []) a1]]=>some ([q a0 a1],.bool (f a0 a1))
 |_=>none
theorem zhr:yZ Tryz.prog 14 (zgz ud q_C):=by
 intro args ps r h hp
 unfold zgz at h
 split at h
 ·rename_i a0 a1
  simp only[za,zb]at h
  obtain⟨rfl,rfl⟩:=h
  obtain⟨⟨bs,hbs,hb1,hb2⟩,⟨ms,hms,hm1,hm2⟩⟩:q_C a0 a1:=(zo.1 hp).1
  have g1:V.frzs a0=a0:=by rw[hbs,jh]
  have g2:V.frzs a1=a1:=by rw[hms,jg]
  have hbl:a0.length=bs.length:=by rw[hbs,YL]
  have hml:a1.length=ms.length:=by rw[hms,yz]
  have gb:∀k,a0.getD k (.agg [.slc false 2 (.int .i64 0) []])=.agg [.slc false 2 (.int .i64 0) (I (bs.getD k []))]:=fun k=>by rw[hbs,zdw]
  have gm:∀k,a1.getD k (.slc false 2 (.int .i64 0) [])=.slc false 2 (.int .i64 0) (I (ms.getD k [])):=fun k=>by rw[hms,jf]
  obtain⟨n,hn⟩:∃n:Int,n=bs.length:=⟨_,rfl⟩
  have hT:CvP bs ms→ud a0 a1=true:=fun h=>by rw[ud,hbs,hms,ka,qC,Jb];exact h
  have hF:¬CvP bs ms→ud a0 a1=false:=fun h=>by rw[ud,hbs,hms,ka,qC];exact zj7 h
  have qt:znu a1 n:=⟨⟨ms,hms⟩,by omega,by omega⟩
  have et:zdU a1 n=true↔TabP ms bs.length:=by
   rw[zdU,hms,qC,show n.toNat=bs.length by omega]
   exact@decide_eq_true_iff _ (Classical.propDecidable _)
  generalize zmW:zdU=zt7
  generalize zmQ:znu=zt1
  generalize qG:kP=jv
  generalize qj:uU=km
  generalize zpL:zro=zvY
  generalize uh:Qt=JY
  generalize zm0:zj2=zua
  generalize zmT:znw=zt4
  generalize zpW:zn1=zv4
  generalize zpz:zwH=zvS
  refine zO (T:=tab) (B:=[(33,ztq zt7 zt1),(34,YP jv km),(36,ztE zvY JY),(35,zlb zua zt4),(37,zph zv4 zvS)]) (Bi:=[]) [0,1,2,3,4,6,7,8,9,28,29,30,44,45,48,49,73,74] Tryz.func14 rfl rfl (by kernel_rfl) (zh rfl) mixed yd (by subst zmW zmQ qG qj zpL uh zm0 zmT zpW zpz;exact(zt zoI (zt zge (zt zjl (zt zq3 (zt znq zH)))))) (by subst zmW zmQ qG qj zpL uh zm0 zmT zpW zpz;exact zE) (by kernel_rfl) ?_
  intro L lp rr hL hr hf hlp
  have hbI:∀i:Nat,i<bs.length→km (I (bs.getD i [])):=fun i hi=>by
   rw[←qj]
   exact⟨⟨_,rfl⟩,by rw[zm];exact hb2 _ (zcY hi)⟩
  conv=>cbv
  have Q1:zt1 a1 n:=by rw[←zmQ];exact qt
  have E1:zt7 a1 n=true↔TabP ms bs.length:=by rw[←zmW];exact et
  simp only[zr hL,sQ,g1,g2,hbl,←hn]
  refine⟨fun _=>Q1,fun h=>?_,fun h=>?_⟩
  ·rw[hr,hF]
   intro hc
   have h1:=hc.n1
   have h6:=hc.n6
   rcases h with(h|h)|h
   ·omega
   ·omega
   ·rw[E1.2 hc.tab]at h;cases h
  obtain⟨⟨n1,n6⟩,h3⟩:=h
  have htab:=E1.1 h3
  have hmn:=htab.len
  refine hlp (List V×Int) _ _ _ [1,3,4,28,29,30] (fun x=>[(1,none,.val (.box 27 (.agg [.slc false 46 (.agg [.slc false 2 (.int .i64 0) []]) a0,.slc false 44 (.slc false 2 (.int .i64 0) []) a1]))),(3,none,.val (.int .i64 n)),(4,none,.val (.slc true 44 (.slc true 2 (.int .i64 0) []) x.1)),(28,none,.val (.slc false 46 (.agg [.slc false 2 (.int .i64 0) []]) a0)),(29,none,.val (.int .i64 n)),(30,none,.val (.int .i64 x.2))])
   (fun x=>0≤x.2∧x.2≤n∧x.1=II true (ztj bs x.2.toNat)∧∀t:Nat,t<x.2.toNat→qK (bs.getD t [])=true) (fun x=>(n-x.2).toNat) (([],0)) (by subst hL;rfl) ?_ ?_
  ·exact⟨by simp,by simp only;omega,rfl,fun t ht=>by simp at ht⟩
  rintro⟨es,i⟩ ⟨i0,i1,hI,hB⟩ hfx ag hag
  simp only at i0 i1 hI hB
  conv=>cbv
  simp only[zr hL,sQ,hbl,gb,zcV,zcP,zc9]
  refine⟨fun h2=>?_,fun h2=>?_⟩
  ·have hil:i.toNat<bs.length:=by omega
   have eb:jv (I (bs.getD i.toNat []))=qK (bs.getD i.toNat []):=by rw[←qG,kP,zB]
   rw[eb]
   refine⟨i0,by omega,hbI _ hil,fun h4=>?_,fun h4=>?_⟩
   ·rw[hr,hF]
    intro hc
    rw[hc.br _ hil]at h4;cases h4
   ·have hbr:=Kl h4
    have qp:JY (I (bs.getD i.toNat [])) 201:=by rw[←uh];exact⟨⟨_,rfl,hbr⟩,by omega,by omega⟩
    have ep:V.frzs (zvY (I (bs.getD i.toNat [])) 201)=II false (zex (uY (bs.getD i.toNat []) 201)):=by rw[←zpL,zro,zB,jg];rfl
    have qc:zt4 (II false (zex (uY (bs.getD i.toNat []) 201))):=by rw[←zmT];exact zuo _ (by omega) (by omega)
    have ec:zua (II false (zex (uY (bs.getD i.toNat []) 201)))=I (kN (bs.getD i.toNat []) 201):=by rw[←zm0,zj2,qC,zxc hbr]
    simp only[ep,ec]
    have hes:es.length=i.toNat:=by rw[hI,yz,ztj,yA]
    rw[zl (n:=i+1) (by omega) (by omega)]
    refine⟨qp,qc,zhT _,by simp only[zi,zq];omega,Yf rfl,hag (_,i+1) ⟨by simp only;omega,by simp only;omega,?_,fun t ht=>?_⟩ (by simp only;omega)⟩
    ·simp only[yj i0]
     rw[ztj,zbs,YK,hI]
     rfl
    ·simp only[yj i0]at ht
     by_cases hti:t=i.toNat
     ·rw[hti];exact h4
     ·exact hB t (by omega)
  ·have hbr:∀t,t<bs.length→qK (bs.getD t [])=true:=fun t ht=>hB t (by omega)
   have ht2:i.toNat=bs.length:=by omega
   rw[ht2]at hI
   have hel:es.length=bs.length:=by rw[hI,yz,ztj,yA]
   have ge:∀k,k<bs.length→es.getD k (.slc true 2 (.int .i64 0) [])=.slc true 2 (.int .i64 0) (I (kN (bs.getD k []) 201)):=fun k hk=>by rw[hI,jf,ztj,uA _ _ _ _ hk]
   have ecs:∀x y c,zv4 (I (kN x 201)) (I (kN y 201)) c=shr x y c.toNat:=fun x y c=>by rw[←zpW,zn1,zB,zB,shr]
   have qcs:∀x y c,1≤c→c≤200→zvS (I (kN x 201)) (I (kN y 201)) c:=fun x y c h1 h2=>by rw[←zpz];exact⟨⟨_,rfl⟩,⟨_,rfl⟩,h1,by rw[zm,zgx];omega,by rw[zm,zgx];omega⟩
   have rl:∀k,k<bs.length→(ms.getD k []).length=bs.length:=fun k hk=>(htab.row k hk).1
   have ent:∀i k,i<bs.length→k<bs.length→i≠k→1≤mm ms i k∧mm ms i k≤200:=fun i k hi hk hne=>((htab.row i hi).2 k hk).2 hne
   refine hlp (Int) _ _ _ [1,3,4,44,45] (fun x=>[(1,none,.val (.box 27 (.agg [.slc false 46 (.agg [.slc false 2 (.int .i64 0) []]) a0,.slc false 44 (.slc false 2 (.int .i64 0) []) a1]))),(3,none,.val (.int .i64 n)),(4,none,.val (.slc true 44 (.slc true 2 (.int .i64 0) []) es)),(44,none,.val (.int .i64 n)),(45,none,.val (.int .i64 x))])
    (fun x=>0≤x∧x≤n∧∀t:Nat,t<x.toNat→∀k,k<bs.length→zDc bs ms t k) (fun x=>(n-x).toNat) (0) (by subst hL;rfl) ?_ ?_
   ·exact⟨by omega,by omega,fun t ht=>by simp at ht⟩
   rintro i ⟨i0,i1,hP⟩ hfx ag hag
   conv=>cbv
   simp only[zr hL,sQ,]
   refine⟨fun h2=>?_,fun h2=>?_⟩
   ·refine hlp (Int) _ _ _ [1,3,4,7,44,45,48,49] (fun x=>[(1,none,.val (.box 27 (.agg [.slc false 46 (.agg [.slc false 2 (.int .i64 0) []]) a0,.slc false 44 (.slc false 2 (.int .i64 0) []) a1]))),(3,none,.val (.int .i64 n)),(4,none,.val (.slc true 44 (.slc true 2 (.int .i64 0) []) es)),(7,none,.val (.int .i64 i)),(44,none,.val (.int .i64 n)),(45,none,.val (.int .i64 i)),(48,none,.val (.int .i64 n)),(49,none,.val (.int .i64 x))])
     (fun x=>0≤x∧x≤n∧∀t:Nat,t<x.toNat→zDc bs ms i.toNat t) (fun x=>(n-x).toNat) (0) (by subst hL;rfl) ?_ ?_
    ·exact⟨by omega,by omega,fun t ht=>by simp at ht⟩
    rintro k ⟨k0,k1,hQ⟩ hfx2 ag2 hag2
    conv=>cbv
    simp only[zr hL,sQ,hml,hel,gm]
    refine⟨fun h3=>?_,fun h3=>?_⟩
    ·have hil:i.toNat<bs.length:=by omega
     have hkl:k.toNat<bs.length:=by omega
     have rli:=rl _ hil
     have gei:=ge _ hil
     have gek:=ge _ hkl
     simp only[gei,gek,zr hL,sQ,ecs]
     have hmm:(ms.getD i.toNat []).getD k.toNat 0=mm ms i.toNat k.toNat:=rfl
     refine⟨fun h4=>?_,fun h4=>?_⟩
     ·rw[zl (n:=k+1) (by omega) (by omega)]
      refine hag2 (k+1) ⟨by omega,by omega,fun t ht=>?_⟩ (by omega)
      by_cases htk:t=k.toNat
      ·intro hne;exact absurd (by omega) hne
      ·exact hQ t (by omega)
     have hne:i.toNat≠k.toNat:=by omega
     have hen:=ent _ _ hil hkl hne
     obtain⟨c,hc⟩:∃c,c=mm ms i.toNat k.toNat:=⟨_,rfl⟩
     rw[hmm,←hc]
     rw[←hc]at hen
     have qi:=qcs (bs.getD i.toNat []) (bs.getD k.toNat []) c hen.1 hen.2
     refine⟨i0,by omega,hil,k0,by omega,hkl,i0,by omega,k0,by omega,hil,hkl,qi,fun h5=>?_,fun h5=>?_⟩
     ·rw[hr,hF]
      intro hv
      have:=hv.shr _ _ hil hkl hne
      rw[←hc,h5]at this
      cases this
     refine hlp (Int) _ _ _ [1,3,4,7,8,44,45,48,49,73,74] (fun x=>[(1,none,.val (.box 27 (.agg [.slc false 46 (.agg [.slc false 2 (.int .i64 0) []]) a0,.slc false 44 (.slc false 2 (.int .i64 0) []) a1]))),(3,none,.val (.int .i64 n)),(4,none,.val (.slc true 44 (.slc true 2 (.int .i64 0) []) es)),(7,none,.val (.int .i64 i)),(8,none,.val (.int .i64 k)),(44,none,.val (.int .i64 n)),(45,none,.val (.int .i64 i)),(48,none,.val (.int .i64 n)),(49,none,.val (.int .i64 k)),(73,none,.val (.int .i64 n)),(74,none,.val (.int .i64 x))])
      (fun x=>0≤x∧x≤n∧∀j:Nat,j<x.toNat→j≠i.toNat→j≠k.toNat→¬mm ms i.toNat k.toNat<min (mm ms i.toNat j) (mm ms j k.toNat)) (fun x=>(n-x).toNat) (0) (by subst hL;rfl) ?_ ?_
     ·exact⟨by omega,by omega,fun t ht=>by simp at ht⟩
     rintro j ⟨j0,j1,hJ⟩ hfx3 ag3 hag3
     conv=>cbv
     simp only[zr hL,sQ,hml,gm]
     have hm1:∀x y:Nat,(ms.getD x []).getD y 0=mm ms x y:=fun _ _=>rfl
     simp only[hm1]
     refine⟨fun h6=>?_,fun h6=>?_⟩
     ·have hjl:j.toNat<bs.length:=by omega
      have rlj:=rl _ hjl
      simp only[rli,rlj]
      refine⟨fun _=>by first|trivial|omega,fun _=>by first|trivial|omega,fun _=>by first|trivial|omega,fun _=>by first|trivial|omega,fun _=>by first|trivial|omega,fun _=>by first|trivial|omega,fun _=>by first|trivial|omega,fun _=>by first|trivial|omega,fun _=>by first|trivial|omega,fun _=>by first|trivial|omega,fun _=>by first|trivial|omega,fun _=>by first|trivial|omega,fun _=>by first|trivial|omega,fun _=>by first|trivial|omega,fun _=>by first|trivial|omega,fun _=>by first|trivial|omega,fun _=>by first|trivial|omega,fun _=>by first|trivial|omega,fun h7=>?_,fun h7=>?_⟩
      ·rw[hr,hF]
       intro hv
       exact hv.ult _ _ _ hil hkl hjl hne (by omega) (by omega) h7.2
      ·rw[zl (n:=j+1) (by omega) (by omega)]
       refine hag3 (j+1) ⟨by omega,by omega,fun t ht e1 e2=>?_⟩ (by omega)
       by_cases htj:t=j.toNat
       ·rw[htj]
        exact h7.resolve_left (by omega)
       ·exact hJ t (by omega) e1 e2
     ·rw[zl (n:=k+1) (by omega) (by omega)]
      refine hag2 (k+1) ⟨by omega,by omega,fun t ht=>?_⟩ (by omega)
      by_cases htk:t=k.toNat
      ·rw[htk]
       intro _
       refine⟨by rw[←hc];exact h5,fun j' hj' e1 e2=>hJ j' (by omega) e1 e2⟩
      ·exact hQ t (by omega)
    ·rw[zl (n:=i+1) (by omega) (by omega)]
     refine hag (i+1) ⟨by omega,by omega,fun t ht k' hk'=>?_⟩ (by omega)
     by_cases hti:t=i.toNat
     ·rw[hti];exact hQ k' (by omega)
     ·exact hP t (by omega) k' hk'
   ·rw[hr,hT]
    refine⟨by omega,by omega,htab,hbr,fun t k ht hk hne=>(hP t (by omega) k hk hne).1,fun t k j ht hk hj hne h1 h2=>(hP t (by omega) k hk hne).2 j hj h1 h2⟩
 ·cases h
end Go.Ax
namespace Go.Ax
open Go.Proofs
def zqa(bs ms:List (List Int))(i k:Nat):Prop:=zAD i k (mm ms i k)∧(i≠k→mm ms i k=mm ms k i)∧(i<k→shr (bs.getD i []) (bs.getD k []) (mm ms i k).toNat=true)
def zAp(bs ms:List (List Int))(i k:Nat):Prop:=∀j,j<bs.length→i≠k→i≠j→j≠k→¬mm ms i k<min (mm ms i j) (mm ms j k)
theorem CvP.of{bs ms:List (List Int)}(h1:1≤bs.length)(h6:bs.length≤6)(hl:ms.length=bs.length)(hA:∀t,t<bs.length→qK (bs.getD t [])=true∧(ms.getD t []).length=bs.length)
 (hB:∀t,t<bs.length→∀k,k<bs.length→zqa bs ms t k) (hC:∀t,t<bs.length→∀k,k<bs.length→zAp bs ms t k):CvP bs ms:=by
 refine⟨h1,h6,⟨hl,fun i hi=>⟨(hA i hi).2,fun k hk=>(hB i hi k hk).1⟩,fun i hi k hk=>?_⟩,fun i hi=>(hA i hi).1,fun i k hi hk hne=>?_,fun i k j hi hk hj hne h1 h2=>hC i hi k hk j hj hne (Ne.symm h1) h2⟩
 ·by_cases h:i=k
  ·rw[h]
  ·exact((hB i hi k hk).2.1 h).symm
 ·by_cases h:i<k
  ·exact(hB i hi k hk).2.2 h
  ·have:=(hB k hk i hi).2.2 (by omega)
   rw[zzl,(hB i hi k hk).2.1 hne]
   exact this
theorem zjv:yZ Tryz.prog 16 (zgz ud q_C):=by
 intro args ps r h hp
 unfold zgz at h
 split at h
 ·rename_i a0 a1
  simp only[za,zb]at h
  obtain⟨rfl,rfl⟩:=h
  obtain⟨⟨bs,hbs,hb1,hb2⟩,⟨ms,hms,hm1,hm2⟩⟩:q_C a0 a1:=(zo.1 hp).1
  have g1:V.frzs a0=a0:=by rw[hbs,jh]
  have g2:V.frzs a1=a1:=by rw[hms,jg]
  have hbl:a0.length=bs.length:=by rw[hbs,YL]
  have hml:a1.length=ms.length:=by rw[hms,yz]
  have gb:∀k,a0.getD k (.agg [.slc false 2 (.int .i64 0) []])=.agg [.slc false 2 (.int .i64 0) (I (bs.getD k []))]:=fun k=>by rw[hbs,zdw]
  have gm:∀k,a1.getD k (.slc false 2 (.int .i64 0) [])=.slc false 2 (.int .i64 0) (I (ms.getD k [])):=fun k=>by rw[hms,jf]
  obtain⟨n,hn⟩:∃n:Int,n=bs.length:=⟨_,rfl⟩
  have hT:CvP bs ms→ud a0 a1=true:=fun h=>by rw[ud,hbs,hms,ka,qC,Jb];exact h
  have hF:¬CvP bs ms→ud a0 a1=false:=fun h=>by rw[ud,hbs,hms,ka,qC];exact zj7 h
  have hm1:∀x y:Nat,(ms.getD x []).getD y 0=mm ms x y:=fun _ _=>rfl
  generalize qG:kP=jv
  generalize qj:uU=km
  generalize yO:yE=jP
  generalize zpG:znY=zvU
  generalize zps:zwy=zvP
  refine zO (T:=tab) (B:=[(42,YP jv km),(43,jI jP),(44,zpm zvU zvP)]) (Bi:=[]) [0,1,2,3,4,5,6,7,8,9,10] Tryz.func16 rfl rfl (by kernel_rfl) (zh rfl) mixed yd (by subst qG qj yO zpG zps;exact(zt KM (zt JD (zt zoA zH)))) (by subst qG qj yO zpG zps;exact zE) (by kernel_rfl) ?_
  intro L lp rr hL hr hf hlp
  have hbI:∀i:Nat,i<bs.length→km (I (bs.getD i [])):=fun i hi=>by
   rw[←qj]
   exact⟨⟨_,rfl⟩,by rw[zm];exact hb2 _ (zcY hi)⟩
  have eb:∀i:Nat,jv (I (bs.getD i []))=qK (bs.getD i []):=fun i=>by rw[←qG,kP,zB]
  conv=>cbv
  simp only[zr hL,sQ,g1,g2,hbl,hml,←hn]
  refine⟨fun h=>?_,fun h=>?_⟩
  ·rw[hr,hF]
   intro hc
   have h1:=hc.n1
   have h6:=hc.n6
   have hl:=hc.tab.len
   omega
  have hmn:ms.length=bs.length:=by omega
  refine hlp (Int) _ _ _ [1,3,4] (fun x=>[(1,none,.val (.box 27 (.agg [.slc false 46 (.agg [.slc false 2 (.int .i64 0) []]) a0,.slc false 44 (.slc false 2 (.int .i64 0) []) a1]))),(3,none,.val (.int .i64 n)),(4,none,.val (.int .i64 x))])
   (fun x=>0≤x∧x≤n∧∀t:Nat,t<x.toNat→qK (bs.getD t [])=true∧(ms.getD t []).length=bs.length) (fun x=>(n-x).toNat) (0) (by subst hL;rfl) ?_ ?_
  ·exact⟨by omega,by omega,fun t ht=>by simp at ht⟩
  rintro i ⟨i0,i1,hA⟩ hfx ag hag
  conv=>cbv
  simp only[zr hL,sQ,hbl,gb,zcV,zcP,zc9,eb,hml,gm]
  refine⟨fun h2=>?_,fun h2=>?_⟩
  ·have hil:i.toNat<bs.length:=by omega
   refine⟨i0,by omega,hbI _ hil,fun _=>i0,fun _=>by omega,fun _=>trivial,fun h3=>?_,fun h3=>?_⟩
   ·rw[hr,hF]
    intro hc
    rcases h3 with h3|h3
    ·rw[hc.br _ hil]at h3;cases h3
    ·exact h3 (by rw[(hc.tab.row _ hil).1];omega)
   ·rw[zl (n:=i+1) (by omega) (by omega)]
    refine hag (i+1) ⟨by omega,by omega,fun t ht=>?_⟩ (by omega)
    by_cases hti:t=i.toNat
    ·rw[hti];exact⟨h3.1,by omega⟩
    ·exact hA t (by omega)
  have hA2:∀t,t<bs.length→qK (bs.getD t [])=true∧(ms.getD t []).length=bs.length:=fun t ht=>hA t (by omega)
  have rl:∀k,k<bs.length→(ms.getD k []).length=bs.length:=fun k hk=>(hA2 k hk).2
  have qsh:∀x y c,x<bs.length→y<bs.length→1≤c→c≤200→zvP (I (bs.getD x [])) (I (bs.getD y [])) c:=fun x y c hx hy h1 h2=>by
   rw[←zps];exact⟨⟨_,rfl,Kl (hA2 x hx).1⟩,⟨_,rfl,Kl (hA2 y hy).1⟩,h1,h2⟩
  have esh:∀x y c,zvU (I (bs.getD x [])) (I (bs.getD y [])) c=shr (bs.getD x []) (bs.getD y []) c.toNat:=fun x y c=>by rw[←zpG,znY,zB,zB]
  clear hA hag hfx ag
  refine hlp (Int) _ _ _ [1,3,5] (fun x=>[(1,none,.val (.box 27 (.agg [.slc false 46 (.agg [.slc false 2 (.int .i64 0) []]) a0,.slc false 44 (.slc false 2 (.int .i64 0) []) a1]))),(3,none,.val (.int .i64 n)),(5,none,.val (.int .i64 x))])
   (fun x=>0≤x∧x≤n∧∀t:Nat,t<x.toNat→∀k,k<bs.length→zqa bs ms t k) (fun x=>(n-x).toNat) (0) (by subst hL;rfl) ?_ ?_
  ·exact⟨by omega,by omega,fun t ht=>by simp at ht⟩
  rintro i ⟨i0,i1,hP⟩ hfx ag hag
  conv=>cbv
  simp only[zr hL,sQ,]
  refine⟨fun h2=>?_,fun h2=>?_⟩
  ·have hil:i.toNat<bs.length:=by omega
   have rli:=rl _ hil
   refine hlp (Int) _ _ _ [1,3,5,6] (fun x=>[(1,none,.val (.box 27 (.agg [.slc false 46 (.agg [.slc false 2 (.int .i64 0) []]) a0,.slc false 44 (.slc false 2 (.int .i64 0) []) a1]))),(3,none,.val (.int .i64 n)),(5,none,.val (.int .i64 i)),(6,none,.val (.int .i64 x))])
    (fun x=>0≤x∧x≤n∧∀t:Nat,t<x.toNat→zqa bs ms i.toNat t) (fun x=>(n-x).toNat) (0) (by subst hL;rfl) ?_ ?_
   ·exact⟨by omega,by omega,fun t ht=>by simp at ht⟩
   rintro k ⟨k0,k1,hQ⟩ hfx2 ag2 hag2
   conv=>cbv
   simp only[zr hL,sQ,hml,gm,hbl,gb,zcV,zcP,zc9,hm1,esh]
   refine⟨fun h3=>?_,fun h3=>?_⟩
   ·have hkl:k.toNat<bs.length:=by omega
    have rlk:=rl _ hkl
    have hgo:zqa bs ms i.toNat k.toNat→0≤k+1∧k+1≤n∧∀t:Nat,t<(k+1).toNat→zqa bs ms i.toNat t:=fun hb=>⟨by omega,by omega,fun t ht=>by
     by_cases htk:t=k.toNat
     ·rw[htk];exact hb
     ·exact hQ t (by omega)⟩
    obtain⟨c,hc⟩:∃c,c=mm ms i.toNat k.toNat:=⟨_,rfl⟩
    simp only[rli,rlk,←hc]
    subst yO
    rw[zl (n:=k+1) (by omega) (by omega)]
    refine⟨i0,by omega,k0,by omega,fun h4=>⟨fun h5=>?_,fun h5=>?_⟩,fun h4=>⟨fun _=>by first|trivial|omega,fun _=>by first|trivial|omega,fun _=>by first|trivial|omega,fun _=>by first|trivial|omega,fun _=>by first|trivial|omega,fun _=>by first|trivial|omega,fun h5=>?_,fun h5=>⟨fun _=>by first|trivial|omega,fun _=>by first|trivial|omega,fun _=>by first|trivial|omega,fun _=>by first|trivial|omega,fun _=>by first|trivial|omega,fun _=>by first|trivial|omega,fun h6=>?_,fun h6=>?_,fun h6=>?_⟩⟩⟩
    ·rw[hr,hF]
     intro hv
     exact h5 (by rw[hc];exact((hv.tab.row _ hil).2 _ hkl).1 (by omega))
    ·refine hag2 (k+1) (hgo ⟨⟨fun _=>by rw[←hc];exact h5,fun hne=>absurd (by omega) hne⟩,fun hne=>absurd (by omega) hne,fun hlt=>absurd hlt (by omega)⟩) (by omega)
    ·rw[hr,hF]
     intro hv
     have hE:=((hv.tab.row _ hil).2 _ hkl).2 (by omega)
     have hS:=hv.tab.sym _ hil _ hkl
     rw[←hc]at hE hS
     rcases h5 with h5|h5
     ·simp only[yE,ky,decide_eq_false_iff_not]at h5
      omega
     ·exact h5 hS.symm
    ·have hE:1≤c∧c≤200:=by simpa [yE]using h5.1
     exact qsh _ _ _ hil hkl hE.1 hE.2
    ·rw[hr,hF]
     intro hv
     have:=hv.shr _ _ hil hkl (by omega)
     rw[←hc,h6.2]at this
     cases this
    ·have hE:1≤c∧c≤200:=by simpa [yE]using h5.1
     refine hag2 (k+1) (hgo ⟨⟨fun he=>absurd (by omega) h4,fun _=>by rw[←hc];exact hE⟩,fun _=>by rw[←hc];exact h5.2,fun hlt=>?_⟩) (by omega)
     rw[←hc]
     exact h6.resolve_left (fun h=>h (by omega))
   ·rw[zl (n:=i+1) (by omega) (by omega)]
    refine hag (i+1) ⟨by omega,by omega,fun t ht k' hk'=>?_⟩ (by omega)
    by_cases hti:t=i.toNat
    ·rw[hti];exact hQ k' (by omega)
    ·exact hP t (by omega) k' hk'
  have hP2:∀t,t<bs.length→∀k,k<bs.length→zqa bs ms t k:=fun t ht=>hP t (by omega)
  clear hP hag hfx ag
  refine hlp (Int) _ _ _ [1,3,8] (fun x=>[(1,none,.val (.box 27 (.agg [.slc false 46 (.agg [.slc false 2 (.int .i64 0) []]) a0,.slc false 44 (.slc false 2 (.int .i64 0) []) a1]))),(3,none,.val (.int .i64 n)),(8,none,.val (.int .i64 x))])
   (fun x=>0≤x∧x≤n∧∀t:Nat,t<x.toNat→∀k,k<bs.length→zAp bs ms t k) (fun x=>(n-x).toNat) (0) (by subst hL;rfl) ?_ ?_
  ·exact⟨by omega,by omega,fun t ht=>by simp at ht⟩
  rintro i ⟨i0,i1,hP⟩ hfx ag hag
  conv=>cbv
  simp only[zr hL,sQ,]
  refine⟨fun h2=>?_,fun h2=>?_⟩
  ·have hil:i.toNat<bs.length:=by omega
   have rli:=rl _ hil
   refine hlp (Int) _ _ _ [1,3,8,9] (fun x=>[(1,none,.val (.box 27 (.agg [.slc false 46 (.agg [.slc false 2 (.int .i64 0) []]) a0,.slc false 44 (.slc false 2 (.int .i64 0) []) a1]))),(3,none,.val (.int .i64 n)),(8,none,.val (.int .i64 i)),(9,none,.val (.int .i64 x))])
    (fun x=>0≤x∧x≤n∧∀t:Nat,t<x.toNat→zAp bs ms i.toNat t) (fun x=>(n-x).toNat) (0) (by subst hL;rfl) ?_ ?_
   ·exact⟨by omega,by omega,fun t ht=>by simp at ht⟩
   rintro k ⟨k0,k1,hQ⟩ hfx2 ag2 hag2
   conv=>cbv
   simp only[zr hL,sQ,]
   refine⟨fun h3=>?_,fun h3=>?_⟩
   ·have hkl:k.toNat<bs.length:=by omega
    refine hlp (Int) _ _ _ [1,3,8,9,10] (fun x=>[(1,none,.val (.box 27 (.agg [.slc false 46 (.agg [.slc false 2 (.int .i64 0) []]) a0,.slc false 44 (.slc false 2 (.int .i64 0) []) a1]))),(3,none,.val (.int .i64 n)),(8,none,.val (.int .i64 i)),(9,none,.val (.int .i64 k)),(10,none,.val (.int .i64 x))])
     (fun x=>0≤x∧x≤n∧∀j:Nat,j<x.toNat→i.toNat≠k.toNat→i.toNat≠j→j≠k.toNat→¬mm ms i.toNat k.toNat<min (mm ms i.toNat j) (mm ms j k.toNat)) (fun x=>(n-x).toNat) (0) (by subst hL;rfl) ?_ ?_
    ·exact⟨by omega,by omega,fun t ht=>by simp at ht⟩
    rintro j ⟨j0,j1,hJ⟩ hfx3 ag3 hag3
    conv=>cbv
    simp only[zr hL,sQ,hml,gm,hm1]
    refine⟨fun h6=>?_,fun h6=>?_⟩
    ·have hjl:j.toNat<bs.length:=by omega
     have rlj:=rl _ hjl
     simp only[rli,rlj]
     refine⟨fun _=>by first|trivial|omega,fun _=>by first|trivial|omega,fun _=>by first|trivial|omega,fun _=>by first|trivial|omega,fun _=>by first|trivial|omega,fun _=>by first|trivial|omega,fun _=>by first|trivial|omega,fun _=>by first|trivial|omega,fun _=>by first|trivial|omega,fun _=>by first|trivial|omega,fun _=>by first|trivial|omega,fun _=>by first|trivial|omega,fun _=>by first|trivial|omega,fun _=>by first|trivial|omega,fun _=>by first|trivial|omega,fun _=>by first|trivial|omega,fun _=>by first|trivial|omega,fun _=>by first|trivial|omega,fun h7=>?_,fun h7=>?_⟩
     ·rw[hr,hF]
      intro hv
      exact hv.ult _ _ _ hil hkl hjl (by omega) (by omega) (by omega) h7.2
     ·rw[zl (n:=j+1) (by omega) (by omega)]
      refine hag3 (j+1) ⟨by omega,by omega,fun t ht e0 e1 e2=>?_⟩ (by omega)
      by_cases htj:t=j.toNat
      ·rw[htj]
       exact h7.resolve_left (by omega)
      ·exact hJ t (by omega) e0 e1 e2
    ·rw[zl (n:=k+1) (by omega) (by omega)]
     refine hag2 (k+1) ⟨by omega,by omega,fun t ht=>?_⟩ (by omega)
     by_cases htk:t=k.toNat
     ·rw[htk]
      exact fun j' hj'=>hJ j' (by omega)
     ·exact hQ t (by omega)
   ·rw[zl (n:=i+1) (by omega) (by omega)]
    refine hag (i+1) ⟨by omega,by omega,fun t ht k' hk'=>?_⟩ (by omega)
    by_cases hti:t=i.toNat
    ·rw[hti];exact hQ k' (by omega)
    ·exact hP t (by omega) k' hk'
  ·rw[hr,hT]
   exact CvP.of (by omega) (by omega) hmn hA2 hP2 (fun t ht=>hP t (by omega))
 ·cases h
end Go.Ax
namespace Go.Ax
open Go.Proofs
theorem TabP.range{ms:List (List Int)}{n:Nat}(h:TabP ms n){i k:Nat}(hi:i<n)(hk:k<n):0≤mm ms i k∧mm ms i k≤200:=by
 have hE:=(h.row i hi).2 k hk
 by_cases he:i=k
 ·have:=hE.1 he;omega
 ·have:=hE.2 he;omega
end Go.Ax
namespace Go.Ax
open Go.Proofs
end Go.Ax
namespace Go.Ax
open Go.Proofs
end Go.Ax
namespace Go.Ax
open Go.Proofs
def okp(n:Nat)(l:List Int):Bool:= !(l.length==0)&&asc l&&jE l 0 ((n:Int)-1)
end Go.Ax
namespace Go.Ax
open Go.Proofs
def tk(ms:List (List Int))(i:Nat):Option Nat:=(List.range i).find? fun k=>decide (2≤mm ms i k)
def zjr(ms:List (List Int)):Nat→List Int×Int
 |0=>([],0)
 |i+1=>match tk ms i with
  |some k=>((zjr ms i).1++[(zjr ms i).1.getD k 0],(zjr ms i).2)
  |none=>((zjr ms i).1++[(zjr ms i).2],(zjr ms i).2+1)
end Go.Ax
namespace Go.Ax
open Go.Proofs
def plN(L:List Int)(x:Int):Nat→List Int
 |0=>[]
 |n+1=>if L.getD n 0=x then plN L x n++[(n:Int)]else plN L x n
def okS(x:List Int):Bool:=decide ((sq1 x).length≤399)
def stB(bs:List (List Int))(ls:List Int)(j:Nat):List (List Int):=qu (fun k=>if k<j then zDT (bs.getD (ls.getD k 0).toNat [])else bs.getD (ls.getD k 0).toNat []) ls.length
def dcR(ms:List (List Int))(ls:List Int)(i c:Nat):List Int:=qu (fun k=>if k<c∧k≠i then mm ms (ls.getD i 0).toNat (ls.getD k 0).toNat-1 else mm ms (ls.getD i 0).toNat (ls.getD k 0).toNat) ls.length
def stM(ms:List (List Int))(ls:List Int)(j c:Nat):List (List Int):=qu (fun i=>dcR ms ls i (if i<j then ls.length else if i=j then c else 0)) ls.length
abbrev Cur:Type:=List (List Int)×List (List Int)
def blS(bs ms:List (List Int))(L:List Int):Nat→Option (List Cur)
 |0=>some []
 |t+1=>(blS bs ms L t).bind fun o=>if(plN L t L.length).all (fun i=>okS (bs.getD i.toNat []))then some (o++[(stB bs (plN L t L.length) (plN L t L.length).length,stM ms (plN L t L.length) (plN L t L.length).length 0)])else none
def bl(bs ms:List (List Int))(n:Nat):Option (List Cur):=blS bs ms (zjr ms n).1 (zjr ms n).2.toNat
end Go.Ax
namespace Go.Ax
open Go.Proofs
def Kj(P S:List Int)(i:Int):List Nat:=cdN S (yH P i)
def zcu(cs:List Nat):List V×Int:=bif okC cs then(I (ziP cs),0)else([],5)
def zn3(a b _:List V)(i:Int):List V×Int:=zcu (Kj (yV a) (yV b) i)
theorem zyF(cs:List Nat):V.noFzs (zcu cs).1=true:=by
 rw[zcu]
 cases okC cs with
 |true=>exact zhT _
 |false=>rfl
theorem zth(cs:List Nat):V.frzs (zcu cs).1=(zcu cs).1:=by
 rw[zcu]
 cases okC cs with
 |true=>exact zN _
 |false=>rfl
theorem zBT{P S Q:List Int}(h:ClP P S Q){i:Int}(h0:0≤i)(h1:i<P.length):zew (I (yv (Kj P S i)))∧zk3 (I (yv (Kj P S i)))=zcu (Kj P S i):=by
 refine⟨⟨_,rfl,(zqq h i (by omega) h1).2,?_⟩,by rw[zk3,zB,zaB,zcu]⟩
 have:=KN h (show-1≤i by omega) h1
 rw[Kj,zeP]
 omega
def zz3(a b c:List V)(i:Int):Int:=0
theorem zni:yZ Tryz.prog 91 (ztB zz3 zjF):=by
 intro args ps r h hp
 unfold ztB at h
 split at h
 ·rename_i a0 a1 a2 i
  simp only[za,zb]at h
  obtain⟨rfl,rfl⟩:=h
  have hqp:zjF a0 a1 a2 i:=(zo.1 hp).1
  obtain⟨hqv,i0,i1⟩:=id hqp
  obtain⟨⟨⟨P,hP⟩,⟨S,hS⟩,⟨Q,hQ⟩⟩,hcl⟩:=id hqv
  rw[hP,hS,hQ,zB,zB,zB]at hcl
  have g0:V.frzs a0=a0:=by rw[hP,zN]
  have g1:V.frzs a1=a1:=by rw[hS,zN]
  have g2:V.frzs a2=a2:=by rw[hQ,zN]
  have hpl:a0.length=P.length:=by rw[hP,zm]
  have n24:=hcl.n24
  have hf2:ku a0 a1 a2=true:=by rw[ku,hP,hS,hQ,zB,zB,zB];exact zc6.2 hcl
  rw[hpl]at i1
  generalize uu:ku=zar
  generalize Yo:q_K=zdI
  generalize yO:yE=jP
  refine zO (T:=tab) (B:=[(71,zeG zar zdI),(43,jI jP)]) (Bi:=[]) [0,1,2,4] Tryz.func91 rfl rfl (by kernel_rfl) (zh rfl) mixed yd (by subst uu Yo yO;exact(zt zcd (zt JD zH))) (by subst uu Yo yO;exact zE) (by kernel_rfl) ?_
  intro L lp rr hL hr hf hlp
  have E1:∀x a b,jP x a b=yE x a b:=fun x a b=>by rw[←yO]
  conv=>cbv
  simp only[zr hL,sQ,g0,g1,g2,hpl,E1]
  rw[←uu,←Yo,hf2,zl (by omega) (by omega)]
  refine⟨hqv.1,fun h=>(nomatch h),fun _=>⟨fun h=>?_,fun _=>?_⟩⟩
  ·rw[yE,ky,decide_eq_false_iff_not,decide_eq_false_iff_not]at h
   omega
  ·rw[hr,zz3]
 ·cases h
def zpl(f:List V→List V→List V→Int→List V×Int)(q:List V→List V→List V→Int→Prop):zQ:=fun
 |[.agg [.slc false 2 (.int .i64 0) a0,.slc false 2 (.int .i64 0) a1,.slc false 2 (.int .i64 0) a2],.int .i64 a3]=>some ([q a0 a1 a2 a3],.tup [.agg [.slc false 2 (.int .i64 0) ((f a0 a1 a2 a3).1)],.int .i64 ((f a0 a1 a2 a3).2)])
 |_=>none
theorem zib:yZ Tryz.prog 77 (zpl zn3 zjF):=by
 intro args ps r h hp
 unfold zpl at h
 split at h
 ·rename_i a0 a1 a2 i
  simp only[za,zb]at h
  obtain⟨rfl,rfl⟩:=h
  have hqp:zjF a0 a1 a2 i:=(zo.1 hp).1
  obtain⟨hqv,i0,i1⟩:=id hqp
  obtain⟨⟨⟨P,hP⟩,⟨S,hS⟩,⟨Q,hQ⟩⟩,hcl⟩:=id hqv
  rw[hP,hS,hQ,zB,zB,zB]at hcl
  have g0:V.frzs a0=a0:=by rw[hP,zN]
  have g1:V.frzs a1=a1:=by rw[hS,zN]
  have g2:V.frzs a2=a2:=by rw[hQ,zN]
  have hpl:a0.length=P.length:=by rw[hP,zm]
  have hi1:=i1
  rw[hpl]at i1
  have hfp:zdV a0 a1 a2 i=I (yH P i):=by rw[zdV,hP,zB]
  have hfc:zk4 a0 a1 a2 (I (yH P i))=I (yv (Kj P S i)):=by rw[zk4,hS,zB,zB,Kj]
  have hqc:zrf a0 a1 a2 (I (yH P i)):=⟨hqv,i,by rw[hP,zB],i0,hi1⟩
  obtain⟨ck1,ck2⟩:=zBT hcl i0 i1
  have hf0:zn3 a0 a1 a2 i=zcu (Kj P S i):=by rw[zn3,hP,hS,zB,zB]
  generalize ztW:zz3=zDf
  generalize zfP:zjF=zhW
  generalize zbI:zdV=zi3
  generalize zpY:zk4=zCi
  generalize zpB:zrf=zB9
  generalize zpV:zk3=zCh
  generalize zdj:zew=zlm
  refine zc8 (T:=tab) (B:=[(91,ztB zDf zhW),(78,zle zi3 zhW),(93,zfA zCi zB9),(92,ztu zCh zlm),(2000000092,zeQ)]) (Bi:=[]) [2000004807,2000004824,2000004998,0,1,2,4,5,6,7,8] Tryz.func77 rfl rfl (by kernel_rfl) (zh rfl) mixed yd (by subst ztW zfP zbI zpY zpB zpV zdj;exact(zt zni (zt zhh (zt zoB (zt zhn (zt zkJ zH)))))) (by subst ztW zfP zbI zpY zpB zpV zdj;exact zE) (by kernel_rfl) ?_
  intro L lp rr hL hr hf hlp
  conv=>cbv
  simp only[zr hL,sQ,g0,g1,g2]
  subst ztW zfP zbI zpY zpB zpV zdj
  rw[hfp,zN,hfc,zN,ck2]
  refine⟨hqp,fun h=>absurd rfl h,fun _=>⟨hqp,hqc,zhT _,ck1,zyF _,?_⟩⟩
  rw[zth,zth,hr,hf0]
 ·cases h
end Go.Ax
namespace Go.Ax
open Go.Proofs
def YO(P S Q:List Int):List Int:=qu (exL P S Q) P.length
def zrs(P S Q:List Int):Bool:=(YO P S Q).all fun x=>decide (0≤x)
def za6(a b c:List V):Bool:=zrs (yV a) (yV b) (yV c)
theorem zqK{pm:List (List Int)}{w:List Int}(hw:∀i,-100000≤w.getD i 0∧w.getD i 0≤100000):∀(j:Nat) (a:Nat),j≤24→-(100000*((j:Int)+1))≤JV pm w j a∧JV pm w j a≤100000*((j:Int)+1)
 |0,a,_=>by
  have:=hw a
  rw[JV];omega
 |j+1,a,hj=>by
  have h1:=zqK (pm:=pm) hw j a (by omega)
  have h2:=hw j
  rw[JV]
  split
  ·have e:W (JV pm w j a-w.getD j 0)=JV pm w j a-w.getD j 0:=zl (by omega) (by omega)
   rw[e]
   omega
  ·omega
theorem zyw{P S Q:List Int}(h:ClP P S Q)(a:Nat): -2500000≤exL P S Q a∧exL P S Q a≤2500000:=by
 have n24:=h.n24
 have hw:∀i,-100000≤Q.getD i 0∧Q.getD i 0≤100000:=fun i=>by
  by_cases hi:i<P.length
  ·exact h.q i hi
  ·rw[zd,List.getElem?_eq_none (by rw[h.ql];omega)]
   simp
 have:=zqK (pm:=cpx P S P.length P.length) hw P.length a (by omega)
 rw[exL]
 omega
theorem zh8:yZ Tryz.prog 75 (zeG za6 zee):=by
 intro args ps r h hp
 unfold zeG at h
 split at h
 ·rename_i a0 a1 a2
  simp only[za,zb]at h
  obtain⟨rfl,rfl⟩:=h
  have hqv:zee a0 a1 a2:=(zo.1 hp).1
  obtain⟨⟨⟨P,hP⟩,⟨S,hS⟩,⟨Q,hQ⟩⟩,hcl⟩:=id hqv
  rw[hP,hS,hQ,zB,zB,zB]at hcl
  have g0:V.frzs a0=a0:=by rw[hP,zN]
  have g1:V.frzs a1=a1:=by rw[hS,zN]
  have g2:V.frzs a2=a2:=by rw[hQ,zN]
  have hpl:a0.length=P.length:=by rw[hP,zm]
  have hsl:a1.length=P.length:=by rw[hS,zm,hcl.sl]
  have hql:a2.length=P.length:=by rw[hQ,zm,hcl.ql]
  have gp:∀k,a0.getD k (.int .i64 0)=.int .i64 (P.getD k 0):=fun k=>by rw[hP,zT]
  have gs:∀k,a1.getD k (.int .i64 0)=.int .i64 (S.getD k 0):=fun k=>by rw[hS,zT]
  have gq:∀k,a2.getD k (.int .i64 0)=.int .i64 (Q.getD k 0):=fun k=>by rw[hQ,zT]
  obtain⟨n,hn⟩:∃n:Int,n=P.length:=⟨_,rfl⟩
  have n1:=hcl.n1
  have n24:=hcl.n24
  have low:=fun t ht=>hcl.low (i:=t) ht
  have hf0:za6 a0 a1 a2=zrs P S Q:=by rw[za6,hP,hS,hQ,zB,zB,zB]
  have hfe:zct a0 a1 a2 a2=I (YO P S Q):=by rw[zct,hpl,hP,hS,hQ,zB,zB,zB];rfl
  obtain⟨vs,hvs⟩:∃vs,vs=I (YO P S Q):=⟨_,rfl⟩
  rw[←hvs]at hfe
  have hvl:vs.length=P.length:=by rw[hvs,zm,YO,yA]
  have gv:∀k,vs.getD k (.int .i64 0)=.int .i64 ((YO P S Q).getD k 0):=fun k=>by rw[hvs,zT]
  have hel:(YO P S Q).length=P.length:=yA _ _
  generalize zbL:zct=zfY
  generalize zdl:zrg=zhV
  refine zO (T:=tab) (B:=[(90,zfA zfY zhV)]) (Bi:=[]) [0,1,2,3,4] Tryz.func75 rfl rfl (by kernel_rfl) (zh rfl) mixed yd (by subst zbL zdl;exact(zt ze3 zH)) (by subst zbL zdl;exact zE) (by kernel_rfl) ?_
  intro L lp rr hL hr hf hlp
  have Ee:zfY a0 a1 a2 a2=vs:=by rw[←zbL];exact hfe
  have Qe:zhV a0 a1 a2 a2:=by rw[←zdl];exact⟨hqv,rfl⟩
  conv=>cbv
  simp only[zr hL,sQ,g0,g1,g2,Ee]
  refine⟨Qe,?_⟩
  refine hlp (Int) _ _ _ [3,4] (fun x=>[(3,none,.val (.slc true 2 (.int .i64 0) vs)),(4,none,.val (.int .i64 x))])
   (fun x=>0≤x∧x≤P.length∧∀t,t<x.toNat→0≤(YO P S Q).getD t 0) (fun x=>(P.length-x).toNat) (0) (by subst hL;rfl) ?_ ?_
  ·exact⟨by simp,by simp,fun t ht=>by simp at ht⟩
  rintro i ⟨i0,i1,hI⟩ hfx ag hag
  conv=>cbv
  simp only[zr hL,sQ,hvl,gv]
  refine⟨fun h2=>⟨i0,h2,by omega,fun h3=>?_,fun h3=>?_⟩,fun h2=>?_⟩
  ·rw[hr,hf0,zrs]
   have:(YO P S Q).all (fun x=>decide (0≤x))=false:=by
    rw[List.all_eq_false]
    refine⟨_,zmy (l:=YO P S Q) (t:=i.toNat) (by omega),?_⟩
    simpa using h3
   rw[this]
  ·rw[zl (n:=i+1) (by omega) (by omega)]
   refine hag (i+1) ⟨by omega,by omega,fun t ht=>?_⟩ (by omega)
   by_cases h4:t<i.toNat
   ·exact hI t h4
   ·rw[show t=i.toNat by omega];omega
  ·rw[hr,hf0,zrs]
   have:(YO P S Q).all (fun x=>decide (0≤x))=true:=by
    rw[zZ]
    intro x hx
    obtain⟨t,ht,rfl⟩:=zCJ hx
    simpa using hI t (by omega)
   rw[this]
 ·cases h
def KB(l:List Int):Nat→List (List Int)
 |0=>[]
 |i+1=>KB l i++if 0<l.getD i 0 then[[(i:Int),l.getD i 0]]else[]
theorem zmG(l:List Int):∀i,(KB l i).length≤i
 |0=>by simp[KB]
 |i+1=>by
  have:=zmG l i
  rw[KB,zk]
  split<;>simp<;>omega
def zhD(a b c:List V):List V:=II true (KB (YO (yV a) (yV b) (yV c)) a.length)
theorem zyX(xs:List Int):II true [xs]=[.slc true 2 (.int .i64 0) (I xs)]:=rfl
theorem zlp:yZ Tryz.prog 76 (zxk zhD zee):=by
 intro args ps r h hp
 unfold zxk at h
 split at h
 ·rename_i a0 a1 a2
  simp only[za,zb]at h
  obtain⟨rfl,rfl⟩:=h
  have hqv:zee a0 a1 a2:=(zo.1 hp).1
  obtain⟨⟨⟨P,hP⟩,⟨S,hS⟩,⟨Q,hQ⟩⟩,hcl⟩:=id hqv
  rw[hP,hS,hQ,zB,zB,zB]at hcl
  have g0:V.frzs a0=a0:=by rw[hP,zN]
  have g1:V.frzs a1=a1:=by rw[hS,zN]
  have g2:V.frzs a2=a2:=by rw[hQ,zN]
  have hpl:a0.length=P.length:=by rw[hP,zm]
  have hsl:a1.length=P.length:=by rw[hS,zm,hcl.sl]
  have hql:a2.length=P.length:=by rw[hQ,zm,hcl.ql]
  have gp:∀k,a0.getD k (.int .i64 0)=.int .i64 (P.getD k 0):=fun k=>by rw[hP,zT]
  have gs:∀k,a1.getD k (.int .i64 0)=.int .i64 (S.getD k 0):=fun k=>by rw[hS,zT]
  have gq:∀k,a2.getD k (.int .i64 0)=.int .i64 (Q.getD k 0):=fun k=>by rw[hQ,zT]
  obtain⟨n,hn⟩:∃n:Int,n=P.length:=⟨_,rfl⟩
  have n1:=hcl.n1
  have n24:=hcl.n24
  have low:=fun t ht=>hcl.low (i:=t) ht
  have hf0:zhD a0 a1 a2=II true (KB (YO P S Q) P.length):=by rw[zhD,hpl,hP,hS,hQ,zB,zB,zB]
  have hfe:zct a0 a1 a2 a2=I (YO P S Q):=by rw[zct,hpl,hP,hS,hQ,zB,zB,zB];rfl
  obtain⟨E,hE⟩:∃E,E=YO P S Q:=⟨_,rfl⟩
  rw[←hE]at hf0 hfe
  obtain⟨vs,hvs⟩:∃vs,vs=I E:=⟨_,rfl⟩
  rw[←hvs]at hfe
  have hvl:vs.length=P.length:=by rw[hvs,zm,hE,YO,yA]
  have gv:∀k,vs.getD k (.int .i64 0)=.int .i64 (E.getD k 0):=fun k=>by rw[hvs,zT]
  generalize zbL:zct=zfY
  generalize zdl:zrg=zhV
  refine zO (T:=tab) (B:=[(90,zfA zfY zhV)]) (Bi:=[]) [0,1,2,3,4,5] Tryz.func76 rfl rfl (by kernel_rfl) (zh rfl) mixed yd (by subst zbL zdl;exact(zt ze3 zH)) (by subst zbL zdl;exact zE) (by kernel_rfl) ?_
  intro L lp rr hL hr hf hlp
  have Ee:zfY a0 a1 a2 a2=vs:=by rw[←zbL];exact hfe
  have Qe:zhV a0 a1 a2 a2:=by rw[←zdl];exact⟨hqv,rfl⟩
  conv=>cbv
  simp only[zr hL,sQ,g0,g1,g2,Ee,hvl,←hn]
  refine⟨Qe,?_⟩
  refine hlp (List V×Int) _ _ _ [3,4,5] (fun x=>[(3,none,.val (.slc true 2 (.int .i64 0) vs)),(4,none,.val (.slc true 44 (.slc true 2 (.int .i64 0) []) x.1)),(5,none,.val (.int .i64 x.2))])
   (fun x=>0≤x.2∧x.2≤n∧x.1=II true (KB E x.2.toNat)) (fun x=>(n-x.2).toNat) (([],0)) (by subst hL;rfl) ?_ ?_
  ·exact⟨by simp,by simp only;omega,rfl⟩
  rintro⟨os,i⟩ ⟨i0,i1,hO⟩ hfx ag hag
  simp only at i0 i1 hO
  have hol:os.length≤24:=by
   have:=zmG E i.toNat
   rw[hO,yz];omega
  conv=>cbv
  simp only[zr hL,sQ,gv,hvl,←hn]
  refine⟨fun h2=>?_,fun h2=>?_⟩
  ·rw[zl (n:=i+1) (by omega) (by omega)]
   refine⟨i0,by omega,by omega,fun h3=>?_,fun h3=>?_⟩
   ·have hnx:os++[V.slc true 2 (.int .i64 0) [V.int .i64 i,V.int .i64 (E.getD i.toNat 0)]]=II true (KB E (i.toNat+1)):=by
     rw[KB,if_pos h3,hO,show((i.toNat:Nat):Int)=i by omega,YK,zyX]
     rfl
    (repeat' first|(exact qJ _)|(exact Yf rfl)|(exact kn _)|(apply And.intro)|(intro _))<;>(try first|exact True.intro|omega|rfl|(simp only[zi,zq,zm];omega))
    refine hag (_,i+1) ⟨by simp only;omega,by simp only;omega,?_⟩ (by simp only;omega)
    simp only[yj i0]
    exact hnx
   ·refine hag (os,i+1) ⟨by simp only;omega,by simp only;omega,?_⟩ (by simp only;omega)
    simp only[yj i0]
    rw[KB,if_neg h3,yh];exact hO
  ·rw[hr,hf0,hO,show i.toNat=P.length by omega]
 ·cases h
def shN(a b:List Int):Nat:=(a.filter fun x=>decide (x∈b)).length
theorem zzm{a b:List Int}{i:Nat}(h:i<a.length):shN (a.take (i+1)) b=shN (a.take i) b+if a.getD i 0∈b then 1 else 0:=by
 rw[shN,shN,zC h,List.filter_append,zk,zvk h]
 congr 1
 by_cases hb:a.getD i 0∈b
 ·rw[List.filter_cons_of_pos (by simpa using hb),if_pos hb];rfl
 ·rw[List.filter_cons_of_neg (by simpa using hb),if_neg hb];rfl
theorem zxK(a b:List Int):shN a b≤a.length:=List.length_filter_le _ _
theorem zzn{a b:List Int}(ha:a.Nodup)(hb:b.Nodup):shN a b=shN b a:=by
 have hp:(a.filter fun x=>decide (x∈b)).Perm (b.filter fun x=>decide (x∈a)):=by
  rw[List.perm_ext_iff_of_nodup (ha.filter _) (hb.filter _)]
  intro x
  simp only[List.mem_filter,decide_eq_true_eq]
  exact⟨fun h=>⟨h.2,h.1⟩,fun h=>⟨h.2,h.1⟩⟩
 exact hp.length_eq
end Go.Ax
namespace Go.Ax
open Go.Proofs
def zbv(fs:List (List Int)):List Int:=fs.flatMap fun r=>List.replicate (r.getD 1 0).toNat (r.getD 0 0)
structure FacOk (n:Nat) (fs:List (List Int)):Prop where
 len:fs.length≤24
 row:∀r∈fs,r.length=2∧0≤r.getD 0 0∧r.getD 0 0<n∧0<r.getD 1 0∧r.getD 1 0≤2500000
theorem zsW{l:List Int}:∀{i:Nat} {r:List Int},r∈KB l i→∃k,k<i∧r=[(k:Int),l.getD k 0]∧0<l.getD k 0
 |0,r,h=>by simp[KB]at h
 |i+1,r,h=>by
  rw[KB]at h
  rcases List.mem_append.1 h with h|h
  ·obtain⟨k,h1,h2⟩:=zsW h
   exact⟨k,by omega,h2⟩
  ·by_cases h0:0<l.getD i 0
   ·rw[if_pos h0,zX]at h
    exact⟨i,by omega,h,h0⟩
   ·rw[if_neg h0]at h
    cases h
theorem zo5{P S Q:List Int}(h:ClP P S Q):FacOk P.length (KB (YO P S Q) P.length):=by
 refine⟨Nat.le_trans (zmG _ _) h.n24,fun r hr=>?_⟩
 obtain⟨k,h1,rfl,h3⟩:=zsW hr
 have h4:=zyw h k
 have h5:(YO P S Q).getD k 0=exL P S Q k:=uA _ _ _ _ h1
 have e0:([(k:Int),(YO P S Q).getD k 0]:List Int).getD 0 0=k:=rfl
 have e1:([(k:Int),(YO P S Q).getD k 0]:List Int).getD 1 0=exL P S Q k:=h5
 rw[h5]at h3
 rw[e0,e1]
 exact⟨rfl,by omega,by omega,by omega,by omega⟩
theorem zxU(fs:List (List Int))(r:List Int):zbv (fs++[r])=zbv fs++List.replicate (r.getD 1 0).toNat (r.getD 0 0):=by
 rw[zbv,List.flatMap_append,←zbv];simp
theorem FacOk.get{n:Nat}{fs:List (List Int)}(h:FacOk n fs){i:Nat}(hi:i<fs.length):(fs.getD i []).length=2∧0≤(fs.getD i []).getD 0 0∧(fs.getD i []).getD 0 0<n∧0<(fs.getD i []).getD 1 0∧(fs.getD i []).getD 1 0≤2500000:=
 h.row _ (zcY hi)
theorem zxD{fs:List (List Int)}{i:Nat}(hi:i<fs.length):fs.take (i+1)=fs.take i++[fs.getD i []]:=zi7 fs i hi
theorem zkN{n:Nat}{fs:List (List Int)}(h:FacOk n fs):∀x∈zbv fs,0≤x∧x<n:=by
 intro x hx
 rw[zbv,List.mem_flatMap]at hx
 obtain⟨r,hr,hx⟩:=hx
 have h1:=h.row r hr
 have h2:=List.eq_of_mem_replicate hx
 omega
def zfv(P S:List Int)(x:Int):List Int:=ziP (Kj P S x)
def okX(P S:List Int)(x:Int):Bool:=okC (Kj P S x)
theorem zAd{P S:List Int}{x:Int}(h:okX P S x=true):zcu (Kj P S x)=(I (zfv P S x),0):=by rw[zcu,show okC (Kj P S x)=true from h];rfl
theorem zBR{P S:List Int}{x:Int}(h:okX P S x=false):zcu (Kj P S x)=([],5):=by rw[zcu,show okC (Kj P S x)=false from h];rfl
theorem zAc{P S Q:List Int}(h:ClP P S Q){x:Int}(h0:0≤x)(h1:x<P.length)(hok:okX P S x=true):(zfv P S x).length≤3000:=by
 have hl:=KN h (show-1≤x by omega) h1
 have hcl:(Kj P S x).length≤30:=by rw[Kj,zeP];omega
 obtain⟨⟨n,l,hs⟩,_⟩:=zmb hcl hok 0
 rw[uB,yh]at hs
 rw[zfv,ziP,zhO hs,kV,zi]
 have hv:=zov l n n hs.1.val (by have:=hs.1.hi;omega)
 omega
def com(P:List Int)(ps:List Int)(i k:Nat):Int:=if i=k then 0 else(shN (yH P (ps.getD i 0)) (yH P (ps.getD k 0)):Nat)
def zmJ(P S:List Int)(ps:List Int):List V×List V×Int:=if ps.length=0∨6<ps.length then([],[],3)else bif ps.all (okX P S)then(BB true (ps.map (zfv P S)),II true (T2 ps.length (com P ps)),0)else([],[],5)
noncomputable def zbl(a b c:List V):List V×List V×Int:=bif ku a b c then(bif za6 a b c then zmJ (yV a) (yV b) (zbv (KB (YO (yV a) (yV b) (yV c)) a.length))else([],[],5))else([],[],1)
end Go.Ax
namespace Go.Ax
open Go.Proofs
theorem zwf{pp:List Int}{x:Int}{t:Nat}(h:((pp++List.replicate t x).take 7).length≤6):(pp++List.replicate t x).take 7++[x]=(pp++List.replicate (t+1) x).take 7:=by
 rw[zD]at h
 have h2:(pp++List.replicate t x).length≤6:=by omega
 rw[zu (by omega),List.replicate_succ',←zS,zu (by rw[zk];simp only[zi,zq];omega)]
theorem zxH{pp:List Int}{x:Int}{t c:Nat}(ht:t≤c)(h:t=c∨6<((pp++List.replicate t x).take 7).length):(pp++List.replicate t x).take 7=(pp++List.replicate c x).take 7:=by
 rcases h with h|h
 ·rw[h]
 ·rw[zD]at h
  have e:pp++List.replicate c x=(pp++List.replicate t x)++List.replicate (c-t) x:=by
   rw[zS,je,show t+(c-t)=c by omega]
  rw[e]
  exact(List.take_append_of_le_length (by omega)).symm
end Go.Ax
namespace Go.Ax
open Go.Proofs
noncomputable def ZJ(a b c:List V):List V×List V×Int:=(V.frzs (zbl a b c).1,(zbl a b c).2.1,(zbl a b c).2.2)
def ztC(f:List V→List V→List V→List V×List V×Int)(q:List V→List V→List V→Prop):zQ:=fun
 |[.agg [.slc false 2 (.int .i64 0) a0,.slc false 2 (.int .i64 0) a1,.slc false 2 (.int .i64 0) a2]]=>some ([q a0 a1 a2],.tup [.agg [.slc true 46 (.agg [.slc false 2 (.int .i64 0) []]) ((f a0 a1 a2).1),.slc true 44 (.slc true 2 (.int .i64 0) []) ((f a0 a1 a2).2.1)],.int .i64 ((f a0 a1 a2).2.2)])
 |_=>none
theorem zgS:yZ Tryz.prog 51 (ztC ZJ q_K):=by
 intro args ps r h hp
 unfold ztC at h
 split at h
 ·rename_i a0 a1 a2
  simp only[za,zb]at h
  obtain⟨rfl,rfl⟩:=h
  have hq:q_K a0 a1 a2:=(zo.1 hp).1
  obtain⟨⟨P,hP⟩,⟨S,hS⟩,⟨Q,hQ⟩⟩:=id hq
  have g0:V.frzs a0=a0:=by rw[hP,zN]
  have g1:V.frzs a1=a1:=by rw[hS,zN]
  have g2:V.frzs a2=a2:=by rw[hQ,zN]
  have hpl:a0.length=P.length:=by rw[hP,zm]
  have hf1:ku a0 a1 a2=false→zbl a0 a1 a2=([],[],1):=fun h=>by rw[zbl,h];rfl
  have hf2:ku a0 a1 a2=true→za6 a0 a1 a2=false→zbl a0 a1 a2=([],[],5):=fun h h2=>by rw[zbl,h,h2];rfl
  obtain⟨fs,hfs⟩:∃fs,fs=KB (YO P S Q) P.length:=⟨_,rfl⟩
  have hf3:ku a0 a1 a2=true→za6 a0 a1 a2=true→zbl a0 a1 a2=zmJ P S (zbv fs):=fun h h2=>by rw[zbl,h,h2,hpl,hP,hS,hQ,zB,zB,zB,hfs];rfl
  have hff:zhD a0 a1 a2=II true fs:=by rw[zhD,hpl,hP,hS,hQ,zB,zB,zB,hfs]
  obtain⟨vf,hvf⟩:∃vf,vf=II true fs:=⟨_,rfl⟩
  rw[←hvf]at hff
  have hvl:vf.length=fs.length:=by rw[hvf,yz]
  have gvf:∀k,vf.getD k (.slc true 2 (.int .i64 0) [])=.slc true 2 (.int .i64 0) (I (fs.getD k [])):=fun k=>by rw[hvf,jf]
  obtain⟨n,hn⟩:∃n:Int,n=fs.length:=⟨_,rfl⟩
  generalize uu:ku=zar
  generalize Yo:q_K=zdI
  generalize ziZ:za6=zAB
  generalize ztU:zee=zt5
  generalize zmZ:zhD=zt9
  generalize zp5:zn3=zwa
  generalize zfP:zjF=zhW
  generalize zbI:zdV=zi3
  generalize zpO:zrp=zv1
  generalize zam:zjE=zfU
  refine zz1 (T:=tab) (B:=[(71,zeG zar zdI),(75,zeG zAB zt5),(76,zxk zt9 zt5),(77,zpl zwa zhW),(3000000077,zeQ),(78,zle zi3 zhW),(79,zpg zv1 zfU)]) (Bi:=[]) [1000016708,2000019811,2000019884,2000019998,2000023101,0,1,2,3,4,5,6,7,8,9,10,11,12,13,14,15,16,17] Tryz.func51 rfl rfl (by kernel_rfl) (zh rfl) mixed yd (by subst uu Yo ziZ ztU zmZ zp5 zfP zbI zpO zam;exact(zt zcd (zt zh8 (zt zlp (zt zib (zt zkJ (zt zhh (zt zqZ zH)))))))) (by subst uu Yo ziZ ztU zmZ zp5 zfP zbI zpO zam;exact zE) (by kernel_rfl) ?_
  intro L lp rr hL hr hf hlp
  have Ef:zt9 a0 a1 a2=vf:=by rw[←zmZ];exact hff
  conv=>cbv
  simp only[zr hL,sQ,g0,g1,g2,Ef,hvl,←hn]
  refine⟨by rw[←Yo];exact hq,fun h=>?_,fun hcl0=>?_⟩
  ·rw[hr,ZJ,hf1 (by rw[←h,←uu])]
  have hcl1:ku a0 a1 a2=true:=by rw[←hcl0,←uu]
  have hqv:zee a0 a1 a2:=zuZ hq hcl1
  have hcl:ClP P S Q:=by have:=hqv.2;rwa [hP,hS,hQ,zB,zB,zB]at this
  have Qv:zt5 a0 a1 a2:=by rw[←ztU];exact hqv
  have hfo:FacOk P.length fs:=by rw[hfs];exact zo5 hcl
  have hl24:=hfo.len
  refine⟨Qv,fun h=>?_,fun hco0=>?_⟩
  ·rw[hr,ZJ,hf2 hcl1 (by rw[←h,←ziZ])]
  have hco1:za6 a0 a1 a2=true:=by rw[←hco0,←ziZ]
  have hf0:=hf3 hcl1 hco1
  refine⟨Qv,?_⟩
  refine hlp (List V×Int) _ _ _ [1,2,4,5,6] (fun x=>[(1,none,.val (.box 77 (.agg [.slc false 2 (.int .i64 0) a0,.slc false 2 (.int .i64 0) a1,.slc false 2 (.int .i64 0) a2]))),(2,none,.val (.box 27 (.agg [.slc true 46 (.agg [.slc true 2 (.int .i64 0) []]) [],.slc true 44 (.slc true 2 (.int .i64 0) []) []]))),(4,none,.val (.slc true 44 (.slc true 2 (.int .i64 0) []) vf)),(5,none,.val (.slc true 2 (.int .i64 0) x.1)),(6,none,.val (.int .i64 x.2))])
   (fun x=>0≤x.2∧x.2≤n∧x.1=I ((zbv (fs.take x.2.toNat)).take 7)) (fun x=>(n-x.2).toNat) (([],0)) (by subst hL;rfl) ?_ ?_
  ·exact⟨by simp,by simp only;omega,rfl⟩
  rintro⟨vp,i⟩ ⟨i0,i1,hI⟩ hfx ag hag
  simp only at i0 i1 hI
  obtain⟨ni,hni⟩:∃ni:Nat,ni=i.toNat:=⟨_,rfl⟩
  rw[←hni]at hI
  have hvpl:vp.length=((zbv (fs.take ni)).take 7).length:=by rw[hI,zm]
  conv=>cbv
  simp only[zr hL,sQ,g0,g1,g2,hvl,gvf,←hn,zT,zm,←hni]
  refine⟨fun h2=>?_,fun h2=>?_⟩
  ·obtain⟨r1,r2,r3,r4,r5⟩:=hfo.get (i:=ni) (by omega)
   obtain⟨xx,hx⟩:∃xx,xx=(fs.getD ni []).getD 0 0:=⟨_,rfl⟩
   rw[←hx]at r2 r3
   obtain⟨c,hc⟩:∃c,c=(fs.getD ni []).getD 1 0:=⟨_,rfl⟩
   rw[←hc]at r4 r5
   obtain⟨pp,hpp⟩:∃pp,pp=zbv (fs.take ni):=⟨_,rfl⟩
   rw[←hpp]at hI
   have hnx:zbv (fs.take (ni+1))=pp++List.replicate c.toNat xx:=by rw[zxD (by omega),zxU,←hpp,←hx,←hc]
   simp only[←hc]
   refine⟨i0,h2,by omega,by omega,by omega,by omega,by omega,by omega,?_⟩
   refine hlp (List V×Int) _ _ _ [1,2,4,5,6,7] (fun x=>[(1,none,.val (.box 77 (.agg [.slc false 2 (.int .i64 0) a0,.slc false 2 (.int .i64 0) a1,.slc false 2 (.int .i64 0) a2]))),(2,none,.val (.box 27 (.agg [.slc true 46 (.agg [.slc true 2 (.int .i64 0) []]) [],.slc true 44 (.slc true 2 (.int .i64 0) []) []]))),(4,none,.val (.slc true 44 (.slc true 2 (.int .i64 0) []) vf)),(5,none,.val (.slc true 2 (.int .i64 0) x.1)),(6,none,.val (.int .i64 i)),(7,none,.val (.int .i64 x.2))])
    (fun x=>0≤x.2∧x.2≤c∧x.1=I ((pp++List.replicate (c-x.2).toNat xx).take 7)) (fun x=>x.2.toNat) ((vp,c)) (by subst hL;rfl) ?_ ?_
   ·exact⟨by simp only;omega,by simp,by simp only;rw[hI];simp⟩
   rintro⟨vp2,e⟩ ⟨e0,e1,hI2⟩ hfx2 ag2 hag2
   simp only at e0 e1 hI2
   have hvl2:vp2.length=((pp++List.replicate (c-e).toNat xx).take 7).length:=by rw[hI2,zm]
   have hv7:vp2.length≤7:=by rw[hvl2,zD];omega
   conv=>cbv
   simp only[zr hL,sQ,hvl,gvf,←hn,zT,zm,←hni,←hx]
   refine⟨fun h5=>⟨i0,h2,by omega,by omega,by omega,by omega,by omega,by omega,rfl,by simp only[zi,zq];omega,fun z hz=>by(simp only[zX]at hz;subst hz;rfl),?_⟩,fun h5=>?_⟩
   ·rw[zl (n:=e-1) (by omega) (by omega)]
    refine hag2 (_,e-1) ⟨by simp only;omega,by simp only;omega,?_⟩ (by simp only;omega)
    simp only
    rw[show(c-(e-1)).toNat=(c-e).toNat+1 by omega,←zwf (by rw[←hvl2];omega),←jS,←hI2]
    rfl
   ·rw[zl (n:=i+1) (by omega) (by omega)]
    refine hag (vp2,i+1) ⟨by simp only;omega,by simp only;omega,?_⟩ (by simp only;omega)
    simp only
    rw[show(i+1).toNat=ni+1 by omega,hnx,hI2,zxH (t:=(c-e).toNat) (c:=c.toNat) (by omega) (by
     rcases h5 with h5|h5
     ·exact .inl (by omega)
     ·exact .inr (by rw[←hvl2];omega))]
  have htk:fs.take ni=fs:=zu (by omega)
  obtain⟨ps,hps⟩:∃ps,ps=zbv fs:=⟨_,rfl⟩
  rw[htk,←hps]at hI hvpl
  rw[←hps]at hf0
  rw[zD]at hvpl
  refine⟨fun h3=>?_,fun h3=>?_⟩
  ·have h4:ps.length=0∨6<ps.length:=by omega
   rw[hr,ZJ,hf0,zmJ,if_pos h4]
  have hp6:1≤ps.length∧ps.length≤6:=by omega
  have hf4:zmJ P S ps=bif ps.all (okX P S)then(BB true (ps.map (zfv P S)),II true (T2 ps.length (com P ps)),0)else([],[],5):=by rw[zmJ,if_neg (by omega)]
  rw[zu (by omega)]at hI
  have hvl3:vp.length=ps.length:=by rw[hI,zm]
  have gvp:∀k,vp.getD k (.int .i64 0)=.int .i64 (ps.getD k 0):=fun k=>by rw[hI,zT]
  have hbatx:∀x:Int,0≤x→x<P.length→zwa a0 a1 a2 x=zcu (Kj P S x):=fun x h1 h2=>by rw[←zp5,zn3,hP,hS,zB,zB]
  have Qp:∀x:Int,0≤x→x<P.length→zhW a0 a1 a2 x:=by
   rw[←zfP]
   exact fun x h1 h2=>⟨hqv,h1,by rw[hpl];exact h2⟩
  have Ep:∀x:Int,zi3 a0 a1 a2 x=I (yH P x):=fun x=>by rw[←zbI,zdV,hP,zB]
  have hpin:∀k,k<ps.length→0≤ps.getD k 0∧ps.getD k 0<P.length:=fun k hk=>zkN hfo (ps.getD k 0) (by rw[←hps];exact zmy hk)
  obtain⟨m,hm⟩:∃m:Int,m=ps.length:=⟨_,rfl⟩
  clear hag hfx ag
  refine hlp ((List V×List V)×Int) _ _ _ [1,2,5,8,9,10] (fun x=>[(1,none,.val (.box 77 (.agg [.slc false 2 (.int .i64 0) a0,.slc false 2 (.int .i64 0) a1,.slc false 2 (.int .i64 0) a2]))),(2,none,.val (.box 27 (.agg [.slc true 46 (.agg [.slc true 2 (.int .i64 0) []]) [],.slc true 44 (.slc true 2 (.int .i64 0) []) []]))),(5,none,.val (.slc true 2 (.int .i64 0) vp)),(8,none,.val (.box 27 (.agg [.slc true 46 (.agg [.slc false 2 (.int .i64 0) []]) x.1.1,.slc true 44 (.slc true 2 (.int .i64 0) []) []]))),(9,none,.val (.slc true 44 (.slc true 2 (.int .i64 0) []) x.1.2)),(10,none,.val (.int .i64 x.2))])
   (fun x=>0≤x.2∧x.2≤m∧x.1.1=BB false ((ps.take x.2.toNat).map (zfv P S))∧x.1.2=II true ((ps.take x.2.toNat).map (yH P))∧∀y∈ps.take x.2.toNat,okX P S y=true) (fun x=>(m-x.2).toNat) ((([],[]),0)) (by subst hL;rfl) ?_ ?_
  ·exact⟨by simp,by simp only;omega,rfl,rfl,fun y hy=>by cases hy⟩
  rintro⟨⟨bs,qs⟩,j⟩ ⟨j0,j1,hB,hQ2,hok⟩ hfx ag hag
  simp only at j0 j1 hB hQ2 hok
  obtain⟨nj,hnj⟩:∃nj:Nat,nj=j.toNat:=⟨_,rfl⟩
  rw[←hnj]at hB hQ2 hok
  have hbl:bs.length≤6:=by rw[hB,YL,zy,zD];omega
  have hql:qs.length≤6:=by rw[hQ2,yz,zy,zD];omega
  conv=>cbv
  simp only[zr hL,sQ,g0,g1,g2,hvl3,gvp,←hm,←hnj,Ep]
  refine⟨fun h4=>?_,fun h4=>?_⟩
  ·have hnl:nj<ps.length:=by omega
   obtain⟨x,hx⟩:∃x,x=ps.getD nj 0:=⟨_,rfl⟩
   obtain⟨x0,x1⟩:=hpin nj hnl
   rw[←hx]at x0 x1
   simp only[←hx,hbatx x x0 x1]
   have hxm:x∈ps:=by rw[hx];exact zmy hnl
   have htk2:ps.take (nj+1)=ps.take nj++[x]:=by rw[zC hnl,zvk hnl,hx]
   refine⟨j0,h4,hnl,Qp x x0 x1,?_⟩
   cases hox:okX P S x with
   |false=>
    rw[zBR hox]
    refine⟨fun _=>?_,fun h=>by cases h⟩
    have hall:ps.all (okX P S)=false:=by rw[List.all_eq_false];exact⟨x,hxm,by rw[hox];simp⟩
    rw[hr,ZJ,hf0,hf4,hall]
    rfl
   |true=>
    rw[zAd hox,zl (n:=j+1) (by omega) (by omega)]
    refine⟨fun h=>absurd rfl h,fun _=>⟨by simp only[zi,zq];omega,fun z hz=>by(simp only[zX]at hz;subst hz;rfl),j0,h4,hnl,Qp x x0 x1,by simp only[zi,zq];omega,fun z hz=>by(simp only[zX]at hz;subst hz;rfl),?_⟩⟩
    refine hag ((_,_),j+1) ⟨by simp only;omega,by simp only;omega,?_,?_,fun y hy=>?_⟩ (by simp only;omega)
    ·simp only
     rw[show(j+1).toNat=nj+1 by omega,htk2,List.map_append,hB]
     simp[BB]
    ·simp only
     rw[show(j+1).toNat=nj+1 by omega,htk2,List.map_append,hQ2]
     simp[II]
    ·simp only at hy
     rw[show(j+1).toNat=nj+1 by omega,htk2]at hy
     rcases List.mem_append.1 hy with hy|hy
     ·exact hok y hy
     ·rw[zX]at hy;rw[hy];exact hox
  have htj:ps.take nj=ps:=zu (by omega)
  rw[htj]at hB hQ2 hok
  have hall:ps.all (okX P S)=true:=by rw[zZ];exact hok
  have hf5:zbl a0 a1 a2=(BB true (ps.map (zfv P S)),II true (T2 ps.length (com P ps)),0):=by rw[hf0,hf4,hall];rfl
  have hqsl:qs.length=ps.length:=by rw[hQ2,yz,zy]
  have gqs:∀k,k<ps.length→qs.getD k (.slc true 2 (.int .i64 0) [])=.slc true 2 (.int .i64 0) (I (yH P (ps.getD k 0))):=fun k hk=>by
   rw[hQ2,jf]
   congr 2
   rw[zd,List.getElem?_map,ze hk,zd,ze hk]
   rfl
  have Eh:∀(xs:List Int) (y:Int),zv1 (I xs) y=decide (y∈xs):=fun xs y=>by rw[←zpO,zrp,zB];rw[Bool.eq_iff_iff];simp
  have hplen:∀k,k<ps.length→(yH P (ps.getD k 0)).length≤24:=fun k hk=>KN hcl (by have:=hpin k hk;omega) (hpin k hk).2
  have Qh:∀(k:Nat) (y:Int),k<ps.length→zfU (I (yH P (ps.getD k 0))) y:=by
   rw[←zam]
   exact fun k y hk=>⟨⟨_,rfl⟩,by rw[zm];have:=hplen k hk;omega⟩
  clear hag hfx ag
  refine hlp (List V×Int) _ _ _ [2,5,8,9,13] (fun x=>[(2,none,.val (.box 27 (.agg [.slc true 46 (.agg [.slc true 2 (.int .i64 0) []]) [],.slc true 44 (.slc true 2 (.int .i64 0) []) []]))),(5,none,.val (.slc true 2 (.int .i64 0) vp)),(8,none,.val (.box 27 (.agg [.slc true 46 (.agg [.slc false 2 (.int .i64 0) []]) bs,.slc true 44 (.slc true 2 (.int .i64 0) []) x.1]))),(9,none,.val (.slc true 44 (.slc true 2 (.int .i64 0) []) qs)),(13,none,.val (.int .i64 x.2))])
   (fun x=>0≤x.2∧x.2≤m∧x.1=II true (qu (fun a=>qu (com P ps a) ps.length) x.2.toNat)) (fun x=>(m-x.2).toNat) (([],0)) (by subst hL;rfl) ?_ ?_
  ·exact⟨by simp,by simp only;omega,rfl⟩
  rintro⟨ms,i⟩ ⟨i0,i1,hM⟩ hfx ag hag
  simp only at i0 i1 hM
  obtain⟨ni,hni⟩:∃ni:Nat,ni=i.toNat:=⟨_,rfl⟩
  rw[←hni]at hM
  have hml:ms.length=ni:=by rw[hM,yz,yA]
  conv=>cbv
  simp only[zr hL,sQ,hvl3,←hm,←hni]
  refine⟨fun h5=>?_,fun h5=>?_⟩
  ·have hnil:ni<ps.length:=by omega
   refine hlp (List V×Int) _ _ _ [2,5,8,9,13,14,15] (fun x=>[(2,none,.val (.box 27 (.agg [.slc true 46 (.agg [.slc true 2 (.int .i64 0) []]) [],.slc true 44 (.slc true 2 (.int .i64 0) []) []]))),(5,none,.val (.slc true 2 (.int .i64 0) vp)),(8,none,.val (.box 27 (.agg [.slc true 46 (.agg [.slc false 2 (.int .i64 0) []]) bs,.slc true 44 (.slc true 2 (.int .i64 0) []) ms]))),(9,none,.val (.slc true 44 (.slc true 2 (.int .i64 0) []) qs)),(13,none,.val (.int .i64 i)),(14,none,.val (.slc true 2 (.int .i64 0) x.1)),(15,none,.val (.int .i64 x.2))])
    (fun x=>0≤x.2∧x.2≤m∧x.1=I (qu (com P ps ni) x.2.toNat)) (fun x=>(m-x.2).toNat) (([],0)) (by subst hL;rfl) ?_ ?_
   ·exact⟨by simp,by simp only;omega,rfl⟩
   rintro⟨rs,k⟩ ⟨k0,k1,hR⟩ hfx2 ag2 hag2
   simp only at k0 k1 hR
   obtain⟨nk,hnk⟩:∃nk:Nat,nk=k.toNat:=⟨_,rfl⟩
   rw[←hnk]at hR
   have hrl:rs.length=nk:=by rw[hR,zm,yA]
   conv=>cbv
   simp only[zr hL,sQ,hvl3,←hm,←hnk]
   refine⟨fun h6=>?_,fun h6=>?_⟩
   ·have hkl:nk<ps.length:=by omega
    refine hlp (Int×Int) _ _ _ [2,5,8,9,13,14,15,16,17] (fun x=>[(2,none,.val (.box 27 (.agg [.slc true 46 (.agg [.slc true 2 (.int .i64 0) []]) [],.slc true 44 (.slc true 2 (.int .i64 0) []) []]))),(5,none,.val (.slc true 2 (.int .i64 0) vp)),(8,none,.val (.box 27 (.agg [.slc true 46 (.agg [.slc false 2 (.int .i64 0) []]) bs,.slc true 44 (.slc true 2 (.int .i64 0) []) ms]))),(9,none,.val (.slc true 44 (.slc true 2 (.int .i64 0) []) qs)),(13,none,.val (.int .i64 i)),(14,none,.val (.slc true 2 (.int .i64 0) rs)),(15,none,.val (.int .i64 k)),(16,none,.val (.int .i64 x.1)),(17,none,.val (.int .i64 x.2))])
     (fun x=>0≤x.2∧x.2≤24∧(i=k→x.2=0)∧x.1=(shN ((yH P (ps.getD nk 0)).take x.2.toNat) (yH P (ps.getD ni 0)):Nat)) (fun x=>(24-x.2).toNat) ((0,0)) (by subst hL;rfl) ?_ ?_
    ·exact⟨by simp,by simp,fun _=>rfl,by simp[shN]⟩
    rintro⟨s,j⟩ ⟨j0',j1',hjk,hS2⟩ hfx3 ag3 hag3
    simp only at j0' j1' hjk hS2
    conv=>cbv
    simp only[zr hL,sQ,hqsl,←hm,←hnk,←hni,gqs nk hkl,gqs ni hnil,zT,zm,Eh]
    have hpk:=hplen nk hkl
    refine⟨k0,h6,hkl,hkl,fun h7=>⟨i0,h5,hnil,k0,h6,hkl,hkl,j0',h7.1,hkl,by omega,hnil,Qh ni _ hnil,?_⟩,fun h7=>⟨rfl,by simp only[zi,zq];omega,fun z hz=>by(simp only[zX]at hz;subst hz;rfl),?_⟩⟩
    ·have hst:=zzm (b:=yH P (ps.getD ni 0)) (show j.toNat<(yH P (ps.getD nk 0)).length by omega)
     have hsl:=zxK ((yH P (ps.getD nk 0)).take j.toNat) (yH P (ps.getD ni 0))
     rw[zD]at hsl
     have hj1:(j+1).toNat=j.toNat+1:=by omega
     refine⟨fun h8=>?_,fun h8=>?_⟩
     ·rw[if_pos h8]at hst
      rw[zl (n:=s+1) (by omega) (by omega),zl (n:=j+1) (by omega) (by omega)]
      exact hag3 (s+1,j+1) ⟨by simp only;omega,by simp only;omega,fun h9=>absurd h9 h7.2,by simp only;rw[hj1,hst,hS2];simp⟩ (by simp only;omega)
     ·rw[if_neg h8]at hst
      rw[zl (n:=j+1) (by omega) (by omega)]
      exact hag3 (s,j+1) ⟨by simp only;omega,by simp only;omega,fun h9=>absurd h9 h7.2,by simp only;rw[hj1,hst,hS2];simp⟩ (by simp only;omega)
    ·have hsv:s=com P ps ni nk:=by
      by_cases hik:i=k
      ·have h8:=hjk hik
       rw[com,if_pos (by omega),hS2,h8]
       rfl
      ·have h8:(yH P (ps.getD nk 0)).length≤j.toNat:=by
        rcases h7 with h7|h7
        ·omega
        ·exact absurd h7 hik
       have h9:=hpin ni hnil
       have h10:=hpin nk hkl
       rw[com,if_neg (by omega),hS2,zu h8,zzn (zii hcl (by omega) h10.2) (zii hcl (by omega) h9.2)]
     rw[zl (n:=k+1) (by omega) (by omega)]
     refine hag2 (_,k+1) ⟨by simp only;omega,by simp only;omega,?_⟩ (by simp only;omega)
     simp only
     rw[show(k+1).toNat=nk+1 by omega,zbs,←jS,←hR,←hsv]
     rfl
   ·rw[zl (n:=i+1) (by omega) (by omega)]
    refine⟨by simp only[zi,zq];omega,Yf (by simp[V.solid]),?_⟩
    refine hag (_,i+1) ⟨by simp only;omega,by simp only;omega,?_⟩ (by simp only;omega)
    simp only
    rw[show(i+1).toNat=ni+1 by omega,zbs,YK,←hM,zyX,hR,show nk=ps.length by omega]
  ·have hin:ni=ps.length:=by omega
   rw[hr,ZJ,hf5,hM,hB,hin]
   simp only[jh]
   rfl
 ·cases h
end Go.Ax
