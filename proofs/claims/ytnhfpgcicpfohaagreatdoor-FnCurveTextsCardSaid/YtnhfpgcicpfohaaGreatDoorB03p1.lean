import Derived.Test.YtnhfpgcicpfohaaGreatDoorB02p1
import Derived.Test.YtnhfpgcicpfohaaGreatDoorB01p1
import Derived.Test.YtnhfpgcicpfohaaGreatDoorProg
import Derived.Sort.Row
set_option linter.all false
set_option maxRecDepth 100000
set_option maxHeartbeats 4000000
open Bool renaming and_false→zdv
open Int renaming le_refl→yN,toNat_natCast→zV
open List renaming append_assoc→zS,cons_append→zL,getD_eq_getElem?_getD→zd,getElem?_eq_getElem→ze,getElem?_eq_none→zG,getElem_mem→ye,length_append→zk,length_cons→zi,length_nil→zq,length_replicate→zU,length_set→yP,length_singleton→yr,mem_cons→zA,mem_cons_of_mem→zp,mem_iff_getElem→ym,mem_map→yD,mem_singleton→zX,nil_append→qf,not_mem_nil→YS,replicate_append_replicate→je,replicate_succ→yx,take_succ_cons→jO
open Nat renaming add_comm→uO,add_div_right→Jx,add_mod_right→Jw,div_eq_of_lt→zfI,dvd_refl→zfH,gcd_add_mul_right_right→JX,gcd_comm→uN,gcd_self_add_right→Jh,le_of_ble_eq_true→zh,le_refl→zn,mod_eq_of_lt→ug,mul_comm→uf,mul_le_mul_right→qd,sub_zero→Zu
open Option.some renaming injEq→za
open Prod.mk renaming injEq→zb
/-
 Draws:small branches. No conditions but those of the contracts.
-/
namespace Go.Ax
open Go.Proofs
def cpU(o:Int):Nat→Int→Int
 |0,c=>c
 |k+1,c=>if jc c o>1 then cpU o k (c+1)else c
def cpT(c o:Int):Int:=c+(1-c)%o
def cpo(c o:Int):Int:=cpU o ((cpT c o-c).toNat+1) c
theorem zn7{c o:Int}(ho:2≤o):c≤cpT c o∧cpT c o<c+o:=by
 have h1:=Int.emod_nonneg (1-c) (show o≠0 by omega)
 have h2:=Int.emod_lt_of_pos (1-c) (show 0<o by omega)
 rw[cpT];omega
theorem zvD{c o:Int}(hc:1≤c)(ho:2≤o):jc (cpT c o) o=1:=by
 have h0:=(zn7 (c:=c) ho).1
 have h1:cpT c o%o=1:=by
  rw[cpT,Int.add_emod,Int.emod_emod,←Int.add_emod,show c+(1-c)=1 by omega,Int.emod_eq_of_lt (by omega) (by omega)]
 rw[zsP (by omega) (by omega)]
 obtain⟨t,ht⟩:∃t:Nat,cpT c o=t:=⟨(cpT c o).toNat,by omega⟩
 obtain⟨p,hp⟩:∃p:Nat,o=p:=⟨o.toNat,by omega⟩
 rw[ht,hp]at h1
 rw[ht,hp,zV,zV,uN,Nat.gcd_rec]
 have:t%p=1:=by exact_mod_cast h1
 rw[this,Nat.gcd_one_left]
 rfl
theorem zyI(o:Int):∀(k:Nat) (c:Int),c≤cpU o k c∧cpU o k c≤c+k
 |0,c=>by simp[cpU]
 |k+1,c=>by
  have:=zyI o k (c+1)
  simp only[cpU]
  split<;>omega
theorem zyG{c o:Int}(ho:2≤o):c≤cpo c o∧cpo c o≤c+o:=by
 have h1:=zyI o ((cpT c o-c).toNat+1) c
 have h2:=zn7 (c:=c) ho
 rw[cpo];omega
abbrev jl(es:List V)(σ:Int×Int)(n:Int):Int:=jp es σ.1 σ.2 n
abbrev yB(es:List V)(σ:Int×Int)(n:Int):Int×Int:=(jo es σ.1 σ.2 n,jD es σ.1 σ.2 n)
abbrev YB(es:List V)(σ:Int×Int)(l:List Int):Int:=QL es σ.1 σ.2 (I l)
abbrev KO(es:List V)(σ:Int×Int)(l:List Int):Int×Int:=(Js es σ.1 σ.2 (I l),Jr es σ.1 σ.2 (I l))
theorem zaY{es:List V}{σ:Int×Int}{n:Int}(hq:yg es σ.1 σ.2)(hn:1≤n):0≤jl es σ n∧jl es σ n<n:=YA hq hn
theorem jd{es:List V}{σ:Int×Int}{n:Int}(hq:yg es σ.1 σ.2):yg es (yB es σ n).1 (yB es σ n).2:=kX hq
theorem zbN{es:List V}{σ:Int×Int}{l:List Int}(hq:yg es σ.1 σ.2):yg es (KO es σ l).1 (KO es σ l).2:=kX hq
theorem zfb{es:List V}{σ:Int×Int}{l:List Int}(hq:yg es σ.1 σ.2)(hl:l≠[]):YB es σ l∈l:=by
 have h1:1≤(l.length:Int):=by
  cases l with
  |nil=>exact absurd rfl hl
  |cons x l=>simp only[zi];omega
 have h2:=YA (n:=(I l).length) hq (by rw[zm];exact h1)
 rw[YB,QL,zB]
 rw[zm]at h2 ⊢
 have h3:(jp es σ.1 σ.2 l.length).toNat<l.length:=by omega
 rw[zd,ze h3]
 exact ye h3
abbrev SmS:Type:=List (List Int)×Int×Int×Int
def smR(es:List V)(most:Int)(s:SmS):SmS:=
 let σ0:=(s.2.2.1,s.2.2.2)
 let own:=2+jl es σ0 4
 let σ1:=yB es σ0 4
 if most<s.2.1*own then(s.1,s.2.1,σ1)else
 let m:=YB es σ1 [4,8,12]
 let σ2:=KO es σ1 [4,8,12]
 let c0:=1+jl es σ2 m
 let σ3:=yB es σ2 m
 let c1:=cpo c0 own
 let c2:=if s.1.length=0 then cpo (c1+own) own else c1
 (s.1++[[c2,own]],s.2.1*own,σ3)
def smN(es:List V)(most:Int):Nat→SmS→SmS
 |0,s=>s
 |k+1,s=>smN es most k (smR es most s)
structure SmOk (es:List V) (most:Int) (s:SmS) (k:Nat):Prop where
 len:s.1.length+k≤3
 two:∀p∈s.1,∃c o,p=[c,o]∧1≤c∧c≤100∧2≤o∧o≤5
 pr:kz s.1=s.2.1
 n1:1≤s.2.1
 n2:s.2.1≤most
 src:yg es s.2.2.1 s.2.2.2
theorem zzD(l:List (List Int))(c o:Int):kz (l++[[c,o]])=kz l*o:=by
 rw[zij]
 simp[kz]
theorem SmOk.round{es:List V}{most:Int}{s:SmS}{k:Nat}(h:SmOk es most s (k+1)):SmOk es most (smR es most s) k:=by
 obtain⟨ps,n,a,b⟩:=s
 obtain⟨h1,h2,h3,h4,h5,h6⟩:=h
 simp only at h1 h2 h3 h4 h5 h6
 have ho:=zaY (σ:=(a,b)) (n:=4) h6 (by decide)
 have hs:=jd (σ:=(a,b)) (n:=4) h6
 unfold smR
 simp only
 split
 ·exact⟨by simp only;omega,h2,h3,h4,h5,hs⟩
 ·rename_i hm
  have hs2:=zbN (σ:=yB es (a,b) 4) (l:=[4,8,12]) hs
  have hp:=zfb (σ:=yB es (a,b) 4) (l:=[4,8,12]) hs (by simp)
  obtain⟨m,hmm⟩:∃m,m=YB es (yB es (a,b) 4) [4,8,12]:=⟨_,rfl⟩
  rw[←hmm]at hp ⊢
  have hm2:1≤m∧m≤12:=by simp at hp;omega
  have hc:=zaY (σ:=KO es (yB es (a,b) 4) [4,8,12]) (n:=m) hs2 (by omega)
  have hs3:=jd (σ:=KO es (yB es (a,b) 4) [4,8,12]) (n:=m) hs2
  obtain⟨o,hoo⟩:∃o,o=2+jl es (a,b) 4:=⟨_,rfl⟩
  obtain⟨c0,hc0⟩:∃c0,c0=1+jl es (KO es (yB es (a,b) 4) [4,8,12]) m:=⟨_,rfl⟩
  rw[←hoo]at hm ⊢
  rw[←hc0]
  have l1:=zyG (c:=c0) (o:=o) (by omega)
  have l2:=zyG (c:=cpo c0 o+o) (o:=o) (by omega)
  have hno:1*1≤n*o:=Int.mul_le_mul (by omega) (by omega) (by omega) (by omega)
  refine⟨by simp only[zk,zi,zq];omega,fun p hp=>?_,by simp only;rw[zzD,h3],by simp only;omega,by simp only;omega,hs3⟩
  rcases List.mem_append.1 hp with hp|hp
  ·exact h2 p hp
  ·simp only[zX]at hp
   refine⟨_,_,hp,?_⟩
   split<;>omega
theorem SmOk.run{es:List V}{most:Int}:∀{k:Nat} {s:SmS},SmOk es most s k→SmOk es most (smN es most k s) 0
 |0,_,h=>h
 |k+1,_,h=>h.round.run
theorem SmOk.prs{es:List V}{most:Int}{s:SmS}{k:Nat}(h:SmOk es most s k)(hm:most≤64):Prs s.1:=⟨by have:=h.len;omega,h.two,by have:=h.pr;have:=h.n2;omega⟩
abbrev zgQ(es:List V)(σ:Int×Int):List Int×Int×Int:=([YB es σ [1,2,3]],KO es σ [1,2,3])
def smF(es:List V)(a h most term:Int):List Int×Int×Int:=
 let s:=smN es most (1+jl es (a,h) 3).toNat ([],1,yB es (a,h) 3)
 if okT s.1=true then
  if term<(Qj s.1).getD s.1.length 0 then zgQ es s.2.2
  else if jl es s.2.2 12=0 then zgQ es (yB es s.2.2 12)
  else(Qj s.1,yB es s.2.2 12)
 else zgQ es s.2.2
def zj0(es:List V)(a h most term:Int):List V×Int×Int:=(I (smF es a h most term).1,(smF es a h most term).2)
def zmn(es:List V)(a h most _:Int):Prop:=yg es a h∧1≤most∧most≤64
def zrk(f:List V→Int→Int→Int→Int→List V×Int×Int)(q:List V→Int→Int→Int→Int→Prop):kF:=fun
 |[.box 61 (.agg [.slc false 5 (.int .u8 0) a0,.int .i64 a1,.int .u64 a2]),.int .i64 a3,.int .i64 a4]=>some ([q a0 a1 a2 a3 a4],.agg [.slc true 2 (.int .i64 0) (f a0 a1 a2 a3 a4).1],.box 61 (.agg [.slc false 5 (.int .u8 0) a0,.int .i64 (f a0 a1 a2 a3 a4).2.1,.int .u64 (f a0 a1 a2 a3 a4).2.2]))
 |_=>none
theorem zf7:zfF Tryz.prog 52 1000 (zrk zj0 zmn):=by
 intro args ps r y h hp
 unfold zrk at h
 split at h
 ·rename_i a0 a1 a2 a3 a4
  simp only[za,zb]at h
  obtain⟨rfl,rfl,rfl⟩:=h
  obtain⟨hq,m1,m2⟩:zmn a0 a1 a2 a3 a4:=(zo.1 hp).1
  obtain⟨s0,hs0⟩:∃s0:SmS,s0=([],1,yB a0 (a1,a2) 3):=⟨_,rfl⟩
  have hk:=zaY (σ:=(a1,a2)) (n:=3) hq (by decide)
  obtain⟨k0,hk0⟩:∃k0:Int,k0=1+jl a0 (a1,a2) 3:=⟨_,rfl⟩
  obtain⟨sE,hsE⟩:∃sE:SmS,sE=smN a0 a3 k0.toNat s0:=⟨_,rfl⟩
  have ok0:SmOk a0 a3 s0 k0.toNat:=by
   rw[hs0]
   exact⟨by simp only[zq];omega,by simp,rfl,by simp,by simp only;omega,jd (σ:=(a1,a2)) hq⟩
  generalize yU:jp=jL
  generalize yT:jo=jK
  generalize yS:jD=jJ
  generalize qV:zgV=Zc
  generalize ki:QL=Yt
  generalize kh:Js=Ys
  generalize kg:Jr=Yr
  generalize ub:zgU=QS
  generalize YD:jc=zd4
  generalize uW:zhP=zas
  generalize zp2:zn2=zv7
  generalize zdk:zkM=zhU
  refine zhy (T:=tab) (B:=[(67,zdX zd4 zas),(80,ztr zv7 zhU)]) (Bi:=[(26,0,false,zcp jL jK jJ Zc),(31,0,false,zgp Yt Ys Yr QS)]) 0 [2000007832,2000018888,0,1,2,6,7,8,9,10,11,12,13] Tryz.func52 rfl rfl (by kernel_rfl) (zh rfl) mixed yd (by subst yU yT yS qV ki kh kg ub YD uW zp2 zdk;exact(zt zec (zt zho zH))) (by subst yU yT yS qV ki kh kg ub YD uW zp2 zdk;exact(qX uj (qX YM zE))) (by kernel_rfl) rfl rfl zb9 rfl ?_
  intro L lp rr yy hL hr hy hf hlp
  conv=>cbv
  obtain⟨b1,hb1⟩:∃b1,b1=jo a0 a1 a2 3:=⟨_,rfl⟩
  obtain⟨b2,hb2⟩:∃b2,b2=jD a0 a1 a2 3:=⟨_,rfl⟩
  have e0:jL a0 a1 a2 3=k0-1:=by rw[←yU];show jl a0 (a1,a2) 3=_;omega
  have e1:jK a0 a1 a2 3=b1:=by rw[←yT,hb1]
  have e2:jJ a0 a1 a2 3=b2:=by rw[←yS,hb2]
  have Qn:∀a h n,yg a0 a h→Zc a0 a h n:=fun a h n hs=>by rw[←qV];exact hs
  have hs0':s0=([],1,b1,b2):=by rw[hs0,hb1,hb2]
  simp only[zr hL,sQ,true_and,e0,e1,e2,show 1+(k0-1)=k0 by omega,zl (n:=k0) (by omega) (by omega)]
  refine⟨Qn _ _ _ hq,?_⟩
  refine hlp (List V×Int×Int×Int×Int) _ _ _ [0,1,2,6,7,8,9] (fun x=>[(0,none,.val (.box 61 (.agg [.slc false 5 (.int .u8 0) a0,.int .i64 x.2.2.1,.int .u64 x.2.2.2.1]))),(1,none,.val (.int .i64 a3)),(2,none,.val (.int .i64 a4)),(6,none,.val (.box 46 (.agg [.slc true 2 (.int .i64 0) []]))),(7,none,.val (.slc true 44 (.slc true 2 (.int .i64 0) []) x.1)),(8,none,.val (.int .i64 x.2.1)),(9,none,.val (.int .i64 x.2.2.2.2))])
   (fun x=>0≤x.2.2.2.2∧∃ps,x.1=II true ps∧SmOk a0 a3 (ps,x.2.1,x.2.2.1,x.2.2.2.1) x.2.2.2.2.toNat∧smN a0 a3 x.2.2.2.2.toNat (ps,x.2.1,x.2.2.1,x.2.2.2.1)=sE) (fun x=>x.2.2.2.2.toNat) (([],1,b1,b2,k0)) (by subst hL;rfl) ?_ ?_
  ·exact⟨by simp only;omega,[],rfl,by simp only;rw[←hs0'];exact ok0,by simp only;rw[←hs0',hsE]⟩
  rintro⟨es,n,a,h,k⟩ ⟨i0,ps,hes,hok,hsm⟩ hfx ag hag
  simp only at i0 hes hok hsm
  obtain⟨pl,hpl⟩:∃pl:Int,pl=es.length:=⟨_,rfl⟩
  have hpl2:pl=ps.length:=by rw[hpl,hes,yz]
  have hsrc:yg a0 a h:=hok.src
  obtain⟨o,ho⟩:∃o,o=2+jl a0 (a,h) 4:=⟨_,rfl⟩
  obtain⟨A1,hA1⟩:∃A1,A1=jo a0 a h 4:=⟨_,rfl⟩
  obtain⟨H1,hH1⟩:∃H1,H1=jD a0 a h 4:=⟨_,rfl⟩
  obtain⟨m,hm⟩:∃m,m=QL a0 A1 H1 (I [4,8,12]):=⟨_,rfl⟩
  obtain⟨A2,hA2⟩:∃A2,A2=Js a0 A1 H1 (I [4,8,12]):=⟨_,rfl⟩
  obtain⟨H2,hH2⟩:∃H2,H2=Jr a0 A1 H1 (I [4,8,12]):=⟨_,rfl⟩
  obtain⟨c0,hc0⟩:∃c0,c0=1+jp a0 A2 H2 m:=⟨_,rfl⟩
  obtain⟨A3,hA3⟩:∃A3,A3=jo a0 A2 H2 m:=⟨_,rfl⟩
  obtain⟨H3,hH3⟩:∃H3,H3=jD a0 A2 H2 m:=⟨_,rfl⟩
  have hR:smR a0 a3 (ps,n,a,h)=if a3<n*o then(ps,n,A1,H1)else(ps++[[if ps.length=0 then cpo (cpo c0 o+o) o else cpo c0 o,o]],n*o,A3,H3):=by
   subst hA3 hH3 hc0 hA2 hH2 hm hA1 hH1 ho
   rfl
  have o1:=zaY (σ:=(a,h)) (n:=4) hsrc (by decide)
  have s1:yg a0 A1 H1:=by rw[hA1,hH1];exact kX hsrc
  have mp:m∈[4,8,12]:=by rw[hm];exact zfb (σ:=(A1,H1)) (l:=[4,8,12]) s1 (by simp)
  have m12:1≤m∧m≤12:=by simp at mp;omega
  have s2:yg a0 A2 H2:=by rw[hA2,hH2];exact kX s1
  have c1:=YA (n:=m) s2 (by omega)
  have s3:yg a0 A3 H3:=by rw[hA3,hH3];exact kX s2
  have n1:1≤n:=hok.n1
  have n2:n≤a3:=hok.n2
  have no0:n*2≤n*o:=Int.mul_le_mul_of_nonneg_left (by omega) (by omega)
  have no1:n*o≤64*5:=Int.mul_le_mul (by omega) (by omega) (by omega) (by omega)
  have g0:jL a0 a h 4=o-2:=by rw[←yU];show jl a0 (a,h) 4=_;omega
  have g1:jK a0 a h 4=A1:=by rw[←yT,hA1]
  have g2:jJ a0 a h 4=H1:=by rw[←yS,hH1]
  have g3:∀l,l=I [4,8,12]→Yt a0 A1 H1 l=m∧Ys a0 A1 H1 l=A2∧Yr a0 A1 H1 l=H2∧QS a0 A1 H1 l:=by
   intro l hl
   rw[hl,←ki,←kh,←kg,←ub,hm,hA2,hH2]
   exact⟨rfl,rfl,rfl,s1,⟨_,rfl⟩,by simp,by simp⟩
  obtain⟨g4,g5,g6,g7⟩:=g3 (V.frzs (V.frzs [V.int IntKind.i64 4,V.int IntKind.i64 8,V.int IntKind.i64 12])) rfl
  have g8:jL a0 A2 H2 m=c0-1:=by rw[←yU];omega
  have g9:jK a0 A2 H2 m=A3:=by rw[←yT,hA3]
  have g10:jJ a0 A2 H2 m=H3:=by rw[←yS,hH3]
  have Eg:∀x,zd4 x o=jc x o:=fun x=>by rw[←YD]
  have Qa:∀x,zas x o:=fun x=>by rw[←uW];trivial
  have wo:IntKind.wrap .i64 (2+(o-2))=o:=by rw[show 2+(o-2)=o by omega];exact zl (by omega) (by omega)
  have wno:IntKind.wrap .i64 (n*o)=n*o:=zl (by omega) (by omega)
  have wc0:IntKind.wrap .i64 (1+(c0-1))=c0:=by rw[show 1+(c0-1)=c0 by omega];exact zl (by omega) (by omega)
  have hst:0<k→SmOk a0 a3 (smR a0 a3 (ps,n,a,h)) (k-1).toNat∧smN a0 a3 (k-1).toNat (smR a0 a3 (ps,n,a,h))=sE:=by
   intro hk
   have e:k.toNat=(k-1).toNat+1:=by omega
   rw[e]at hok hsm
   exact⟨hok.round,hsm⟩
  have kl:=hok.len
  simp only at kl
  have cT1:=zn7 (c:=c0) (o:=o) (by omega)
  conv=>cbv
  simp only[zr hL,sQ,true_and,←hpl,g0,g1,g2,g4,g5,g6,g7,g8,g9,g10,wo,wno,wc0]
  refine⟨fun h1=>⟨Qn _ _ _ hsrc,fun h2=>?_,fun h2=>⟨Qn _ _ _ s2,?_⟩⟩,fun h1=>?_⟩
  ·rw[zl (n:=k-1) (by omega) (by omega)]
   obtain⟨t1,t2⟩:=hst h1
   rw[hR,if_pos h2]at t1 t2
   exact hag (es,n,A1,H1,k-1) ⟨by simp only;omega,ps,hes,t1,t2⟩ (by simp only;omega)
  ·obtain⟨t1,t2⟩:=hst h1
   rw[hR,if_neg h2]at t1 t2
   refine hlp (Int) _ _ _ [0,1,2,6,7,8,9,10,11] (fun x=>[(0,none,.val (.box 61 (.agg [.slc false 5 (.int .u8 0) a0,.int .i64 A3,.int .u64 H3]))),(1,none,.val (.int .i64 a3)),(2,none,.val (.int .i64 a4)),(6,none,.val (.box 46 (.agg [.slc true 2 (.int .i64 0) []]))),(7,none,.val (.slc true 44 (.slc true 2 (.int .i64 0) []) es)),(8,none,.val (.int .i64 n)),(9,none,.val (.int .i64 k)),(10,none,.val (.int .i64 o)),(11,none,.val (.int .i64 x))])
    (fun x=>c0≤x∧x≤cpT c0 o∧cpU o ((cpT c0 o-x).toNat+1) x=cpo c0 o) (fun x=>(cpT c0 o-x).toNat) (c0) (by subst hL;rfl) ?_ ?_
   ·exact⟨by omega,by omega,rfl⟩
   rintro z ⟨x0,x1,hx⟩ hfx2 ag2 hag2
   conv=>cbv
   simp only[zr hL,sQ,true_and,←hpl,Eg]
   refine⟨Qa _,fun h3=>?_,fun h3=>?_⟩
   ·rw[zl (n:=z+1) (by omega) (by omega)]
    have hne:z≠cpT c0 o:=fun e=>by
     rw[e,zvD (by omega) (by omega)]at h3
     omega
    refine hag2 (z+1) ⟨by omega,by omega,?_⟩ (by omega)
    rw[←hx,show(cpT c0 o-z).toNat=(cpT c0 o-(z+1)).toNat+1 by omega]
    exact(if_pos (show jc z o>1 from h3)).symm
   ·have hx2:cpo c0 o=z:=by
     rw[←hx]
     exact if_neg (show ¬jc z o>1 from h3)
    rw[hx2]at t1 t2
    have wk:IntKind.wrap .i64 (k-1)=k-1:=zl (by omega) (by omega)
    refine⟨fun h4=>?_,fun h4=>?_⟩
    ·have hp0:ps.length=0:=by omega
     rw[if_pos hp0]at t1 t2
     have cT2:=zn7 (c:=z+o) (o:=o) (by omega)
     rw[zl (n:=z+o) (by omega) (by omega)]
     refine hlp (Int) _ _ _ [0,1,2,6,7,8,9,10,11] (fun x=>[(0,none,.val (.box 61 (.agg [.slc false 5 (.int .u8 0) a0,.int .i64 A3,.int .u64 H3]))),(1,none,.val (.int .i64 a3)),(2,none,.val (.int .i64 a4)),(6,none,.val (.box 46 (.agg [.slc true 2 (.int .i64 0) []]))),(7,none,.val (.slc true 44 (.slc true 2 (.int .i64 0) []) es)),(8,none,.val (.int .i64 n)),(9,none,.val (.int .i64 k)),(10,none,.val (.int .i64 o)),(11,none,.val (.int .i64 x))])
      (fun x=>z+o≤x∧x≤cpT (z+o) o∧cpU o ((cpT (z+o) o-x).toNat+1) x=cpo (z+o) o) (fun x=>(cpT (z+o) o-x).toNat) (z+o) (by subst hL;rfl) ?_ ?_
     ·exact⟨by omega,by omega,rfl⟩
     rintro y ⟨y0,y1,hy1⟩ hfx3 ag3 hag3
     conv=>cbv
     simp only[zr hL,sQ,true_and,←hpl,Eg]
     refine⟨Qa _,fun h5=>?_,fun h5=>?_⟩
     ·rw[zl (n:=y+1) (by omega) (by omega)]
      have hne:y≠cpT (z+o) o:=fun e=>by
       rw[e,zvD (by omega) (by omega)]at h5
       omega
      refine hag3 (y+1) ⟨by omega,by omega,?_⟩ (by omega)
      rw[←hy1,show(cpT (z+o) o-y).toNat=(cpT (z+o) o-(y+1)).toNat+1 by omega]
      exact(if_pos (show jc y o>1 from h5)).symm
     ·have hy2:cpo (z+o) o=y:=by
       rw[←hy1]
       exact if_neg (show ¬jc y o>1 from h5)
      rw[hy2]at t1 t2
      simp only[wno,wk]
      (repeat' first|(exact qJ _)|(exact Yf rfl)|(exact kn _)|(apply And.intro)|(intro _))<;>(try first|exact True.intro|omega|rfl|(simp only[zi,zq,zm];omega))
      exact hag (_,n*o,A3,H3,k-1) ⟨by simp only;omega,ps++[[y,o]],by simp only;rw[YK,hes];rfl,t1,t2⟩ (by simp only;omega)
    ·have hp0:¬ps.length=0:=by omega
     rw[if_neg hp0]at t1 t2
     simp only[wno,wk]
     (repeat' first|(exact qJ _)|(exact Yf rfl)|(exact kn _)|(apply And.intro)|(intro _))<;>(try first|exact True.intro|omega|rfl|(simp only[zi,zq,zm];omega))
     exact hag (_,n*o,A3,H3,k-1) ⟨by simp only;omega,ps++[[z,o]],by simp only;rw[YK,hes];rfl,t1,t2⟩ (by simp only;omega)
  ·have hkz:k.toNat=0:=by omega
   rw[hkz]at hsm hok
   have hsm':sE=(ps,n,a,h):=hsm.symm
   have hF:smF a0 a1 a2 a3 a4=if okT ps=true then(if a4<(Qj ps).getD ps.length 0 then zgQ a0 (a,h)else if jl a0 (a,h) 12=0 then zgQ a0 (yB a0 (a,h) 12)else(Qj ps,yB a0 (a,h) 12))else zgQ a0 (a,h):=by
    unfold smF
    simp only
    rw[←hs0,←hk0,←hsE,hsm']
   have hP:Prs ps:=hok.prs (by omega)
   have hfz:V.frzs es=II false ps:=by rw[hes,jg]
   have bl:(Qj ps).length=ps.length+1:=by simp only[Qj,zi,zgB]
   have Qb:zhU (II false ps):=by rw[←zdk];exact⟨ps,rfl,hP⟩
   have Eb:zv7 (II false ps)=if okT ps=true then(I (Qj ps),0)else([],5):=by rw[←zp2,zn2,qC]
   subst yU yT yS qV ki kh kg ub
   rw[hfz,Eb]
   have Qp:∀σ:Int×Int,yg a0 σ.1 σ.2→zgU a0 σ.1 σ.2 (V.frzs (V.frzs [V.int IntKind.i64 1,V.int IntKind.i64 2,V.int IntKind.i64 3])):=fun σ hs=>⟨hs,⟨[1,2,3],rfl⟩,by decide,by decide⟩
   have fin:∀(l:List Int) (A H:Int),smF a0 a1 a2 a3 a4=(l,A,H)→V.agg [V.slc true 2 (.int .i64 0) (I l)]=rr∧V.box 61 (V.agg [.slc false 5 (.int .u8 0) a0,.int .i64 A,.int .u64 H])=yy:=by
    intro l A H e
    rw[hr,hy,zj0,e]
    exact⟨rfl,rfl⟩
   have h50:((5:Int)=0)=False:=eq_false (by decide)
   have pl3:=hP.len
   cases hT:okT ps with
   |false=>
    rw[hT,if_neg (by decide)]at hF
    simp only[Bool.false_eq_true,if_false,h50,false_and,false_imp_iff,not_false_eq_true,true_or,true_imp_iff,and_false,true_and,and_true]
    exact⟨Qb,rfl,Qp (a,h) hsrc,fin [YB a0 (a,h) [1,2,3]] _ _ hF⟩
   |true=>
    rw[hT,if_pos rfl]at hF
    have wl:IntKind.wrap .i64 ((ps.length+1:Nat)-1:Int)=ps.length:=by rw[show((ps.length+1:Nat)-1:Int)=ps.length by omega];exact zl (by omega) (by omega)
    simp only[zr hL,sQ,if_true,zm,bl,wl,zT,zV,true_and,not_true,false_or]
    refine⟨Qb,zhT _,fun _=>by omega,fun _=>by omega,fun _=>by omega,fun h2=>⟨h2,hsrc,fun h3=>?_,fun h3=>?_⟩,fun h2=>⟨fun h3=>?_,fun h3=>absurd h2 h3.1⟩⟩
    ·have h4:jl a0 (a,h) 12=0:=h3.resolve_left h2
     rw[if_neg h2,if_pos h4]at hF
     exact⟨Qp (yB a0 (a,h) 12) (jd hsrc),fin [YB a0 (yB a0 (a,h) 12) [1,2,3]] _ _ hF⟩
    ·rw[if_neg h2,if_neg (show ¬jl a0 (a,h) 12=0 from h3.2)]at hF
     exact fin _ _ _ hF
    ·rw[if_pos h2]at hF
     exact⟨Qp (a,h) hsrc,fin [YB a0 (a,h) [1,2,3]] _ _ hF⟩
 ·cases h
theorem zhe{es:List V}{a h most term:Int}(hq:zmn es a h most term):yg es (smF es a h most term).2.1 (smF es a h most term).2.2∧1≤(smF es a h most term).1.length∧(smF es a h most term).1.length≤4:=by
 obtain⟨hs,m1,m2⟩:=hq
 have hk:=zaY (σ:=(a,h)) (n:=3) hs (by decide)
 have ok0:SmOk es most (([],1,yB es (a,h) 3):SmS) (1+jl es (a,h) 3).toNat:=⟨by simp only[zq];omega,by simp,rfl,by simp,by simp only;omega,jd (σ:=(a,h)) hs⟩
 have hr:=ok0.run
 unfold smF
 simp only
 generalize smN es most (1+jl es (a,h) 3).toNat ([],1,yB es (a,h) 3)=s at hr ⊢
 have h1:=hr.src
 have h2:=hr.len
 have pk:∀σ:Int×Int,yg es σ.1 σ.2→yg es (zgQ es σ).2.1 (zgQ es σ).2.2∧1≤(zgQ es σ).1.length∧(zgQ es σ).1.length≤4:=fun σ hσ=>⟨zbN hσ,by simp,by simp⟩
 split
 ·split
  ·exact pk _ h1
  ·split
   ·exact pk _ (jd h1)
   ·exact⟨jd h1,by simp only[Qj,zi];omega,by simp only[Qj,zi,zgB];omega⟩
 ·exact pk _ h1
end Go.Ax
namespace Go.Ax
open Go.Proofs
def drF(es:List V)(a h:Int):List Int×Int×Int:=
 let σ:=KO es (a,h) [6,12,30,64]
 let s:=smF es σ.1 σ.2 (YB es (a,h) [6,12,30,64]) 400
 if s.1.length=1∧1<s.1.getD 0 0 then
  ([s.1.getD 0 0,W (W (s.1.getD 0 0*W (1+jl es s.2 9))+1)],yB es s.2 9)
 else s
theorem zvx{es:List V}{a h:Int}(hq:yg es a h):yg es (drF es a h).2.1 (drF es a h).2.2∧1≤(drF es a h).1.length∧(drF es a h).1.length≤4:=by
 have hp:=zfb (σ:=(a,h)) (l:=[6,12,30,64]) hq (by simp)
 have h1:=zhe (most:=YB es (a,h) [6,12,30,64]) (term:=400) ⟨zbN (σ:=(a,h)) (l:=[6,12,30,64]) hq,by simp at hp;omega,by simp at hp;omega⟩
 unfold drF
 simp only
 split
 ·exact⟨jd (σ:=(smF es _ _ _ _).2) h1.1,by simp,by simp⟩
 ·exact h1
def zs3(es:List V)(a h:Int):List V×Int×Int:=(I (drF es a h).1,(drF es a h).2)
def zw5(f:List V→Int→Int→List V×Int×Int)(q:List V→Int→Int→Prop):kF:=fun
 |[.box 61 (.agg [.slc false 5 (.int .u8 0) a0,.int .i64 a1,.int .u64 a2])]=>some ([q a0 a1 a2],.agg [.slc true 2 (.int .i64 0) (f a0 a1 a2).1],.box 61 (.agg [.slc false 5 (.int .u8 0) a0,.int .i64 (f a0 a1 a2).2.1,.int .u64 (f a0 a1 a2).2.2]))
 |_=>none
theorem zoG:zfF Tryz.prog 55 1000 (zw5 zs3 yg):=by
 intro args ps r y h hp
 unfold zw5 at h
 split at h
 ·rename_i a0 a1 a2
  simp only[za,zb]at h
  obtain⟨rfl,rfl,rfl⟩:=h
  have hq:yg a0 a1 a2:=(zo.1 hp).1
  obtain⟨m,hm⟩:∃m,m=QL a0 a1 a2 (I [6,12,30,64]):=⟨_,rfl⟩
  obtain⟨A1,hA1⟩:∃A1,A1=Js a0 a1 a2 (I [6,12,30,64]):=⟨_,rfl⟩
  obtain⟨H1,hH1⟩:∃H1,H1=Jr a0 a1 a2 (I [6,12,30,64]):=⟨_,rfl⟩
  obtain⟨S,hS⟩:∃S,S=smF a0 A1 H1 m 400:=⟨_,rfl⟩
  have hF:drF a0 a1 a2=if S.1.length=1∧1<S.1.getD 0 0 then([S.1.getD 0 0,W (W (S.1.getD 0 0*W (1+jl a0 S.2 9))+1)],yB a0 S.2 9)else S:=by
   subst hS hA1 hH1 hm
   rfl
  have mp:m∈[6,12,30,64]:=by rw[hm];exact zfb (σ:=(a1,a2)) (l:=[6,12,30,64]) hq (by simp)
  have s1:yg a0 A1 H1:=by rw[hA1,hH1];exact kX hq
  have qs:zmn a0 A1 H1 m 400:=⟨s1,by simp at mp;omega,by simp at mp;omega⟩
  have hS2:=zhe qs
  rw[←hS]at hS2
  obtain⟨sl,A2,H2⟩:=S
  simp only at hF hS2
  have Es:zj0 a0 A1 H1 m 400=(I sl,A2,H2):=by rw[zj0,←hS]
  obtain⟨bl,hbl⟩:∃bl,bl=I sl:=⟨_,rfl⟩
  obtain⟨n,hn⟩:∃n:Int,n=bl.length:=⟨_,rfl⟩
  have hnl:n=sl.length:=by rw[hn,hbl,zm]
  have gx:∀k,bl.getD k (.int .i64 0)=.int .i64 (sl.getD k 0):=fun k=>by rw[hbl,zT]
  generalize yU:jp=jL
  generalize yT:jo=jK
  generalize yS:jD=jJ
  generalize qV:zgV=Zc
  generalize ki:QL=Yt
  generalize kh:Js=Ys
  generalize kg:Jr=Yr
  generalize ub:zgU=QS
  generalize zfQ:zj0=zt8
  generalize zfN:zmn=zt2
  refine zhy (T:=tab) (B:=[]) (Bi:=[(26,0,false,zcp jL jK jJ Zc),(31,0,false,zgp Yt Ys Yr QS),(52,1000,false,zrk zt8 zt2)]) 0 [2000001806,2000003033,2000003800,2000003820,2000003821,2000003822,2000003823,2000003824,2000003825,2000003826,2000003827,2000003829,2000003999,0,2,3] Tryz.func55 rfl rfl (by kernel_rfl) (zh rfl) mixed yd (by subst yU yT yS qV ki kh kg ub zfQ zfN;exact zH) (by subst yU yT yS qV ki kh kg ub zfQ zfN;exact(qX uj (qX YM (qX zf7 zE)))) (by kernel_rfl) rfl rfl zb9 rfl ?_
  intro L lp rr yy hL hr hy hf hlp
  conv=>cbv
  subst yU yT yS qV ki kh kg ub zfQ zfN
  have p0:QL a0 a1 a2 (V.frzs (V.frzs [V.int IntKind.i64 6,V.int IntKind.i64 12,V.int IntKind.i64 30,V.int IntKind.i64 64]))=m:=hm.symm
  have p1:Js a0 a1 a2 (V.frzs (V.frzs [V.int IntKind.i64 6,V.int IntKind.i64 12,V.int IntKind.i64 30,V.int IntKind.i64 64]))=A1:=hA1.symm
  have p2:Jr a0 a1 a2 (V.frzs (V.frzs [V.int IntKind.i64 6,V.int IntKind.i64 12,V.int IntKind.i64 30,V.int IntKind.i64 64]))=H1:=hH1.symm
  have p3:zgU a0 a1 a2 (V.frzs (V.frzs [V.int IntKind.i64 6,V.int IntKind.i64 12,V.int IntKind.i64 30,V.int IntKind.i64 64])):=⟨hq,⟨[6,12,30,64],rfl⟩,by decide,by decide⟩
  simp only[p0,p1,p2,Es,←hbl,gx,zr hL,sQ,true_and,←hn]
  have fin:∀(l:List Int) (A H:Int),drF a0 a1 a2=(l,A,H)→V.agg [V.slc true 2 (.int .i64 0) (I l)]=rr∧V.box 61 (V.agg [.slc false 5 (.int .u8 0) a0,.int .i64 A,.int .u64 H])=yy:=by
   intro l A H e
   rw[hr,hy,zs3,e]
   exact⟨rfl,rfl⟩
  refine⟨p3,qs,fun _=>by omega,fun _=>by omega,fun _=>by omega,fun _=>trivial,fun h=>?_,fun h=>?_⟩
  ·rw[if_pos ⟨by omega,h.2⟩]at hF
   exact⟨by omega,by omega,by omega,by omega,by omega,by omega,hS2.1,fin [_,_] _ _ hF⟩
  ·rw[if_neg (fun h'=>by omega)]at hF
   rw[hbl]
   exact fin _ _ _ hF
 ·cases h
def spF(es:List V)(a h:Int):List Int×Int×Int:=
 let s:=drF es a h
 let v:=jl es s.2 30
 let σ:=yB es s.2 30
 if v=0 then(s.1.set 0 (YB es σ [0,-1,65,2]),KO es σ [0,-1,65,2])
 else if v=1 then(s.1++[YB es σ [2001,1999,5,1099511627776]],KO es σ [2001,1999,5,1099511627776])
 else if v=2 then(s.1.drop 1,σ)else(s.1,σ)
theorem zBa{es:List V}{a h:Int}(hq:yg es a h):yg es (spF es a h).2.1 (spF es a h).2.2∧(spF es a h).1.length≤5:=by
 obtain⟨h1,h2,h3⟩:=zvx hq
 have h4:=jd (σ:=(drF es a h).2) (n:=30) h1
 unfold spF
 simp only
 split
 ·exact⟨zbN (σ:=yB es (drF es a h).2 30) h4,by simp only[yP];omega⟩
 ·split
  ·exact⟨zbN (σ:=yB es (drF es a h).2 30) h4,by simp only[zk,zi,zq];omega⟩
  ·split
   ·refine⟨h4,?_⟩
    simp only[List.length_drop]
    omega
   ·refine⟨h4,?_⟩
    show(drF es a h).1.length≤5
    omega
def zsY(es:List V)(a h:Int):List V×Int×Int:=(I (spF es a h).1,(spF es a h).2)
def zw4(f:List V→Int→Int→List V×Int×Int)(q:List V→Int→Int→Prop):kF:=fun
 |[.box 61 (.agg [.slc false 5 (.int .u8 0) a0,.int .i64 a1,.int .u64 a2])]=>some ([q a0 a1 a2],.agg [.slc false 2 (.int .i64 0) (f a0 a1 a2).1],.box 61 (.agg [.slc false 5 (.int .u8 0) a0,.int .i64 (f a0 a1 a2).2.1,.int .u64 (f a0 a1 a2).2.2]))
 |_=>none
theorem znk:zfF Tryz.prog 32 1000 (zw4 zsY yg):=by
 intro args ps r y h hp
 unfold zw4 at h
 split at h
 ·rename_i a0 a1 a2
  simp only[za,zb]at h
  obtain⟨rfl,rfl,rfl⟩:=h
  have hq:yg a0 a1 a2:=(zo.1 hp).1
  obtain⟨S,hS⟩:∃S,S=drF a0 a1 a2:=⟨_,rfl⟩
  have hS2:=zvx hq
  rw[←hS]at hS2
  have hF:spF a0 a1 a2=if jl a0 S.2 30=0 then(S.1.set 0 (YB a0 (yB a0 S.2 30) [0,-1,65,2]),KO a0 (yB a0 S.2 30) [0,-1,65,2])
   else if jl a0 S.2 30=1 then(S.1++[YB a0 (yB a0 S.2 30) [2001,1999,5,1099511627776]],KO a0 (yB a0 S.2 30) [2001,1999,5,1099511627776])
   else if jl a0 S.2 30=2 then(S.1.drop 1,yB a0 S.2 30)else(S.1,yB a0 S.2 30):=by
   subst hS
   rfl
  obtain⟨sl,A2,H2⟩:=S
  simp only at hF hS2
  have Es:zs3 a0 a1 a2=(I sl,A2,H2):=by rw[zs3,←hS]
  obtain⟨bl,hbl⟩:∃bl,bl=I sl:=⟨_,rfl⟩
  obtain⟨n,hn⟩:∃n:Int,n=bl.length:=⟨_,rfl⟩
  have hnl:n=sl.length:=by rw[hn,hbl,zm]
  have gx:∀k,bl.getD k (.int .i64 0)=.int .i64 (sl.getD k 0):=fun k=>by rw[hbl,zT]
  generalize yU:jp=jL
  generalize yT:jo=jK
  generalize yS:jD=jJ
  generalize qV:zgV=Zc
  generalize ki:QL=Yt
  generalize kh:Js=Ys
  generalize kg:Jr=Yr
  generalize ub:zgU=QS
  generalize ztY:zs3=zDg
  generalize ZP:yg=zb1
  refine zhy (T:=tab) (B:=[]) (Bi:=[(26,0,false,zcp jL jK jJ Zc),(31,0,false,zgp Yt Ys Yr QS),(55,1000,false,zw5 zDg zb1)]) 0 [1000008003,1000009003,2000004800,2000004810,2000004811,2000004813,2000004814,2000004999,2000006800,2000006818,2000006819,2000006821,2000006822,2000006999,0,2,3,7] Tryz.func32 rfl rfl (by kernel_rfl) (zh rfl) mixed yd (by subst yU yT yS qV ki kh kg ub ztY ZP;exact zH) (by subst yU yT yS qV ki kh kg ub ztY ZP;exact(qX uj (qX YM (qX zoG zE)))) (by kernel_rfl) rfl rfl zb9 rfl ?_
  intro L lp rr yy hL hr hy hf hlp
  conv=>cbv
  subst yU yT yS qV ki kh kg ub ztY ZP
  simp only[Es,zr hL,sQ,true_and]
  have s0:yg a0 A2 H2:=hS2.1
  have s1:yg a0 (jo a0 A2 H2 30) (jD a0 A2 H2 30):=kX s0
  have n1:1≤sl.length:=hS2.2.1
  have n2:sl.length≤4:=hS2.2.2
  have fin:∀(l:List Int) (A H:Int),spF a0 a1 a2=(l,A,H)→V.agg [V.slc false 2 (.int .i64 0) (I l)]=rr∧V.box 61 (V.agg [.slc false 5 (.int .u8 0) a0,.int .i64 A,.int .u64 H])=yy:=by
   intro l A H e
   rw[hr,hy,zsY,e]
   exact⟨rfl,rfl⟩
  have hF':spF a0 a1 a2=if jp a0 A2 H2 30=0 then(sl.set 0 (YB a0 (yB a0 (A2,H2) 30) [0,-1,65,2]),KO a0 (yB a0 (A2,H2) 30) [0,-1,65,2])
   else if jp a0 A2 H2 30=1 then(sl++[YB a0 (yB a0 (A2,H2) 30) [2001,1999,5,1099511627776]],KO a0 (yB a0 (A2,H2) 30) [2001,1999,5,1099511627776])
   else if jp a0 A2 H2 30=2 then(sl.drop 1,yB a0 (A2,H2) 30)else(sl,yB a0 (A2,H2) 30):=hF
  refine⟨hq,s0,fun h=>?_,fun h=>⟨fun h'=>?_,fun h'=>⟨fun h2=>?_,fun h2=>?_⟩⟩⟩
  ·rw[if_pos h]at hF'
   refine⟨⟨s1,⟨[0,-1,65,2],rfl⟩,by decide,by decide⟩,by omega,by omega,by omega,?_⟩
   have e:V.frzs ((I sl).set 0 (V.int .i64 (YB a0 (yB a0 (A2,H2) 30) [0,-1,65,2])))=I (sl.set 0 (YB a0 (yB a0 (A2,H2) 30) [0,-1,65,2])):=by rw[Jz,zN]
   have f:=fin _ _ _ hF'
   rw[←e]at f
   exact f
  ·rw[if_neg h,if_pos h']at hF'
   refine⟨⟨s1,⟨[2001,1999,5,1099511627776],rfl⟩,by decide,by decide⟩,rfl,?_,qJ _,?_⟩
   ·rw[yr];omega
   have e:V.frzs (I sl++[V.int .i64 (YB a0 (yB a0 (A2,H2) 30) [2001,1999,5,1099511627776])])=I (sl++[YB a0 (yB a0 (A2,H2) 30) [2001,1999,5,1099511627776]]):=by
    rw[show[V.int .i64 (YB a0 (yB a0 (A2,H2) 30) [2001,1999,5,1099511627776])]=I [YB a0 (yB a0 (A2,H2) 30) [2001,1999,5,1099511627776]]from rfl,jS,zN]
   have f:=fin _ _ _ hF'
   rw[←e]at f
   exact f
  ·rw[if_neg h,if_neg h',if_pos h2]at hF'
   refine⟨by omega,by omega,by omega,?_⟩
   have f:=fin _ _ _ hF'
   rw[zV,show List.take sl.length (I sl)=I sl from List.take_of_length_le (by rw[zm];exact zn _),zDb]
   rw[zN]
   exact f
  ·rw[if_neg h,if_neg h',if_neg h2]at hF'
   exact fin _ _ _ hF'
 ·cases h
end Go.Ax
namespace Go.Ax
open Go.Proofs
def zaX(P S:List Int)(i:Nat):Bool:=if i=0 then decide (P.getD 0 0= -1)&&decide (S.getD 0 0= -1)else
 (decide (0≤P.getD i 0)&&decide (P.getD i 0<i))&&(decide (S.getD i 0= -1)||decide (0≤S.getD i 0)&&(decide (S.getD i 0=P.getD (P.getD i 0).toNat 0)||decide (S.getD i 0=S.getD (P.getD i 0).toNat 0)))
def zdE(P S:List Int)(i j:Nat):Bool:= !(decide (0≤S.getD i 0)&&decide (S.getD i 0=S.getD j 0)&&decide (P.getD i 0=P.getD j 0))
structure ClP (P S Q:List Int):Prop where
 n1:1≤P.length
 n24:P.length≤24
 sl:S.length=P.length
 ql:Q.length=P.length
 q:∀i,i<P.length→-100000≤Q.getD i 0∧Q.getD i 0≤100000
 place:∀i,i<P.length→zaX P S i=true
 diff:∀i j,i<P.length→j<i→zdE P S i j=true
noncomputable def zoZ(P S Q:List Int):Bool:= @decide (ClP P S Q) (Classical.propDecidable _)
theorem zc6{P S Q:List Int}:zoZ P S Q=true↔ClP P S Q:=by
 rw[zoZ]
 exact@decide_eq_true_iff _ (Classical.propDecidable _)
theorem zBw{P S Q:List Int}(h:¬ClP P S Q):zoZ P S Q=false:=by
 cases hb:zoZ P S Q with
 |false=>rfl
 |true=>exact absurd (zc6.1 hb) h
theorem zfa{P S:List Int}:zaX P S 0=true↔P.getD 0 0= -1∧S.getD 0 0= -1:=by
 rw[zaX,if_pos rfl]
 simp only[Bool.and_eq_true,decide_eq_true_eq]
theorem ze9{P S:List Int}{i:Nat}(hi:i≠0):zaX P S i=true↔(0≤P.getD i 0∧P.getD i 0<i)∧(S.getD i 0= -1∨0≤S.getD i 0∧(S.getD i 0=P.getD (P.getD i 0).toNat 0∨S.getD i 0=S.getD (P.getD i 0).toNat 0)):=by
 rw[zaX,if_neg hi]
 simp only[Bool.and_eq_true,Bool.or_eq_true,decide_eq_true_eq]
theorem zqp{P S:List Int}{i:Nat}(h:∀t,t≤i→zaX P S t=true):∀t,t≤i→-1≤P.getD t 0∧P.getD t 0<t∧-1≤S.getD t 0∧(0<t→S.getD t 0<t):=by
 intro t
 induction t using Nat.strongRecOn with
 |ind t ih=>
  intro ht
  have hp:=h t ht
  by_cases h0:t=0
  ·subst h0
   obtain⟨h1,h2⟩:=zfa.1 hp
   omega
  ·obtain⟨⟨h1,h2⟩,h3⟩:=(ze9 h0).1 hp
   have h4:=ih (P.getD t 0).toNat (by omega) (by omega)
   refine⟨by omega,h2,by omega,fun _=>?_⟩
   rcases h3 with h3|⟨_,h3|h3⟩
   ·omega
   ·omega
   ·by_cases h5:(P.getD t 0).toNat=0
    ·have:=zfa.1 (h 0 (by omega))
     rw[h5]at h3
     omega
    ·have:=h4.2.2.2 (by omega)
     omega
def zeG(f:List V→List V→List V→Bool)(q:List V→List V→List V→Prop):zQ:=fun
 |[.agg [.slc false 2 (.int .i64 0) a0,.slc false 2 (.int .i64 0) a1,.slc false 2 (.int .i64 0) a2]]=>some ([q a0 a1 a2],.bool (f a0 a1 a2))
 |_=>none
noncomputable def ku(a b c:List V):Bool:=zoZ (yV a) (yV b) (yV c)
def q_K(a b c:List V):Prop:=IsI a∧IsI b∧IsI c
def zpk(f:List V→List V→List V→Int→Int→Bool)(q:List V→List V→List V→Int→Int→Prop):zQ:=fun
 |[.agg [.slc false 2 (.int .i64 0) a0,.slc false 2 (.int .i64 0) a1,.slc false 2 (.int .i64 0) a2],.int .i64 a3,.int .i64 a4]=>some ([q a0 a1 a2 a3 a4],.bool (f a0 a1 a2 a3 a4))
 |_=>none
def zs1(a b _:List V)(i j:Int):Bool:=decide (0≤j)&&(decide ((yV a).getD i.toNat 0=j)||decide ((yV b).getD i.toNat 0=j))
def zzw(a b c:List V)(i _:Int):Prop:=IsI a∧IsI b∧IsI c∧0≤i∧i<a.length∧b.length=a.length
theorem zoD:yZ Tryz.prog 89 (zpk zs1 zzw):=by
 intro args ps r h hp
 unfold zpk at h
 split at h
 ·rename_i a0 a1 a2 i j
  simp only[za,zb]at h
  obtain⟨rfl,rfl⟩:=h
  obtain⟨⟨P,hP⟩,⟨S,hS⟩,⟨Q,hQ⟩,i0,i1,hsl⟩:zzw a0 a1 a2 i j:=(zo.1 hp).1
  have g0:V.frzs a0=a0:=by rw[hP,zN]
  have g1:V.frzs a1=a1:=by rw[hS,zN]
  have g2:V.frzs a2=a2:=by rw[hQ,zN]
  have hpl:a0.length=P.length:=by rw[hP,zm]
  have hsl2:a1.length=P.length:=by rw[hsl,hpl]
  have gp:∀k,a0.getD k (.int .i64 0)=.int .i64 (P.getD k 0):=fun k=>by rw[hP,zT]
  have gs:∀k,a1.getD k (.int .i64 0)=.int .i64 (S.getD k 0):=fun k=>by rw[hS,zT]
  have hf0:zs1 a0 a1 a2 i j=(decide (0≤j)&&(decide (P.getD i.toNat 0=j)||decide (S.getD i.toNat 0=j))):=by rw[zs1,hP,hS,zB,zB]
  rw[hpl]at i1
  refine zO (T:=tab) (B:=[]) (Bi:=[]) [0,1,2,3,6] Tryz.func89 rfl rfl (by kernel_rfl) (zh rfl) mixed yd (by exact zH) (by exact zE) (by kernel_rfl) ?_
  intro L lp rr hL hr hf hlp
  conv=>cbv
  simp only[zr hL,sQ,g0,g1,g2,hpl,hsl2,gp,gs]
  refine⟨fun _=>i0,fun _=>i1,fun _=>trivial,fun _=>i0,fun _=>i1,fun _=>trivial,fun h2 h3=>⟨h2,h3⟩,?_⟩
  rw[hr,hf0]
  rfl
 ·cases h
theorem zcd:yZ Tryz.prog 71 (zeG ku q_K):=by
 intro args ps r h hp
 unfold zeG at h
 split at h
 ·rename_i a0 a1 a2
  simp only[za,zb]at h
  obtain⟨rfl,rfl⟩:=h
  have hq:q_K a0 a1 a2:=(zo.1 hp).1
  obtain⟨⟨P,hP⟩,⟨S,hS⟩,⟨Q,hQ⟩⟩:=id hq
  have g0:V.frzs a0=a0:=by rw[hP,zN]
  have g1:V.frzs a1=a1:=by rw[hS,zN]
  have g2:V.frzs a2=a2:=by rw[hQ,zN]
  have hpl:a0.length=P.length:=by rw[hP,zm]
  have hsl:a1.length=S.length:=by rw[hS,zm]
  have hql:a2.length=Q.length:=by rw[hQ,zm]
  have gp:∀k,a0.getD k (.int .i64 0)=.int .i64 (P.getD k 0):=fun k=>by rw[hP,zT]
  have gs:∀k,a1.getD k (.int .i64 0)=.int .i64 (S.getD k 0):=fun k=>by rw[hS,zT]
  have gq:∀k,a2.getD k (.int .i64 0)=.int .i64 (Q.getD k 0):=fun k=>by rw[hQ,zT]
  have hf0:ku a0 a1 a2=zoZ P S Q:=by rw[ku,hP,hS,hQ,zB,zB,zB]
  have hno:¬ClP P S Q→ku a0 a1 a2=false:=fun h=>by rw[hf0,zBw h]
  obtain⟨n,hn⟩:∃n:Int,n=P.length:=⟨_,rfl⟩
  generalize yO:yE=jP
  generalize ztX:zs1=zy3
  generalize ztT:zzw=zDd
  refine zO (T:=tab) (B:=[(43,jI jP),(89,zpk zy3 zDd)]) (Bi:=[]) [0,1,2,3,4,5] Tryz.func71 rfl rfl (by kernel_rfl) (zh rfl) mixed yd (by subst yO ztX ztT;exact(zt JD (zt zoD zH))) (by subst yO ztX ztT;exact zE) (by kernel_rfl) ?_
  intro L lp rr hL hr hf hlp
  have Er:∀x a b,jP x a b=(decide (a≤x)&&decide (x≤b)):=fun x a b=>by rw[←yO,yE]
  have En:∀i j,zy3 a0 a1 a2 i j=(decide (0≤j)&&(decide (P.getD i.toNat 0=j)||decide (S.getD i.toNat 0=j))):=fun i j=>by rw[←ztX,zs1,hP,hS,zB,zB]
  conv=>cbv
  simp only[zr hL,sQ,g0,g1,g2,hpl,hsl,hql,←hn,Er,gp,gs]
  refine⟨fun h=>by omega,fun h=>by omega,fun _=>trivial,fun h=>by omega,fun h=>by omega,fun _=>trivial,fun h=>?_,fun h=>?_⟩
  ·rw[hr,hno (fun c=>?_)]
   have c1:=c.n1
   have c2:=c.n24
   have c3:=c.sl
   have c4:=c.ql
   have c5:=zfa.1 (c.place 0 (by omega))
   omega
  obtain⟨⟨⟨⟨⟨n1,n24⟩,hsl2⟩,hql2⟩,hp0⟩,hs0⟩:=h
  have hSl:S.length=P.length:=by omega
  have hQl:Q.length=P.length:=by omega
  refine hlp (Int) _ _ _ [1,3,4] (fun x=>[(1,none,.val (.box 77 (.agg [.slc false 2 (.int .i64 0) a0,.slc false 2 (.int .i64 0) a1,.slc false 2 (.int .i64 0) a2]))),(3,none,.val (.int .i64 n)),(4,none,.val (.int .i64 x))])
   (fun x=>0≤x∧x≤n∧(∀i,i<x.toNat→-100000≤Q.getD i 0∧Q.getD i 0≤100000)∧(∀i,i<x.toNat→zaX P S i=true)∧(∀i j,i<x.toNat→j<i→zdE P S i j=true)) (fun x=>(n-x).toNat) (0) (by subst hL;rfl) ?_ ?_
  ·exact⟨by omega,by omega,fun i hi=>by simp at hi,fun i hi=>by simp at hi,fun i j hi=>by simp at hi⟩
  intro i ⟨i0,i1,hqr,hpl1,hdf1⟩ hfx ag hag
  conv=>cbv
  simp only[zr hL,sQ,g0,g1,g2,hpl,hsl,hql,←hn,Er,En,gp,gs,gq]
  refine⟨fun h2=>?_,fun h2=>?_⟩
  ·have hwi:IntKind.wrap .i64 (i+1)=i+1:=zl (by omega) (by omega)
   have hag':(-100000≤Q.getD i.toNat 0∧Q.getD i.toNat 0≤100000)→zaX P S i.toNat=true→(∀j,j<i.toNat→zdE P S i.toNat j=true)→(0≤i+1∧i+1≤n∧(∀t,t<(i+1).toNat→-100000≤Q.getD t 0∧Q.getD t 0≤100000)∧(∀t,t<(i+1).toNat→zaX P S t=true)∧(∀t j,t<(i+1).toNat→j<t→zdE P S t j=true)):=fun u1 u2 u3=>by
    refine⟨by omega,by omega,fun t ht=>?_,fun t ht=>?_,fun t j ht hj=>?_⟩
    ·by_cases e:t=i.toNat
     ·rw[e];exact u1
     ·exact hqr t (by omega)
    ·by_cases e:t=i.toNat
     ·rw[e];exact u2
     ·exact hpl1 t (by omega)
    ·by_cases e:t=i.toNat
     ·rw[e];exact u3 j (by omega)
     ·exact hdf1 t j (by omega) hj
   rw[hwi]
   refine⟨i0,by omega,fun h3=>?_,fun h3=>⟨fun h4=>?_,fun h4=>⟨i0,h2,?_⟩⟩⟩
   ·rw[hr,hno (fun c=>by have:=c.q i.toNat (by omega);omega)]
   ·have e0:i.toNat=0:=by omega
    refine hag (i+1) (hag' h3 ?_ ?_) (by omega)
    ·rw[e0];exact zfa.2 ⟨hp0,hs0⟩
    ·intro j hj;omega
   have hwm:IntKind.wrap .i64 (i-1)=i-1:=zl (by omega) (by omega)
   have hi0:¬i.toNat=0:=by omega
   rw[hwm]
   obtain⟨p,hpp⟩:∃p,p=P.getD i.toNat 0:=⟨_,rfl⟩
   obtain⟨s,hss⟩:∃s,s=S.getD i.toNat 0:=⟨_,rfl⟩
   have hpb:= @ze9 P S i.toNat hi0
   rw[←hpp,←hss]at hpb
   rw[←hpp,←hss]
   have hlow:ClP P S Q→(0≤p∧p<i)∧s<i∧(s= -1∨0≤s∧(s=P.getD p.toNat 0∨s=S.getD p.toNat 0)):=fun c=>by
    have:=zqp (i:=i.toNat) (fun t ht=>c.place t (by omega)) i.toNat (zn _)
    rw[←hpp,←hss]at this
    have h5:=hpb.1 (c.place i.toNat (by omega))
    exact⟨by omega,by omega,h5.2⟩
   have hdneg:s= -1→∀j,zdE P S i.toNat j=true:=fun h j=>by
    rw[zdE,←hss,decide_eq_false (show ¬0≤s by omega)];rfl
   refine⟨fun h5=>?_,fun h5=>⟨i0,by omega,fun h6=>?_,fun h6=>?_⟩⟩
   ·rw[hr,hno (fun c=>by have:=hlow c;omega)]
   ·exact hag (i+1) (hag' h3 (hpb.2 ⟨by omega,.inl h6⟩) (fun j _=>hdneg h6 j)) (by omega)
   refine⟨i0,by omega,fun _=>i0,fun _=>h2,fun _=>trivial,fun _=>i0,fun _=>by omega,fun _=>trivial,fun _=>?_,fun h7=>?_,fun h7=>?_⟩
   ·rw[←ztT];exact⟨hq.1,hq.2.1,hq.2.2,h5.1,by omega,by omega⟩
   ·rw[hr,hno (fun c=>?_)]
    obtain⟨c1,c2,c3⟩:=hlow c
    rcases c3 with c3|⟨c3,c4⟩
    ·exact h6 c3
    ·rcases h7 with(h7|h7)|h7|h7
     ·exact h7 c3
     ·omega
     ·exact h7 c3
     ·rcases c4 with c4|c4
      ·exact h7.1 c4.symm
      ·exact h7.2 c4.symm
   ·obtain⟨⟨s0,s1⟩,_,s3⟩:=h7
    have hpl2:zaX P S i.toNat=true:=hpb.2 ⟨by omega,.inr ⟨s0,s3.imp Eq.symm Eq.symm⟩⟩
    refine hlp (Int) _ _ _ [1,3,4,5] (fun x=>[(1,none,.val (.box 77 (.agg [.slc false 2 (.int .i64 0) a0,.slc false 2 (.int .i64 0) a1,.slc false 2 (.int .i64 0) a2]))),(3,none,.val (.int .i64 n)),(4,none,.val (.int .i64 i)),(5,none,.val (.int .i64 x))])
     (fun x=>1≤x∧x≤i∧∀j,j<x.toNat→zdE P S i.toNat j=true) (fun x=>(i-x).toNat) (1) (by subst hL;rfl) ?_ ?_
    ·refine⟨by omega,by omega,fun j hj=>?_⟩
     have:j=0:=by omega
     subst this
     rw[zdE,hs0,←hss,decide_eq_false (show ¬s= -1 by omega)]
     cases decide (0≤s)<;>rfl
    intro j ⟨j0,j1,hdj⟩ hfx2 ag2 hag2
    conv=>cbv
    simp only[zr hL,sQ,g0,g1,g2,hpl,hsl,hql,←hn,gp,gs]
    rw[←hpp,←hss]
    refine⟨fun h8=>?_,fun h8=>?_⟩
    ·have j0':0≤j:=by omega
     refine⟨j0',by omega,i0,h2,fun _=>j0',fun _=>by omega,fun _=>trivial,fun _=>i0,fun _=>by omega,fun _=>trivial,fun h9=>?_,fun h9=>?_⟩
     ·rw[hr,hno (fun c=>?_)]
      have:=c.diff i.toNat j.toNat (by omega) (by omega)
      rw[zdE,←hss,←hpp,decide_eq_true s0,decide_eq_true h9.2.symm,decide_eq_true h9.1.symm]at this
      cases this
     ·rw[zl (n:=j+1) (by omega) (by omega)]
      refine hag2 (j+1) ⟨by omega,by omega,fun t ht=>?_⟩ (by omega)
      rw[yj j0']at ht
      by_cases htj:t=j.toNat
      ·rw[htj,zdE,←hss,←hpp]
       rcases h9 with h9|h9
       ·rw[decide_eq_false (show ¬p=P.getD j.toNat 0 from fun e=>h9 e.symm),zdv];rfl
       ·rw[decide_eq_false (show ¬s=S.getD j.toNat 0 from fun e=>h9 e.symm),zdv];rfl
      ·exact hdj t (by omega)
    ·rw[hwi]
     exact hag (i+1) (hag' h3 hpl2 (fun t ht=>hdj t (by omega))) (by omega)
  ·have hcl:ClP P S Q:=⟨by omega,by omega,hSl,hQl,fun k hk=>hqr k (by omega),fun k hk=>hpl1 k (by omega),fun k j hk hj=>hdf1 k j (by omega) hj⟩
   rw[hr,hf0,zc6.2 hcl]
 ·cases h
end Go.Ax
namespace Go.Ax
open Go.Proofs
abbrev PtS:Type:=List Int×List Int×Int×Int
def ptD(es:List V)(P S:List Int)(σ:Int×Int):Int×Int×Int×Int:=
 let l:=[1,1,2,(P.length:Int)]
 let m:=min (P.length:Int) (YB es σ l)
 let par:=(P.length:Int)-1-jl es (KO es σ l) m
 let τ:=yB es (KO es σ l) m
 if jl es τ 2=0 then
  if 0≤S.getD par.toNat 0 then(par,if jl es (yB es τ 2) 2=0 then S.getD par.toNat 0 else P.getD par.toNat 0,yB es (yB es τ 2) 2)
  else(par,P.getD par.toNat 0,yB es τ 2)
 else(par,-1,yB es τ 2)
def ptC(P S:List Int)(par s:Int):Nat→Int
 |0=>s
 |j+1=>if 0≤ptC P S par s j∧P.getD (j+1) 0=par∧S.getD (j+1) 0=ptC P S par s j then-1 else ptC P S par s j
def ptR(es:List V)(x:PtS):PtS:=
 let d:=ptD es x.1 x.2.1 x.2.2
 (x.1++[d.1],x.2.1++[ptC x.1 x.2.1 d.1 d.2.1 (x.1.length-1)],d.2.2)
def ptN(es:List V):Nat→PtS→PtS
 |0,x=>x
 |k+1,x=>ptN es k (ptR es x)
def ptF(es:List V)(σ:Int×Int)(most:Int):PtS:=ptN es (jl es σ most).toNat ([-1],[-1],yB es σ most)
structure PtOk (es:List V) (x:PtS) (k:Nat):Prop where
 n1:1≤x.1.length
 n:x.1.length+k≤24
 sl:x.2.1.length=x.1.length
 src:yg es x.2.2.1 x.2.2.2
theorem zCB{es:List V}{P S:List Int}{σ:Int×Int}(hq:yg es σ.1 σ.2)(hn:1≤P.length):0≤(ptD es P S σ).1∧(ptD es P S σ).1<P.length∧yg es (ptD es P S σ).2.2.1 (ptD es P S σ).2.2.2:=by
 have hp:=zfb (σ:=σ) (l:=[1,1,2,(P.length:Int)]) hq (by simp)
 have h1:=zbN (σ:=σ) (l:=[1,1,2,(P.length:Int)]) hq
 have h2:1≤min (P.length:Int) (YB es σ [1,1,2,(P.length:Int)]):=by simp at hp;omega
 have h3:=zaY (σ:=KO es σ [1,1,2,(P.length:Int)]) h1 h2
 have h4:=jd (σ:=KO es σ [1,1,2,(P.length:Int)]) (n:=min (P.length:Int) (YB es σ [1,1,2,(P.length:Int)])) h1
 have h5:=jd (σ:=yB es (KO es σ [1,1,2,(P.length:Int)]) (min (P.length:Int) (YB es σ [1,1,2,(P.length:Int)]))) (n:=2) h4
 have h6:=jd (σ:=yB es (yB es (KO es σ [1,1,2,(P.length:Int)]) (min (P.length:Int) (YB es σ [1,1,2,(P.length:Int)]))) 2) (n:=2) h5
 unfold ptD
 simp only
 split
 ·split
  ·exact⟨by simp only;omega,by simp only;omega,h6⟩
  ·exact⟨by simp only;omega,by simp only;omega,h5⟩
 ·exact⟨by simp only;omega,by simp only;omega,h5⟩
theorem PtOk.round{es:List V}{x:PtS}{k:Nat}(h:PtOk es x (k+1)):PtOk es (ptR es x) k:=by
 obtain⟨h1,h2,h3,h4⟩:=h
 have h5:=zCB (S:=x.2.1) (σ:=x.2.2) h4 h1
 refine⟨?_,?_,?_,h5.2.2⟩<;>simp only[ptR,zk,zi,zq]<;>omega
theorem PtOk.run{es:List V}:∀{k:Nat} {x:PtS},PtOk es x k→PtOk es (ptN es k x) 0
 |0,_,h=>h
 |_+1,_,h=>h.round.run
theorem zxW{es:List V}{σ:Int×Int}{most:Int}(hq:yg es σ.1 σ.2)(h1:1≤most)(h2:most≤24):PtOk es (ptF es σ most) 0:=by
 have h3:=zaY (σ:=σ) hq h1
 exact PtOk.run ⟨by simp,by simp;omega,rfl,jd (σ:=σ) hq⟩
def zrn(es:List V)(a h m:Int):List V×List V×List V×Int×Int:=
 (I (ptF es (a,h) m).1,I (ptF es (a,h) m).2.1,I (List.replicate (ptF es (a,h) m).1.length 0),(ptF es (a,h) m).2.2)
def zwz(es:List V)(a h m:Int):Prop:=yg es a h∧1≤m∧m≤24
def zsK(f:List V→Int→Int→Int→List V×List V×List V×Int×Int)(q:List V→Int→Int→Int→Prop):kF:=fun
 |[.box 61 (.agg [.slc false 5 (.int .u8 0) a0,.int .i64 a1,.int .u64 a2]),.int .i64 a3]=>some ([q a0 a1 a2 a3],.agg [.slc true 2 (.int .i64 0) (f a0 a1 a2 a3).1,.slc true 2 (.int .i64 0) (f a0 a1 a2 a3).2.1,.slc true 2 (.int .i64 0) (f a0 a1 a2 a3).2.2.1],.box 61 (.agg [.slc false 5 (.int .u8 0) a0,.int .i64 (f a0 a1 a2 a3).2.2.2.1,.int .u64 (f a0 a1 a2 a3).2.2.2.2]))
 |_=>none
theorem zme:zfF Tryz.prog 49 1000 (zsK zrn zwz):=by
 intro args ps r y h hp
 unfold zsK at h
 split at h
 ·rename_i a0 a1 a2 a3
  simp only[za,zb]at h
  obtain⟨rfl,rfl,rfl⟩:=h
  obtain⟨hq,m1,m2⟩:zwz a0 a1 a2 a3:=(zo.1 hp).1
  obtain⟨k0,hk0⟩:∃k0:Int,k0=jl a0 (a1,a2) a3:=⟨_,rfl⟩
  have hk:=zaY (σ:=(a1,a2)) (n:=a3) hq m1
  rw[←hk0]at hk
  obtain⟨E,hE⟩:∃E,E=ptF a0 (a1,a2) a3:=⟨_,rfl⟩
  generalize yU:jp=jL
  generalize yT:jo=jK
  generalize yS:jD=jJ
  generalize qV:zgV=Zc
  generalize ki:QL=Yt
  generalize kh:Js=Ys
  generalize kg:Jr=Yr
  generalize ub:zgU=QS
  refine zhy (T:=tab) (B:=[]) (Bi:=[(26,0,false,zcp jL jK jJ Zc),(31,0,false,zgp Yt Ys Yr QS)]) 0 [2000006831,0,1,4,5,6,7,8,9,10] Tryz.func49 rfl rfl (by kernel_rfl) (zh rfl) mixed yd (by subst yU yT yS qV ki kh kg ub;exact zH) (by subst yU yT yS qV ki kh kg ub;exact(qX uj (qX YM zE))) (by kernel_rfl) rfl rfl zb9 rfl ?_
  intro L lp rr yy hL hr hy hf hlp
  conv=>cbv
  obtain⟨b1,hb1⟩:∃b1,b1=jo a0 a1 a2 a3:=⟨_,rfl⟩
  obtain⟨b2,hb2⟩:∃b2,b2=jD a0 a1 a2 a3:=⟨_,rfl⟩
  have e0:jL a0 a1 a2 a3=k0:=by rw[←yU,hk0]
  have e1:jK a0 a1 a2 a3=b1:=by rw[←yT,hb1]
  have e2:jJ a0 a1 a2 a3=b2:=by rw[←yS,hb2]
  have Qn:∀a h n,yg a0 a h→Zc a0 a h n:=fun a h n hs=>by rw[←qV];exact hs
  have ok0:PtOk a0 ([-1],[-1],b1,b2) k0.toNat:=⟨by simp,by simp;omega,rfl,by rw[hb1,hb2];exact kX hq⟩
  have hE0:ptN a0 k0.toNat ([-1],[-1],b1,b2)=E:=by rw[hE,hb1,hb2,hk0];rfl
  simp only[zr hL,sQ,true_and,e0,e1,e2]
  refine⟨Qn _ _ _ hq,?_⟩
  refine hlp (List V×List V×List V×Int×Int×Int) _ _ _ [0,4,5,6] (fun x=>[(0,none,.val (.box 61 (.agg [.slc false 5 (.int .u8 0) a0,.int .i64 x.2.2.2.1,.int .u64 x.2.2.2.2.1]))),(4,none,.val (.box 77 (.agg [.slc true 2 (.int .i64 0) [],.slc true 2 (.int .i64 0) [],.slc true 2 (.int .i64 0) []]))),(5,none,.val (.box 77 (.agg [.slc true 2 (.int .i64 0) x.1,.slc true 2 (.int .i64 0) x.2.1,.slc true 2 (.int .i64 0) x.2.2.1]))),(6,none,.val (.int .i64 x.2.2.2.2.2))])
   (fun x=>0≤x.2.2.2.2.2∧∃P S:List Int,x.1=I P∧x.2.1=I S∧x.2.2.1=I (List.replicate P.length 0)∧PtOk a0 (P,S,x.2.2.2.1,x.2.2.2.2.1) x.2.2.2.2.2.toNat∧ptN a0 x.2.2.2.2.2.toNat (P,S,x.2.2.2.1,x.2.2.2.2.1)=E) (fun x=>x.2.2.2.2.2.toNat) ((I [-1],I [-1],I [0],b1,b2,k0)) (by subst hL;rfl) ?_ ?_
  ·exact⟨by simp only;omega,[-1],[-1],rfl,rfl,rfl,ok0,hE0⟩
  rintro⟨vp,vs,vw,a,h,k⟩ ⟨i0,P,S,hP,hS,hW,hok,hN⟩ hfx ag hag
  simp only at i0 hP hS hW hok hN
  have hsrc:yg a0 a h:=hok.src
  have hn1:=hok.n1
  have hn24:=hok.n
  have hsl:=hok.sl
  simp only at hsrc hn1 hn24 hsl
  obtain⟨il,hil⟩:∃il:Int,il=P.length:=⟨_,rfl⟩
  have hvl:vp.length=P.length:=by rw[hP,zm]
  have hsl2:vs.length=P.length:=by rw[hS,zm,hsl]
  have hwl:vw.length=P.length:=by rw[hW,zm,zU]
  have gP:∀k,vp.getD k (.int .i64 0)=.int .i64 (P.getD k 0):=fun k=>by rw[hP,zT]
  have gS:∀k,vs.getD k (.int .i64 0)=.int .i64 (S.getD k 0):=fun k=>by rw[hS,zT]
  obtain⟨m,hm⟩:∃m,m=QL a0 a h (I [1,1,2,il]):=⟨_,rfl⟩
  obtain⟨A1,hA1⟩:∃A1,A1=Js a0 a h (I [1,1,2,il]):=⟨_,rfl⟩
  obtain⟨H1,hH1⟩:∃H1,H1=Jr a0 a h (I [1,1,2,il]):=⟨_,rfl⟩
  obtain⟨mi,hmi⟩:∃mi,mi=min il m:=⟨_,rfl⟩
  obtain⟨par,hpar⟩:∃par,par=il-1-jp a0 A1 H1 mi:=⟨_,rfl⟩
  obtain⟨A2,hA2⟩:∃A2,A2=jo a0 A1 H1 mi:=⟨_,rfl⟩
  obtain⟨H2,hH2⟩:∃H2,H2=jD a0 A1 H1 mi:=⟨_,rfl⟩
  obtain⟨u,hu⟩:∃u,u=jp a0 A2 H2 2:=⟨_,rfl⟩
  obtain⟨A3,hA3⟩:∃A3,A3=jo a0 A2 H2 2:=⟨_,rfl⟩
  obtain⟨H3,hH3⟩:∃H3,H3=jD a0 A2 H2 2:=⟨_,rfl⟩
  obtain⟨v,hv⟩:∃v,v=jp a0 A3 H3 2:=⟨_,rfl⟩
  obtain⟨A4,hA4⟩:∃A4,A4=jo a0 A3 H3 2:=⟨_,rfl⟩
  obtain⟨H4,hH4⟩:∃H4,H4=jD a0 A3 H3 2:=⟨_,rfl⟩
  have hD:ptD a0 P S (a,h)=if u=0 then(if 0≤S.getD par.toNat 0 then(par,if v=0 then S.getD par.toNat 0 else P.getD par.toNat 0,A4,H4)else(par,P.getD par.toNat 0,A3,H3))else(par,-1,A3,H3):=by
   subst hH4 hA4 hv hH3 hA3 hu hH2 hA2 hpar hmi hH1 hA1 hm hil
   rfl
  have mp:m∈[1,1,2,il]:=by rw[hm];exact zfb (σ:=(a,h)) (l:=[1,1,2,il]) hsrc (by simp)
  have s1:yg a0 A1 H1:=by rw[hA1,hH1];exact kX hsrc
  have m1:1≤mi:=by simp at mp;omega
  have d1:=YA (n:=mi) s1 m1
  have s2:yg a0 A2 H2:=by rw[hA2,hH2];exact kX s1
  have s3:yg a0 A3 H3:=by rw[hA3,hH3];exact kX s2
  have s4:yg a0 A4 H4:=by rw[hA4,hH4];exact kX s3
  have g3:∀l,l=I [1,1,2,il]→Yt a0 a h l=m∧Ys a0 a h l=A1∧Yr a0 a h l=H1∧QS a0 a h l:=by
   intro l hl
   rw[hl,←ki,←kh,←kg,←ub,hm,hA1,hH1]
   exact⟨rfl,rfl,rfl,hsrc,⟨_,rfl⟩,by simp,by simp⟩
  obtain⟨g4,g5,g6,g7⟩:=g3 (V.frzs (V.frzs [V.int IntKind.i64 1,V.int IntKind.i64 1,V.int IntKind.i64 2,V.int IntKind.i64 il])) rfl
  have g8:jL a0 A1 H1 mi=il-1-par:=by rw[←yU];omega
  have g9:jK a0 A1 H1 mi=A2:=by rw[←yT,hA2]
  have g10:jJ a0 A1 H1 mi=H2:=by rw[←yS,hH2]
  have g11:jL a0 A2 H2 2=u:=by rw[←yU,hu]
  have g12:jK a0 A2 H2 2=A3:=by rw[←yT,hA3]
  have g13:jJ a0 A2 H2 2=H3:=by rw[←yS,hH3]
  have g14:jL a0 A3 H3 2=v:=by rw[←yU,hv]
  have g15:jK a0 A3 H3 2=A4:=by rw[←yT,hA4]
  have g16:jJ a0 A3 H3 2=H4:=by rw[←yS,hH4]
  have wi:IntKind.wrap .i64 (il-1)=il-1:=zl (by omega) (by omega)
  have wp:IntKind.wrap .i64 (il-1-(il-1-par))=par:=by rw[show il-1-(il-1-par)=par by omega];exact zl (by omega) (by omega)
  conv=>cbv
  simp only[zr hL,sQ,true_and,hvl,hsl2,hwl,←hil,g4,g5,g6,g7,←hmi,g8,g9,g10,g11,g12,g13,g14,g15,g16,wi,wp,gP,gS]
  have hR:∀sec A H,ptD a0 P S (a,h)=(par,sec,A,H)→0<k→PtOk a0 (P++[par],S++[ptC P S par sec (P.length-1)],A,H) (k-1).toNat∧ptN a0 (k-1).toNat (P++[par],S++[ptC P S par sec (P.length-1)],A,H)=E:=by
   intro sec A H e hk
   have e2:k.toNat=(k-1).toNat+1:=by omega
   have e3:ptR a0 (P,S,a,h)=(P++[par],S++[ptC P S par sec (P.length-1)],A,H):=by simp only[ptR,e]
   rw[e2]at hok hN
   rw[←e3]
   exact⟨hok.round,hN⟩
  have wk:IntKind.wrap .i64 (k-1)=k-1:=zl (by omega) (by omega)
  refine⟨fun hk=>⟨Qn _ _ _ s1,Qn _ _ _ s2,fun u0=>⟨by omega,by omega,by omega,by omega,by omega,by omega,fun sp=>⟨sp,Qn _ _ _ s3,fun v0=>⟨by omega,by omega,by omega,?a⟩,fun v0=>?b⟩,fun sp=>⟨fun hh=>absurd hh.1 sp,fun _=>?c⟩⟩,fun u0=>?d⟩,fun hk=>?e⟩
  case' a=>
   have hD5:ptD a0 P S (a,h)=(par,S.getD par.toNat 0,A4,H4):=by rw[hD,if_pos u0,if_pos sp,if_pos v0.2]
   obtain⟨sec,hsec⟩:∃sec,sec=S.getD par.toNat 0:=⟨_,rfl⟩
   obtain⟨A5,hA5⟩:∃A5,A5=A4:=⟨_,rfl⟩
   obtain⟨H5,hH5⟩:∃H5,H5=H4:=⟨_,rfl⟩
   rw[←hsec,←hA5,←hH5]at hD5 ⊢
  case' b=>
   have hD5:ptD a0 P S (a,h)=(par,P.getD par.toNat 0,A4,H4):=by rw[hD,if_pos u0,if_pos sp,if_neg (by omega)]
   obtain⟨sec,hsec⟩:∃sec,sec=P.getD par.toNat 0:=⟨_,rfl⟩
   obtain⟨A5,hA5⟩:∃A5,A5=A4:=⟨_,rfl⟩
   obtain⟨H5,hH5⟩:∃H5,H5=H4:=⟨_,rfl⟩
   rw[←hsec,←hA5,←hH5]at hD5 ⊢
  case' c=>
   have hD5:ptD a0 P S (a,h)=(par,P.getD par.toNat 0,A3,H3):=by rw[hD,if_pos u0,if_neg sp]
   obtain⟨sec,hsec⟩:∃sec,sec=P.getD par.toNat 0:=⟨_,rfl⟩
   obtain⟨A5,hA5⟩:∃A5,A5=A3:=⟨_,rfl⟩
   obtain⟨H5,hH5⟩:∃H5,H5=H3:=⟨_,rfl⟩
   rw[←hsec,←hA5,←hH5]at hD5 ⊢
  case' d=>
   have hD5:ptD a0 P S (a,h)=(par,-1,A3,H3):=by rw[hD,if_neg u0]
   obtain⟨sec,hsec⟩:∃sec:Int,sec= -1:=⟨_,rfl⟩
   obtain⟨A5,hA5⟩:∃A5,A5=A3:=⟨_,rfl⟩
   obtain⟨H5,hH5⟩:∃H5,H5=H3:=⟨_,rfl⟩
   rw[←hsec]at hD5
   rw[←hA5,←hH5]at hD5 ⊢
  case e=>
   have hk0:k.toNat=0:=by omega
   rw[hk0]at hN
   rw[hr,hy,zrn,←hE,←hN,hP,hS,hW]
   exact⟨rfl,rfl⟩
  all_goals
   clear hN hok hE0 ok0 e0 e1 e2 g3 g4 g5 g6 g7 g8 g9 g10 g11 g12 g13 g14 g15 g16 hD hm hA1 hH1 hmi hpar hA2 hH2 hu hA3 hH3 hv hA4 hH4 mp s1 m1 d1 s2 s3 s4 hE hb1 hb2 hk0 hq Qn wi wp hA5 hH5
   refine hlp (Int×Int) _ _ _ [0,4,5,6,7,8,9,10] (fun x=>[(0,none,.val (.box 61 (.agg [.slc false 5 (.int .u8 0) a0,.int .i64 A5,.int .u64 H5]))),(4,none,.val (.box 77 (.agg [.slc true 2 (.int .i64 0) [],.slc true 2 (.int .i64 0) [],.slc true 2 (.int .i64 0) []]))),(5,none,.val (.box 77 (.agg [.slc true 2 (.int .i64 0) vp,.slc true 2 (.int .i64 0) vs,.slc true 2 (.int .i64 0) vw]))),(6,none,.val (.int .i64 k)),(7,none,.val (.int .i64 il)),(8,none,.val (.int .i64 par)),(9,none,.val (.int .i64 x.1)),(10,none,.val (.int .i64 x.2))])
    (fun x=>1≤x.2∧x.2≤il∧x.1=ptC P S par sec (x.2-1).toNat) (fun x=>(il-x.2).toNat) ((sec,1)) (by subst hL;first|rfl|(rw[hsec];rfl)) ?_ ?_
   ·exact⟨by simp,by simp only;omega,rfl⟩
   rintro⟨sx,j⟩ ⟨j1,j2,hJ⟩ hfx2 ag2 hag2
   simp only at j1 j2 hJ
   have wj:IntKind.wrap .i64 (j+1)=j+1:=zl (by omega) (by omega)
   have hst:ptC P S par sec (j+1-1).toNat=if 0≤sx∧P.getD j.toNat 0=par∧S.getD j.toNat 0=sx then-1 else sx:=by
    rw[show(j+1-1).toNat=(j-1).toNat+1 by omega,ptC,←hJ,show(j-1).toNat+1=j.toNat by omega]
   conv=>cbv
   simp only[zr hL,sQ,true_and,hvl,hsl2,hwl,gP,gS,wj,wk]
   refine⟨fun h2=>⟨fun _=>by omega,fun _=>by omega,fun _=>by omega,fun _=>trivial,fun _=>by omega,fun _=>by omega,fun _=>by omega,fun _=>trivial,fun h3=>?_,fun h3=>?_⟩,fun h2=>?_⟩
   ·refine hag2 (-1,j+1) ⟨by simp only;omega,by simp only;omega,?_⟩ (by simp only;omega)
    simp only
    rw[hst,if_pos ⟨h3.1.1,h3.1.2,h3.2⟩]
   ·refine hag2 (sx,j+1) ⟨by simp only;omega,by simp only;omega,?_⟩ (by simp only;omega)
    simp only
    rw[hst,if_neg (fun h4=>by
     rcases h3 with(h3|h3)|h3
     ·exact h3 h4.1
     ·exact h3 h4.2.1
     ·exact h3 h4.2.2)]
   ·obtain⟨t1,t2⟩:=hR sec A5 H5 hD5 hk
    rw[show(j-1).toNat=P.length-1 by omega]at hJ
    rw[←hJ]at t1 t2
    refine⟨rfl,by simp only[zi,zq];omega,qJ _,rfl,by simp only[zi,zq];omega,qJ _,rfl,by simp only[zi,zq];omega,qJ _,?_⟩
    refine hag (_,_,_,A5,H5,k-1) ⟨by simp only;omega,_,_,?_,?_,?_,t1,t2⟩ (by simp only;omega)
    ·simp only
     rw[hP,←jS]
     rfl
    ·simp only
     rw[hS,←jS]
     rfl
    ·simp only
     rw[hW,zk,yr,List.replicate_succ',←jS]
     rfl
 ·cases h
end Go.Ax
namespace Go.Ax
open Go.Proofs
inductive Cn (es:List (List Int)):Int→Int→Prop
 |refl (u:Int):Cn es u u
 |tail {u v w:Int} (h:Cn es u v) (hw:w∈zso es v):Cn es u w
end Go.Ax
namespace Go.Ax
open Go.Proofs
structure Bfs (n:Nat) (es:List (List Int)) (root:Int) (ord par:List Int) (i k:Nat):Prop where
 nd:ord.Nodup
 inr:∀x∈ord,0≤x∧x<n
 pl:par.length=n
 ne:0<ord.length
 hd:ord.getD 0 0=root
 rp:gI par root= -1
 tree:∀t,0<t→t<ord.length→∃s,s<t∧s≤i∧gI par (ord.getD t 0)=ord.getD s 0∧ord.getD t 0∈zso es (ord.getD s 0)∧(s=i→ord.getD t 0∈(zso es (ord.getD i 0)).take k)
 done:∀t,t<i→∀x∈zso es (ord.getD t 0),x∈ord
 cur:∀x∈(zso es (ord.getD i 0)).take k,x∈ord
 ile:i≤ord.length
theorem zmy{l:List Int}{t:Nat}(h:t<l.length):l.getD t 0∈l:=by
 rw[zd,ze h];exact ye _
theorem zvk{l:List Int}{k:Nat}(h:k<l.length):l[k]=l.getD k 0:=by
 rw[zd,ze h];rfl
theorem zCJ{l:List Int}{x:Int}(h:x∈l):∃t,t<l.length∧l.getD t 0=x:=by
 obtain⟨t,ht,rfl⟩:=ym.1 h
 exact⟨t,ht,by rw[zd,ze ht];rfl⟩
theorem zqt:∀{n:Nat} (l:List Int),l.Nodup→(∀x∈l,0≤x∧x<n)→l.length≤n
 |0,l,_,hl=>by
  cases l with
  |nil=>simp
  |cons x l=>have:=hl x (by simp);omega
 |n+1,l,hn,hl=>by
  have h1:=zqt (n:=n) (l.filter fun x=>x !=(n:Int)) (hn.filter _) (fun x hx=>by
   have h2:=List.mem_filter.1 hx
   have h3:=hl x h2.1
   have h4:x≠n:=by simpa using h2.2
   omega)
  have h2:∀l:List Int,l.Nodup→l.length≤(l.filter fun x=>x !=(n:Int)).length+1:=by
   intro l
   induction l with
   |nil=>simp
   |cons y l ih=>
    intro hy
    have hy2:=List.nodup_cons.1 hy
    have ih2:=ih hy2.2
    by_cases hyn:y=n
    ·have h3:(l.filter fun x=>x !=(n:Int))=l:=by
      rw[List.filter_eq_self]
      intro a ha
      have:a≠n:=fun h=>hy2.1 (by rw[hyn,←h];exact ha)
      simpa using this
     rw[List.filter_cons,hyn]
     simp[h3]
    ·rw[List.filter_cons]
     simp[hyn]
     omega
  have h3:=h2 l hn
  omega
end Go.Ax
namespace Go.Ax
open Go.Proofs
end Go.Ax
namespace Go.Ax
open Go.Proofs
theorem zh5{α:Type}(f:Nat→α){n i:Nat}(x:α)(h:i<n):(qu f n).set i x=qu (fun t=>if t=i then x else f t) n:=by
 apply List.ext_getElem?
 intro j
 rw[List.getElem?_set]
 by_cases hj:j<n
 ·rw[ur _ _ _ hj,ur _ _ _ hj]
  by_cases h1:i=j
  ·rw[if_pos h1,if_pos (by rw[yA];exact h),if_pos h1.symm]
  ·rw[if_neg h1,if_neg (Ne.symm h1)]
 ·rw[if_neg (by omega),zG (by rw[yA];omega),zG (by rw[yA];omega)]
def T2(n:Nat)(f:Nat→Nat→Int):List (List Int):=qu (fun i=>qu (f i) n) n
theorem zfE(n:Nat)(f:Nat→Nat→Int):(T2 n f).length=n:=yA _ _
theorem zfD{n i:Nat}(f:Nat→Nat→Int)(h:i<n):(T2 n f).getD i []=qu (f i) n:=uA _ _ _ _ h
theorem ztQ{n i k:Nat}(f:Nat→Nat→Int)(h:i<n)(h2:k<n):((T2 n f).getD i []).getD k 0=f i k:=by rw[zfD f h,uA _ _ _ _ h2]
theorem zdf{n:Nat}{f g:Nat→Nat→Int}(h:∀i k,i<n→k<n→f i k=g i k):T2 n f=T2 n g:=qQ fun i hi=>qQ fun k hk=>h i k hi hk
theorem zyU{n i k:Nat}{f g:Nat→Nat→Int}{v:Int}(h:i<n)(h2:k<n)(hv:v=g i k)(hg:∀a b,a<n→b<n→(a≠i∨b≠k)→g a b=f a b):(T2 n f).set i (((T2 n f).getD i []).set k v)=T2 n g:=by
 rw[zfD f h,zh5 _ _ h2,T2,zh5 _ _ h]
 refine qQ fun a ha=>?_
 by_cases e:a=i
 ·subst e
  rw[if_pos rfl]
  refine qQ fun b hb=>?_
  by_cases e2:b=k
  ·subst e2;rw[if_pos rfl,hv]
  ·rw[if_neg e2,hg a b ha hb (.inr e2)]
 ·rw[if_neg e]
  exact qQ fun b hb=>(hg a b ha hb (.inl e)).symm
theorem zB3(n:Nat):List.replicate n (List.replicate n (0:Int))=T2 n fun _ _=>0:=by
 rw[eq_comm,List.eq_replicate_iff]
 refine⟨yA _ _,fun b hb=>?_⟩
 simp only[T2,qu,yD,List.mem_range]at hb
 obtain⟨x,hx,rfl⟩:=hb
 rw[List.eq_replicate_iff]
 exact⟨by simp,by simp⟩
end Go.Ax
namespace Go.Ax
open Go.Proofs
end Go.Ax
namespace Go.Proofs
end Go.Proofs
namespace Go.Ax
open Go.Proofs Go.Sort Go.RowKit
end Go.Ax
namespace Go.Ax
open Go.Proofs Go.Sort Go.RowKit
end Go.Ax
namespace Go.Ax
open Go.Proofs
end Go.Ax
namespace Go.Ax
open Go.Proofs
end Go.Ax
namespace Go.Ax
open Go.Proofs
theorem ClP.low{P S Q:List Int}(h:ClP P S Q){i:Nat}(hi:i<P.length): -1≤P.getD i 0∧P.getD i 0<i∧-1≤S.getD i 0∧(0<i→S.getD i 0<i)∧(0<i→0≤P.getD i 0)∧(i=0→P.getD i 0= -1∧S.getD i 0= -1):=by
 obtain⟨h1,h2,h3,h4⟩:=zqp (i:=i) (fun t ht=>h.place t (by omega)) i (zn _)
 refine⟨h1,h2,h3,h4,fun h0=>?_,fun h0=>?_⟩
 ·exact((ze9 (by omega)).1 (h.place i hi)).1.1
 ·subst h0;exact zfa.1 (h.place 0 hi)
def zee(a b c:List V):Prop:=q_K a b c∧ClP (yV a) (yV b) (yV c)
theorem zuZ{a b c:List V}(h:q_K a b c)(h2:ku a b c=true):zee a b c:=⟨h,zc6.1 h2⟩
def zkO(P S:List Int)(i:Nat):List Int:=if i=0 then[]else(if 0≤S.getD i 0 then[S.getD i 0]else[])++[P.getD i 0]
def cpx(P S:List Int)(k n:Nat):List (List Int):=qu (fun i=>if i<k then zkO P S i else[]) n
def zxk(f:List V→List V→List V→List V)(q:List V→List V→List V→Prop):zQ:=fun
 |[.agg [.slc false 2 (.int .i64 0) a0,.slc false 2 (.int .i64 0) a1,.slc false 2 (.int .i64 0) a2]]=>some ([q a0 a1 a2],.slc true 44 (.slc true 2 (.int .i64 0) []) (f a0 a1 a2))
 |_=>none
theorem zx8{P S Q:List Int}(h:ClP P S Q){k b:Nat}(hk:k<P.length):(b:Int)∈zkO P S k↔P.getD k 0=b∨S.getD k 0=b:=by
 obtain⟨l1,l2,l3,l4,l5,l6⟩:=h.low hk
 rw[zkO]
 by_cases h0:k=0
 ·rw[if_pos h0]
  obtain⟨h1,h2⟩:=l6 h0
  simp only[YS,false_iff]
  omega
 ·rw[if_neg h0]
  by_cases h1:0≤S.getD k 0
  ·rw[if_pos h1]
   simp only[zL,qf,zA,YS,or_false]
   omega
  ·rw[if_neg h1]
   simp only[qf,zA,YS,or_false]
   omega
end Go.Ax
namespace Go.Ax
open Go.Proofs
def zma(o:List Int)(p x:Int):List Int:=o.set p.toNat (W (o.getD p.toNat 0+x))
def zl9(P S:List Int):Nat→List Int→List Int
 |0,o=>o
 |n+1,o=>
  let o1:=zma o (P.getD (n+1) 0) (o.getD (n+1) 0)
  zl9 P S n (if 0≤S.getD (n+1) 0 then zma o1 (S.getD (n+1) 0) (o1.getD (n+1) 0)else o1)
def zl8(P S:List Int)(i:Nat):List Int:=zl9 P S i ((List.replicate P.length 0).set i 1)
theorem zzk(o:List Int)(p x:Int):(zma o p x).length=o.length:=yP
theorem zrO(P S:List Int):∀(n:Nat) (o:List Int),(zl9 P S n o).length=o.length
 |0,_=>rfl
 |n+1,o=>by
  rw[zl9,zrO P S n]
  split<;>simp only[zzk]
def ztA(f:List V→List V→List V→Int→List V)(q:List V→List V→List V→Int→Prop):zQ:=fun
 |[.agg [.slc false 2 (.int .i64 0) a0,.slc false 2 (.int .i64 0) a1,.slc false 2 (.int .i64 0) a2],.int .i64 a3]=>some ([q a0 a1 a2 a3],.slc true 2 (.int .i64 0) (f a0 a1 a2 a3))
 |_=>none
def znX(a b _:List V)(i:Int):List V:=I (zl8 (yV a) (yV b) i.toNat)
def zwx(a b c:List V)(i:Int):Prop:=zee a b c∧0≤i∧i<a.length
theorem zmd:yZ Tryz.prog 72 (ztA znX zwx):=by
 intro args ps r h hp
 unfold ztA at h
 split at h
 ·rename_i a0 a1 a2 a3
  simp only[za,zb]at h
  obtain⟨rfl,rfl⟩:=h
  obtain⟨hqv,i0,i1⟩:zwx a0 a1 a2 a3:=(zo.1 hp).1
  obtain⟨⟨⟨P,hP⟩,⟨S,hS⟩,⟨Q,hQ⟩⟩,hcl⟩:=id hqv
  rw[hP,hS,hQ,zB,zB,zB]at hcl
  have hpl:a0.length=P.length:=by rw[hP,zm]
  have hsl:a1.length=P.length:=by rw[hS,zm,hcl.sl]
  have gp:∀k,a0.getD k (.int .i64 0)=.int .i64 (P.getD k 0):=fun k=>by rw[hP,zT]
  have gs:∀k,a1.getD k (.int .i64 0)=.int .i64 (S.getD k 0):=fun k=>by rw[hS,zT]
  have hf0:znX a0 a1 a2 a3=I (zl8 P S a3.toNat):=by rw[znX,hP,hS,zB,zB]
  obtain⟨n,hn⟩:∃n:Int,n=P.length:=⟨_,rfl⟩
  have n1:=hcl.n1
  have n24:=hcl.n24
  have low:=fun t ht=>hcl.low (i:=t) ht
  rw[hpl]at i1
  refine zO (T:=tab) (B:=[]) (Bi:=[]) [0,1,2,4,5,6] Tryz.func72 rfl rfl (by kernel_rfl) (zh rfl) mixed yd (by exact zH) (by exact zE) (by kernel_rfl) ?_
  intro L lp rr hL hr hf hlp
  conv=>cbv
  simp only[zr hL,sQ,zdH,Jz,zU,hpl,hsl,←hn]
  refine⟨by omega,yN _,by omega,i0,by omega,by omega,?_⟩
  obtain⟨vz,hvz⟩:∃vz,vz=I ((List.replicate n.toNat 0).set a3.toNat 1):=⟨_,rfl⟩
  obtain⟨E,hE⟩:∃E,E=zl8 P S a3.toNat:=⟨_,rfl⟩
  rw[←hvz]
  refine hlp (List V×Int) _ _ _ [2,5,6] (fun x=>[(2,none,.val (.box 77 (.agg [.slc false 2 (.int .i64 0) a0,.slc false 2 (.int .i64 0) a1,.slc false 2 (.int .i64 0) a2]))),(5,none,.val (.slc true 2 (.int .i64 0) x.1)),(6,none,.val (.int .i64 x.2))])
   (fun x=>0≤x.2∧x.2≤a3∧∃o,x.1=I o∧o.length=P.length∧zl9 P S x.2.toNat o=E) (fun x=>x.2.toNat) ((vz,a3)) (by subst hL;rfl) ?_ ?_
  ·refine⟨i0,yN _,_,hvz,by rw[yP,zU];omega,?_⟩
   rw[hE,hn]
   rfl
  rintro⟨vl,j⟩ ⟨j0,j1,o,hO,hol,hoE⟩ hfx ag hag
  simp only at j0 j1 hO hol hoE
  have hvl:vl.length=P.length:=by rw[hO,zm,hol]
  have go:∀k,vl.getD k (.int .i64 0)=.int .i64 (o.getD k 0):=fun k=>by rw[hO,zT]
  have gset:∀k x,vl.set k (.int .i64 x)=I (o.set k x):=fun k x=>by rw[hO,Jz]
  conv=>cbv
  simp only[zr hL,sQ,hpl,hsl,hvl,gp,gs,go,gset,Jz,yP,hol]
  rw[zl (n:=j-1) (by omega) (by omega)]
  refine⟨fun h=>?_,fun h=>?_⟩
  ·obtain⟨l1,l2,l3,l4,l5,l6⟩:=low j.toNat (by omega)
   have l4:=l4 (by omega)
   have l5:=l5 (by omega)
   have hst:zl9 P S j.toNat o=zl9 P S (j-1).toNat (if 0≤S.getD j.toNat 0 then zma (zma o (P.getD j.toNat 0) (o.getD j.toNat 0)) (S.getD j.toNat 0) ((zma o (P.getD j.toNat 0) (o.getD j.toNat 0)).getD j.toNat 0)else zma o (P.getD j.toNat 0) (o.getD j.toNat 0)):=by
    rw[show j.toNat=(j-1).toNat+1 by omega]
    rfl
   rw[hoE]at hst
   obtain⟨p,hp0⟩:∃p,p=P.getD j.toNat 0:=⟨_,rfl⟩
   obtain⟨q,hq0⟩:∃q,q=S.getD j.toNat 0:=⟨_,rfl⟩
   simp only[←hp0,←hq0]at l1 l2 l3 l4 l5 hst ⊢
   refine⟨by omega,by omega,by omega,by omega,by omega,by omega,by omega,by omega,by omega,by omega,by omega,by omega,by omega,by omega,by omega,fun h2=>⟨by omega,by omega,by omega,by omega,by omega,by omega,by omega,by omega,by omega,by omega,by omega,by omega,by omega,?_⟩,fun h2=>?_⟩
   ·rw[if_pos h2]at hst
    exact hag (_,j-1) ⟨by simp only;omega,by simp only;omega,_,rfl,by simp only[yP,hol],hst.symm⟩ (by simp only;omega)
   ·rw[if_neg h2]at hst
    exact hag (_,j-1) ⟨by simp only;omega,by simp only;omega,_,rfl,by simp only[yP,hol],hst.symm⟩ (by simp only;omega)
  ·rw[hr,hf0,←hE,←hoE,show j.toNat=0 by omega,hO]
   rfl
 ·cases h
def ztz(f:List V→List V→List V→List V→List V×List V×List V)(q:List V→List V→List V→List V→Prop):zQ:=fun
 |[.agg [.slc false 2 (.int .i64 0) a0,.slc false 2 (.int .i64 0) a1,.slc false 2 (.int .i64 0) a2],.slc false 2 (.int .i64 0) a3]=>some ([q a0 a1 a2 a3],.agg [.slc false 2 (.int .i64 0) ((f a0 a1 a2 a3).1),.slc false 2 (.int .i64 0) ((f a0 a1 a2 a3).2.1),.slc false 2 (.int .i64 0) ((f a0 a1 a2 a3).2.2)])
 |_=>none
def zyv(a b _ d:List V):List V×List V×List V:=(a,b,d)
def zr4(a b c d:List V):Prop:=uU a∧uU b∧IsI c∧IsI d
theorem zoC:yZ Tryz.prog 74 (ztz zyv zr4):=by
 intro args ps r h hp
 unfold ztz at h
 split at h
 ·rename_i a0 a1 a2 a3
  simp only[za,zb]at h
  obtain⟨rfl,rfl⟩:=h
  obtain⟨h0,h1,h2,h3⟩:zr4 a0 a1 a2 a3:=(zo.1 hp).1
  obtain⟨P,hP⟩:=h0.1
  obtain⟨S,hS⟩:=h1.1
  obtain⟨Q,hQ⟩:=h3
  have g0:V.frzs a0=a0:=by rw[hP,zN]
  have g1:V.frzs a1=a1:=by rw[hS,zN]
  have g3:V.frzs a3=a3:=by rw[hQ,zN]
  generalize YW:same=zd3
  generalize qj:uU=km
  refine zc8 (T:=tab) (B:=[(82,QN zd3 km)]) (Bi:=[]) [2000001007,2000001010,0,1,2,4] Tryz.func74 rfl rfl (by kernel_rfl) (zh rfl) mixed yd (by subst YW qj;exact(zt zeb zH)) (by subst YW qj;exact zE) (by kernel_rfl) ?_
  intro L lp rr hL hr hf hlp
  conv=>cbv
  subst YW qj
  simp only[zr hL,sQ,same,g0,g1,g3]
  exact⟨h0,h1,hr.symm⟩
 ·cases h
def ztD(f:List V→List V→List V→List V×List V×List V×Int)(q:List V→List V→List V→Prop):zQ:=fun
 |[.agg [.slc false 2 (.int .i64 0) a0,.slc false 2 (.int .i64 0) a1,.slc false 2 (.int .i64 0) a2]]=>some ([q a0 a1 a2],.tup [.agg [.slc false 2 (.int .i64 0) ((f a0 a1 a2).1),.slc false 2 (.int .i64 0) ((f a0 a1 a2).2.1),.slc false 2 (.int .i64 0) ((f a0 a1 a2).2.2.1)],.int .i64 ((f a0 a1 a2).2.2.2)])
 |_=>none
noncomputable def KJ(a b c:List V):List V×List V×List V×Int:=bif ku a b c then(a,b,c,0)else([],[],[],3)
theorem zqY:yZ Tryz.prog 73 (ztD KJ q_K):=by
 intro args ps r h hp
 unfold ztD at h
 split at h
 ·rename_i a0 a1 a2
  simp only[za,zb]at h
  obtain⟨rfl,rfl⟩:=h
  have hq:q_K a0 a1 a2:=(zo.1 hp).1
  obtain⟨⟨P,hP⟩,⟨S,hS⟩,⟨Q,hQ⟩⟩:=id hq
  have g0:V.frzs a0=a0:=by rw[hP,zN]
  have g1:V.frzs a1=a1:=by rw[hS,zN]
  have g2:V.frzs a2=a2:=by rw[hQ,zN]
  generalize uu:ku=zar
  generalize Yo:q_K=zdI
  refine zc8 (T:=tab) (B:=[(71,zeG zar zdI)]) (Bi:=[]) [0,1,2,3] Tryz.func73 rfl rfl (by kernel_rfl) (zh rfl) mixed yd (by subst uu Yo;exact(zt zcd zH)) (by subst uu Yo;exact zE) (by kernel_rfl) ?_
  intro L lp rr hL hr hf hlp
  conv=>cbv
  subst uu Yo
  simp only[zr hL,sQ,g0,g1,g2]
  refine⟨hq,fun h=>?_,fun h=>?_⟩
  ·rw[hr,KJ,h];rfl
  ·rw[hr,KJ,h];rfl
 ·cases h
def ziV(e:Int)(own:List Int):Nat→List Int→List Int
 |0,w=>w
 |k+1,w=>(ziV e own k w).set k (W ((ziV e own k w).getD k 0+W (e*own.getD k 0)))
def zd8(P S d:List Int):Nat→List Int
 |0=>List.replicate d.length 0
 |i+1=>ziV (d.getD i 0) (zl8 P S i) P.length (zd8 P S d i)
theorem zmN(e:Int)(own:List Int):∀(k:Nat) (w:List Int),(ziV e own k w).length=w.length
 |0,_=>rfl
 |k+1,w=>by rw[ziV,yP,zmN e own k]
theorem zl4(P S d:List Int):∀i,(zd8 P S d i).length=d.length
 |0=>zU
 |i+1=>by rw[zd8,zmN,zl4 P S d i]
def ziN(d:List Int):Bool:=d.all fun x=>decide (-1000≤x)&&decide (x≤1000)
theorem zBH{d:List Int}{i:Nat}(hi:i<d.length)(h:¬(-1000≤d.getD i 0∧d.getD i 0≤1000)):ziN d=false:=by
 rw[ziN,List.all_eq_false]
 refine⟨d.getD i 0,?_,by simpa [Int.not_le]using h⟩
 rw[zd,ze hi]
 exact ye _
theorem zz5{d:List Int}(h:∀i,i<d.length→-1000≤d.getD i 0∧d.getD i 0≤1000):ziN d=true:=by
 rw[ziN,List.all_eq_true]
 intro x hx
 obtain⟨i,hi,rfl⟩:=ym.1 hx
 have:=h i hi
 rw[zd,ze hi]at this
 simpa using this
def zpj(f:List V→List V→List V→List V→List V×List V×List V×Int)(q:List V→List V→List V→List V→Prop):zQ:=fun
 |[.agg [.slc false 2 (.int .i64 0) a0,.slc false 2 (.int .i64 0) a1,.slc false 2 (.int .i64 0) a2],.slc false 2 (.int .i64 0) a3]=>some ([q a0 a1 a2 a3],.tup [.agg [.slc false 2 (.int .i64 0) ((f a0 a1 a2 a3).1),.slc false 2 (.int .i64 0) ((f a0 a1 a2 a3).2.1),.slc false 2 (.int .i64 0) ((f a0 a1 a2 a3).2.2.1)],.int .i64 ((f a0 a1 a2 a3).2.2.2)])
 |_=>none
noncomputable def Ze(a b c d:List V):List V×List V×List V×Int:=
 bif ku a b c then(bif decide (d.length=a.length)&&ziN (yV d)then KJ a b (I (zd8 (yV a) (yV b) (yV d) d.length))else([],[],[],2))else([],[],[],1)
def zwI(a b c d:List V):Prop:=q_K a b c∧IsI d
theorem ze4:yZ Tryz.prog 50 (zpj Ze zwI):=by
 intro args ps r h hp
 unfold zpj at h
 split at h
 ·rename_i a0 a1 a2 a3
  simp only[za,zb]at h
  obtain⟨rfl,rfl⟩:=h
  obtain⟨hq,D,hD⟩:zwI a0 a1 a2 a3:=(zo.1 hp).1
  obtain⟨⟨P,hP⟩,⟨S,hS⟩,⟨Q,hQ⟩⟩:=id hq
  have g0:V.frzs a0=a0:=by rw[hP,zN]
  have g1:V.frzs a1=a1:=by rw[hS,zN]
  have g2:V.frzs a2=a2:=by rw[hQ,zN]
  have hpl:a0.length=P.length:=by rw[hP,zm]
  have hdl:a3.length=D.length:=by rw[hD,zm]
  have gd:∀k,a3.getD k (.int .i64 0)=.int .i64 (D.getD k 0):=fun k=>by rw[hD,zT]
  obtain⟨n,hn⟩:∃n:Int,n=P.length:=⟨_,rfl⟩
  obtain⟨m,hm⟩:∃m:Int,m=D.length:=⟨_,rfl⟩
  have hf1:ku a0 a1 a2=false→Ze a0 a1 a2 a3=([],[],[],1):=fun h=>by rw[Ze,h];rfl
  have hf2:ku a0 a1 a2=true→(D.length≠P.length∨ziN D=false)→Ze a0 a1 a2 a3=([],[],[],2):=fun h h2=>by
   rw[Ze,h,hdl,hpl,hD,zB]
   rcases h2 with h2|h2
   ·rw[decide_eq_false h2];rfl
   ·rw[h2,zdv];rfl
  have hf3:ku a0 a1 a2=true→D.length=P.length→ziN D=true→Ze a0 a1 a2 a3=KJ a0 a1 (I (zd8 P S D P.length)):=fun h h2 h3=>by
   rw[Ze,h,hdl,hpl,hD,zB,h3,decide_eq_true h2,hP,hS,zB,zB,h2];rfl
  generalize uu:ku=zar
  generalize Yo:q_K=zdI
  generalize yO:yE=jP
  generalize zpF:znX=zp7
  generalize zpr:zwx=zvO
  generalize zmV:zyv=zt6
  generalize zmP:zr4=zt0
  generalize zlk:KJ=zlo
  refine zc8 (T:=tab) (B:=[(71,zeG zar zdI),(43,jI jP),(72,ztA zp7 zvO),(74,ztz zt6 zt0),(73,ztD zlo zdI)]) (Bi:=[]) [1000019007,0,1,2,4,5,6,7,8,9,10,11,12] Tryz.func50 rfl rfl (by kernel_rfl) (zh rfl) mixed yd (by subst uu Yo yO zpF zpr zmV zmP zlk;exact(zt zcd (zt JD (zt zmd (zt zoC (zt zqY zH)))))) (by subst uu Yo yO zpF zpr zmV zmP zlk;exact zE) (by kernel_rfl) ?_
  intro L lp rr hL hr hf hlp
  have Ef:zar a0 a1 a2=ku a0 a1 a2:=by rw[←uu]
  have Ei:∀x,jP x (-1000) 1000=(decide (-1000≤x)&&decide (x≤1000)):=fun x=>by rw[←yO];rfl
  conv=>cbv
  simp only[zr hL,sQ,g0,g1,g2,Ef,hpl,hdl,←hn,←hm]
  refine⟨by rw[←Yo];exact hq,fun h=>?_,fun hcl0=>⟨fun h=>?_,fun hmn=>?_⟩⟩
  ·rw[hr,hf1 h];rfl
  ·rw[hr,hf2 hcl0 (.inl (by omega))];rfl
  have hqv:zee a0 a1 a2:=zuZ hq hcl0
  have hcl:ClP P S Q:=by have:=hqv.2;rwa [hP,hS,hQ,zB,zB,zB]at this
  have n24:=hcl.n24
  refine hlp (Int) _ _ _ [1,2,4,6] (fun x=>[(1,none,.val (.slc false 2 (.int .i64 0) a3)),(2,none,.val (.box 77 (.agg [.slc false 2 (.int .i64 0) a0,.slc false 2 (.int .i64 0) a1,.slc false 2 (.int .i64 0) a2]))),(4,none,.val (.box 77 (.agg [.slc true 2 (.int .i64 0) [],.slc true 2 (.int .i64 0) [],.slc true 2 (.int .i64 0) []]))),(6,none,.val (.int .i64 x))])
   (fun x=>0≤x∧x≤m∧∀t:Nat,t<x.toNat→-1000≤D.getD t 0∧D.getD t 0≤1000) (fun x=>(m-x).toNat) (0) (by subst hL;rfl) ?_ ?_
  ·exact⟨by simp,by omega,fun t ht=>by simp at ht⟩
  rintro i ⟨i0,i1,hI⟩ hfx ag hag
  conv=>cbv
  simp only[zr hL,sQ,g0,g1,g2,hdl,gd,Ei,←hm]
  rw[zl (n:=i+1) (by omega) (by omega)]
  refine⟨fun h2=>⟨i0,h2,fun h3=>?_,fun h3=>?_⟩,fun h2=>?_⟩
  ·rw[hr,hf2 hcl0 (.inr (zBH (i:=i.toNat) (by omega) (fun h4=>by omega)))];rfl
  ·refine hag (i+1) ⟨by omega,by omega,fun t ht=>?_⟩ (by omega)
   by_cases e:t=i.toNat
   ·rw[e];exact h3
   ·exact hI t (by omega)
  have hex:ziN D=true:=zz5 fun t ht=>hI t (by omega)
  have hf0:=hf3 hcl0 (by omega) hex
  have hdp:D.length=P.length:=by omega
  refine⟨by omega,yN _,by omega,?_⟩
  obtain⟨vz,hvz⟩:∃vz,vz=List.replicate m.toNat (V.int .i64 0):=⟨_,rfl⟩
  rw[←hvz]
  have hvz2:vz=I (zd8 P S D 0):=by rw[hvz,zdH,zd8,hm,zV]
  have Es:∀x:Int,0≤x→zp7 a0 a1 a2 x=I (zl8 P S x.toNat):=fun x _=>by rw[←zpF,znX,hP,hS,zB,zB]
  have Qs:∀x:Int,0≤x→x<n→zvO a0 a1 a2 x:=by
   rw[←zpr]
   exact fun x h1 h2=>⟨hqv,h1,by rw[hpl];omega⟩
  have Ew:∀d,zt6 a0 a1 a2 d=(a0,a1,d):=fun d=>by rw[←zmV];rfl
  have Qw:∀d,IsI d→zt0 a0 a1 a2 d:=by
   rw[←zmP]
   exact fun d h=>⟨⟨⟨P,hP⟩,by rw[hpl];omega⟩,⟨⟨S,hS⟩,by rw[hS,zm,hcl.sl];omega⟩,⟨Q,hQ⟩,h⟩
  clear hag hfx ag
  refine hlp (List V×Int) _ _ _ [1,2,4,7,8] (fun x=>[(1,none,.val (.slc false 2 (.int .i64 0) a3)),(2,none,.val (.box 77 (.agg [.slc false 2 (.int .i64 0) a0,.slc false 2 (.int .i64 0) a1,.slc false 2 (.int .i64 0) a2]))),(4,none,.val (.box 77 (.agg [.slc true 2 (.int .i64 0) [],.slc true 2 (.int .i64 0) [],.slc true 2 (.int .i64 0) []]))),(7,none,.val (.slc true 2 (.int .i64 0) x.1)),(8,none,.val (.int .i64 x.2))])
   (fun x=>0≤x.2∧x.2≤m∧x.1=I (zd8 P S D x.2.toNat)) (fun x=>(m-x.2).toNat) ((vz,0)) (by subst hL;rfl) ?_ ?_
  ·exact⟨by simp,by simp only;omega,hvz2⟩
  rintro⟨vl,j⟩ ⟨j0,j1,hJ⟩ hfx ag hag
  simp only at j0 j1 hJ
  have hvl:vl.length=D.length:=by rw[hJ,zm,zl4]
  have hfv:V.frzs vl=vl:=by rw[hJ,zN]
  obtain⟨vo,hvo⟩:∃vo,vo=zp7 a0 a1 a2 j:=⟨_,rfl⟩
  conv=>cbv
  simp only[zr hL,sQ,g0,g1,g2,hdl,←hm,hvl,hfv,Ew,←hvo]
  refine⟨fun h3=>⟨Qs _ j0 (by omega),?_⟩,fun h3=>?_⟩
  ·rw[Es j j0]at hvo
   obtain⟨own,hown⟩:∃own,own=zl8 P S j.toNat:=⟨_,rfl⟩
   obtain⟨w,hw⟩:∃w,w=zd8 P S D j.toNat:=⟨_,rfl⟩
   rw[←hown]at hvo
   rw[←hw]at hJ
   have hwl:w.length=P.length:=by rw[hw,zl4];omega
   have hol:own.length=P.length:=by rw[hown,zl8,zrO,yP,zU]
   have hvol:vo.length=P.length:=by rw[hvo,zm,hol]
   have go:∀k,vo.getD k (.int .i64 0)=.int .i64 (own.getD k 0):=fun k=>by rw[hvo,zT]
   have hnx:zd8 P S D (j.toNat+1)=ziV (D.getD j.toNat 0) own P.length w:=by rw[zd8,←hown,←hw]
   obtain⟨e,he⟩:∃e,e=D.getD j.toNat 0:=⟨_,rfl⟩
   rw[←he]at hnx
   refine hlp (List V×Int) _ _ _ [1,2,4,7,8,9,10] (fun x=>[(1,none,.val (.slc false 2 (.int .i64 0) a3)),(2,none,.val (.box 77 (.agg [.slc false 2 (.int .i64 0) a0,.slc false 2 (.int .i64 0) a1,.slc false 2 (.int .i64 0) a2]))),(4,none,.val (.box 77 (.agg [.slc true 2 (.int .i64 0) [],.slc true 2 (.int .i64 0) [],.slc true 2 (.int .i64 0) []]))),(7,none,.val (.slc true 2 (.int .i64 0) x.1)),(8,none,.val (.int .i64 j)),(9,none,.val (.slc true 2 (.int .i64 0) vo)),(10,none,.val (.int .i64 x.2))])
    (fun x=>0≤x.2∧x.2≤n∧x.1=I (ziV e own x.2.toNat w)) (fun x=>(n-x.2).toNat) ((vl,0)) (by subst hL;rfl) ?_ ?_
   ·exact⟨by simp,by simp only;omega,hJ⟩
   rintro⟨vk,k⟩ ⟨k0,k1,hK⟩ hfx2 ag2 hag2
   simp only at k0 k1 hK
   have hvk:vk.length=P.length:=by rw[hK,zm,zmN,hwl]
   have gk:∀k',vk.getD k' (.int .i64 0)=.int .i64 ((ziV e own k.toNat w).getD k' 0):=fun k'=>by rw[hK,zT]
   conv=>cbv
   simp only[zr hL,sQ,hdl,←hm,←hn,hvk,hvol,go,gk,gd,←he]
   rw[zl (n:=k+1) (by omega) (by omega)]
   refine⟨fun h4=>?_,fun h4=>?_⟩
   ·iterate 14 try refine⟨by omega,?_⟩
    refine hag2 (_,k+1) ⟨by simp only;omega,by simp only;omega,?_⟩ (by simp only;omega)
    simp only
    rw[show(k+1).toNat=k.toNat+1 by omega,ziV,hK,Jz]
   ·rw[zl (n:=j+1) (by omega) (by omega)]
    refine hag (vk,j+1) ⟨by simp only;omega,by simp only;omega,?_⟩ (by simp only;omega)
    simp only
    rw[show(j+1).toNat=j.toNat+1 by omega,hnx,hK,show k.toNat=P.length by omega]
  ·rw[hr,hf0]
   have hJ2:vl=I (zd8 P S D P.length):=by rw[hJ,show j.toNat=P.length by omega]
   refine⟨Qw _ ⟨_,hJ⟩,by rw[←Yo];exact⟨⟨P,hP⟩,⟨S,hS⟩,⟨_,hJ⟩⟩,?_⟩
   have hffz:V.frzs (zlo a0 a1 vl).1=(KJ a0 a1 vl).1∧V.frzs (zlo a0 a1 vl).2.1=(KJ a0 a1 vl).2.1∧V.frzs (zlo a0 a1 vl).2.2.1=(KJ a0 a1 vl).2.2.1:=by
    rw[←zlk,KJ]
    cases ku a0 a1 vl with
    |false=>exact⟨rfl,rfl,rfl⟩
    |true=>exact⟨g0,g1,hfv⟩
   rw[hffz.1,hffz.2.1,hffz.2.2,←zlk,←hJ2]
 ·cases h
end Go.Ax
namespace Go.Ax
open Go.Proofs
def Val:Nat→Nat→List Nat→Prop
 |_,e,[]=>e=1
 |p,e,t::l=>p<t∧t≤2000∧Nat.gcd e t≠e∧Val t (Nat.gcd e t) l
def uZ:Nat→Nat→List Nat→List Nat
 |_,_,[]=>[]
 |p,e,t::l=>ex (t-p) e++uZ t (Nat.gcd e t) l
theorem Val.weak{p p' e:Nat}{l:List Nat}(h:Val p e l)(hp:p'≤p):Val p' e l:=by
 cases l with
 |nil=>exact h
 |cons t l=>exact⟨by have:=h.1;omega,h.2⟩
theorem zyq{e t s:Nat}(he:e ∣ s)(hs:s≤t):Nat.gcd e (t-s)=Nat.gcd e t:=by
 obtain⟨k,rfl⟩:=he
 have h:t=(t-e*k)+k*e:=by rw[uf k e];omega
 conv=>rhs;rw[h]
 rw[JX]
def zDS(n:Nat):List Nat→List Nat
 |[]=>[1]
 |t::l=>if 2*n≤t then n::(t-n)::l.map (·-n)else if n%(t-n)=0 then(t-n)::l.map (·-(t-n))else(t-n)::n::l.map (·-(t-n))
structure BrN (n:Nat) (l:List Nat):Prop where
 lo:1≤n
 hi:n≤64
 val:Val n n l
theorem zk9{k e:Nat}(he:0<e)(hd:¬e ∣ k):∃x,ex k e=List.replicate (k/e) e++(k%e)::x∧0<k%e∧k%e<e:=by
 have h1:0<k%e:=Nat.pos_of_ne_zero fun h=>hd (Nat.dvd_of_mod_eq_zero h)
 have h2:k%e<e:=Nat.mod_lt _ he
 have h3:0<e/(k%e):=Nat.div_pos (by omega) h1
 refine⟨List.replicate (e/(k%e)-1) (k%e)++ex (k%e) (e%(k%e)),?_,h1,h2⟩
 rw[uK he,uK h1]
 conv=>lhs;rw[show e/(k%e)=(e/(k%e)-1)+1 by omega]
 rw[yx,zL]
theorem znF{p e t:Nat}(hp:e ∣ p)(h:p<t)(hg:Nat.gcd e t≠e):¬e ∣ (t-p):=fun h2=>by
 refine hg (Nat.gcd_eq_left ?_)
 have:=Nat.dvd_add h2 hp
 rwa [show t-p+p=t by omega]at this
def zaA(e:Nat):List Nat→Nat
 |[]=>0
 |x::l=>if x=e then zaA e l+1 else 0
theorem zsB{e r:Nat}(h:r≠e)(x:List Nat):∀q,zaA e (List.replicate q e++r::x)=q
 |0=>by simp[zaA,h]
 |q+1=>by rw[yx,zL,zaA,if_pos rfl,zsB h x q]
def zsf:Nat→Nat→Nat→List Nat→List Nat
 |0,_,_,_=>[]
 |k+1,p,e,L=>if e≤1 then[]else
   (p+(zaA e L*e+L.getD (zaA e L) 0))::zsf k (p+(zaA e L*e+L.getD (zaA e L) 0)) (Nat.gcd e (p+(zaA e L*e+L.getD (zaA e L) 0))) (L.drop (ex (zaA e L*e+L.getD (zaA e L) 0) e).length)
theorem zx2:∀(l:List Nat) (p e:Nat),0<e→e ∣ p→Val p e l→∀(m k:Nat),l.length<k→zsf k p e (uZ p e l++List.replicate m 1)=l
 |[],p,e,_,_,h,m,0,hk=>by simp at hk
 |[],p,e,_,_,h,m,k+1,_=>by
  have h1:e=1:=h
  rw[zsf,if_pos (by omega)]
 |t::l,p,e,he,hp,h,m,0,hk=>by simp at hk
 |t::l,p,e,he,hp,h,m,k+1,hk=>by
  obtain⟨h1,h2,h3,h4⟩:=h
  have he2:¬e≤1:=fun h5=>h3 (by
   have:e=1:=by omega
   subst this
   exact Nat.gcd_one_left t)
  obtain⟨x,hx,hr0,hr1⟩:=zk9 he (znF hp h1 h3)
  obtain⟨X,hX⟩:∃X,X=uZ t (Nat.gcd e t) l++List.replicate m 1:=⟨_,rfl⟩
  have hL:uZ p e (t::l)++List.replicate m 1=ex (t-p) e++X:=by rw[uZ,zS,hX]
  have hL2:ex (t-p) e++X=List.replicate ((t-p)/e) e++((t-p)%e)::(x++X):=by rw[hx];simp
  have hq:zaA e (ex (t-p) e++X)=(t-p)/e:=by rw[hL2,zsB (by omega)]
  have hg:(ex (t-p) e++X).getD ((t-p)/e) 0=(t-p)%e:=by
   rw[hL2,zd,List.getElem?_append_right (by rw[zU];exact zn _),zU,Nat.sub_self]
   rfl
  have hk2:(t-p)/e*e+(t-p)%e=t-p:=by rw[uf];exact Nat.div_add_mod _ _
  rw[hL,zsf,if_neg he2,hq,hg,hk2,show p+(t-p)=t by omega,List.drop_left,hX,
   zx2 l t (Nat.gcd e t) (Nat.gcd_pos_of_pos_left t he) (Nat.gcd_dvd_right e t) h4 m k (by simpa using hk)]
def yv(l:List Nat):List Int:=l.map fun x:Nat=>(x:Int)
def zfl(l:List Int):List Nat:=l.map Int.toNat
theorem zaB(l:List Nat):zfl (yv l)=l:=by
 rw[zfl,yv,List.map_map]
 conv=>rhs;rw[←List.map_id l]
 rfl
theorem kV(l:List Nat):(yv l).length=l.length:=by simp[yv]
theorem za0(a b:List Nat):yv (a++b)=yv a++yv b:=by simp[yv]
theorem KQ(l:List Nat)(i d:Nat):(yv l).getD i (d:Int)=((l.getD i d:Nat):Int):=by
 simp only[yv,zd,List.getElem?_map]
 cases l[i]? <;>rfl
def zpp(n:Nat)(l:List Nat)(L:List Int):Prop:=BrN n l∧L≠[]∧∃m,L=yv (uZ 0 n l++List.replicate m 1)
def ztJ(L:List Int):List Int:=yv ((zfl L).getD 0 0::zsf 3000 0 ((zfl L).getD 0 0) (zfl L))
theorem zov:∀(l:List Nat) (p e:Nat),Val p e l→p≤2000→l.length+p≤2000
 |[],p,e,_,hp=>by simpa using hp
 |t::l,p,e,h,_=>by
  have:=zov l t _ h.2.2.2 h.2.1
  have:=h.1
  simp only[zi]
  omega
theorem zhO{n:Nat}{l:List Nat}{L:List Int}(h:zpp n l L):ztJ L=yv (n::l):=by
 obtain⟨hb,hne,m,rfl⟩:=h
 have hlo:=hb.lo
 have hhi:=hb.hi
 have h0:(uZ 0 n l++List.replicate m 1).getD 0 0=n:=by
  cases l with
  |nil=>
   have h1:n=1:=hb.val
   subst h1
   cases m with
   |zero=>simp[uZ,yv]at hne
   |succ m=>rfl
  |cons t l=>
   have h1:=hb.val.1
   have h2:0<t/n:=Nat.div_pos (by omega) (by omega)
   rw[uZ,uK (by omega),Zu,show t/n=(t/n-1)+1 by omega,yx]
   rfl
 rw[ztJ,zaB,h0,zx2 l 0 n (by omega) ⟨0,rfl⟩ (hb.val.weak (by omega)) m 3000 (by have:=zov l n n hb.val (by omega);omega)]
end Go.Ax
namespace Go.Ax
open Go.Proofs
def Kz:Nat→List Nat→Nat
 |_,[]=>0
 |t,c::cs=>if c=t then Kz (t+1) cs+1 else 0
def mC:List Nat→List Nat
 |[]=>[1]
 |_::cs=>((mC cs).take (Kz 2 cs+1)).sum::mC cs
theorem QG:∀cs:List Nat,(mC cs).length=cs.length+1
 |[]=>rfl
 |_::cs=>by rw[mC,zi,QG cs,zi]
theorem zve:∀(cs:List Nat) (t:Nat),Kz t cs≤cs.length
 |[],_=>zn _
 |c::cs,t=>by
  rw[Kz]
  split
  ·have:=zve cs (t+1);simp only[zi];omega
  ·exact Nat.zero_le _
theorem zsx:∀(cs:List Nat),∀x∈mC cs,1≤x
 |[],x,h=>by simp only[mC,zX]at h;omega
 |c::cs,x,h=>by
  rw[mC]at h
  rcases zA.1 h with h|h
  ·have hl:=QG cs
   cases hm:mC cs with
   |nil=>rw[hm]at hl;simp at hl
   |cons y l=>
    have:=zsx cs y (by rw[hm];simp)
    rw[h,hm,jO,List.sum_cons]
    omega
  ·exact zsx cs x h
theorem zvc:∀(cs:List Nat) (t q:Nat),2≤t→q≤Kz t cs→∀j,j<q→(mC cs).getD j 0=(mC cs).getD 0 0
 |[],t,q,_,hq,j,hj=>by rw[Kz]at hq;omega
 |c::cs,t,q,ht,hq,j,hj=>by
  rw[Kz]at hq
  split at hq
  ·rename_i hc
   cases j with
   |zero=>rfl
   |succ j=>
    have ih:=zvc cs (t+1) (q-1) (by omega) (by omega) j (by omega)
    rw[mC,List.getD_cons_succ,ih,List.getD_cons_zero]
    have h0:Kz 2 cs=0:=by
     cases cs with
     |nil=>rfl
     |cons d cs=>
      rw[Kz]at hq ⊢
      split at hq
      ·rw[if_neg (by omega)]
      ·omega
    have hl:=QG cs
    rw[h0]
    cases hm:mC cs with
    |nil=>rw[hm]at hl;simp at hl
    |cons y l=>simp
  ·omega
theorem Val.up:∀(l:List Nat) {p e s:Nat},e ∣ s→(∀t∈l,t+s≤2000)→Val p e l→Val (p+s) e (l.map (·+s))∧uZ (p+s) e (l.map (·+s))=uZ p e l
 |[],p,e,s,_,_,h=>⟨h,rfl⟩
 |t::l,p,e,s,he,hs,h=>by
  obtain⟨h1,h2,h3,h4⟩:=h
  have hg:Nat.gcd e (t+s)=Nat.gcd e t:=by
   obtain⟨k,rfl⟩:=he
   rw[uf,JX]
  obtain⟨i1,i2⟩:=Val.up l (s:=s) (Nat.dvd_trans (Nat.gcd_dvd_left e t) he) (fun x hx=>hs x (zp _ hx)) h4
  have hb:=hs t (by simp)
  refine⟨⟨show p+s<t+s by omega,hb,by rw[hg];exact h3,by rw[hg];exact i1⟩,?_⟩
  simp only[List.map_cons,uZ]
  rw[hg,i2,show t+s-(p+s)=t-p by omega]
theorem zrJ{a b:Nat}{x:List Nat}:∀k:Nat,(List.replicate k a++b::x).take (k+1)=List.replicate k a++[b]
 |0=>rfl
 |k+1=>by rw[yx,zL,jO,zrJ k];rfl
theorem zuM(a b:Nat):∀k:Nat,(List.replicate k a++[b]).sum=k*a+b
 |0=>by simp
 |k+1=>by rw[yx,zL,List.sum_cons,zuM a b k,Nat.add_mul];omega
theorem zqe{a:Nat}:∀(k:Nat) (L:List Nat),k<L.length→(∀j,j<k→L.getD j 0=a)→∃b x,L=List.replicate k a++b::x
 |_,[],h,_=>by simp at h
 |0,y::L,_,_=>⟨y,L,rfl⟩
 |k+1,y::L,h,hs=>by
  obtain⟨b,x,hx⟩:=zqe k L (by simpa using h) (fun j hj=>by simpa using hs (j+1) (by omega))
  have h0:y=a:=by simpa using hs 0 (by omega)
  exact⟨b,x,by rw[hx,h0,yx];rfl⟩
theorem zqm{a r b:Nat}(hr:r≠a){X x:List Nat}:∀(k q:Nat),List.replicate q a++r::X=List.replicate k a++b::x→(k<q∧b=a)∨(k=q∧b=r)
 |0,0,h=>by simp at h;exact .inr ⟨rfl,h.1.symm⟩
 |0,q+1,h=>by rw[yx]at h;simp at h;exact .inl ⟨by omega,h.1.symm⟩
 |k+1,0,h=>by rw[yx]at h;simp at h;exact absurd h.1 hr
 |k+1,q+1,h=>by
  rw[yx,yx]at h
  simp only[zL,List.cons.injEq,true_and]at h
  have:=zqm hr k q h
  omega
theorem zx9:∀(cs:List Nat),cs.length≤30→(∀x∈mC cs,x≤64)→∃n l m,BrN n l∧mC cs=uZ 0 n l++List.replicate m 1∧(mC cs).getD 0 0=n∧∀t∈l,t≤64*(cs.length+1)
 |[],_,_=>⟨1,[],1,⟨by omega,by omega,rfl⟩,rfl,rfl,fun t ht=>by cases ht⟩
 |c::cs,hl,hb=>by
  rw[mC]at hb
  simp only[zi]at hl ⊢
  obtain⟨a,l,m,hB,hL,ha,ht⟩:=zx9 cs (by omega) (fun x hx=>hb x (zp _ hx))
  have hlen:=QG cs
  have hle:=zve cs 2
  obtain⟨k,hk⟩:∃k,k=Kz 2 cs:=⟨_,rfl⟩
  rw[←hk]at hle
  have hsame:∀j,j<k→(mC cs).getD j 0=a:=fun j hj=>by rw[zvc cs 2 k (by omega) (by omega) j hj,ha]
  obtain⟨b,x,hx⟩:=zqe k (mC cs) (by omega) hsame
  have hn:((mC cs).take (k+1)).sum=k*a+b:=by rw[hx,zrJ,zuM]
  obtain⟨n,hnn⟩:∃n,n=k*a+b:=⟨_,rfl⟩
  have hn64:n≤64:=by rw[hnn,←hn,hk];exact hb _ (by simp)
  have hb1:1≤b:=zsx cs b (by rw[hx];simp)
  have hb64:b≤64:=hb b (zp _ (by rw[hx];simp))
  have ha1:=hB.lo
  have ha64:=hB.hi
  rw[mC,←hk,hn,←hnn]
  by_cases hk0:k=0
  ·
    subst hk0
    have hba:b=a:=by rw[←ha,hx];rfl
    have hna:n=a:=by rw[hnn,hba];omega
    rw[hna]
    cases l with
    |nil=>
     have h1:a=1:=hB.val
     subst h1
     exact⟨1,[],m+1,hB,by rw[hL];rfl,rfl,fun t ht=>by cases ht⟩
    |cons t l=>
     have ht0:=ht t (by simp)
     obtain⟨v1,v2⟩:=Val.up (t::l) (p:=a) (e:=a) (s:=a) (zfH a) (fun y hy=>by have:=ht y hy;omega) hB.val
     refine⟨a,(t::l).map (·+a),m,⟨ha1,ha64,v1.weak (by omega)⟩,?_,rfl,fun y hy=>?_⟩
     ·have v0:=(Val.up (t::l) (p:=0) (e:=a) (s:=a) (zfH a) (fun y hy=>by have:=ht y hy;omega) (hB.val.weak (by omega))).2
      rw[hL,←v0]
      simp only[List.map_cons,uZ,Zu]
      have e1:ex (t+a) a=a::ex (t+a-(0+a)) a:=by
       rw[show t+a-(0+a)=t by omega,uK (by omega),uK (show 0<a by omega),Jx _ (by omega),Jw,yx,zL]
      rw[e1]
      rfl
     ·obtain⟨z,hz,rfl⟩:=yD.1 hy
      have:=ht z hz
      omega
  ·cases l with
   |nil=>
    have h1:a=1:=hB.val
    subst h1
    have hall:∀y∈mC cs,y=1:=fun y hy=>by
     rw[hL]at hy
     simp only[uZ,qf]at hy
     exact List.eq_of_mem_replicate hy
    have hbe:b=1:=hall b (by rw[hx];simp)
    have hn1:n=k+1:=by rw[hnn,hbe];omega
    have hm:m=cs.length+1:=by
     rw[←hlen,hL];simp[uZ]
    refine⟨n,[n+1],m-n,⟨by omega,hn64,by omega,by omega,?_,?_⟩,?_,rfl,fun y hy=>?_⟩
    ·rw[Jh]
     simp
     omega
    ·rw[Jh]
     simp[Val]
    ·rw[hL]
     simp only[uZ,Zu,List.append_nil,qf]
     have e1:ex (n+1) n=n::List.replicate n 1:=by
      rw[uK (by omega),uO n 1,Jx _ (by omega),Jw,zfI (by omega),ug (by omega),uK (by omega),Nat.div_one,Nat.mod_one,zeN]
      simp
     rw[e1,zL,je,show n+(m-n)=m by omega]
    ·simp only[zX]at hy
     omega
   |cons t l=>
    have hv:=hB.val
    obtain⟨v1,v2,v3,v4⟩:=id hv
    have hnd:¬a ∣ t:=by
     intro hd
     exact v3 (Nat.gcd_eq_left hd)
    obtain⟨X,hX,hr0,hr1⟩:=zk9 (show 0<a by omega) hnd
    obtain⟨q,hq⟩:∃q,q=t/a:=⟨_,rfl⟩
    obtain⟨r,hr⟩:∃r,r=t%a:=⟨_,rfl⟩
    rw[←hq,←hr]at hX
    rw[←hr]at hr0 hr1
    have htq:t=q*a+r:=by rw[hq,hr,uf];exact(Nat.div_add_mod t a).symm
    have hL2:mC cs=List.replicate q a++r::(X++(uZ t (Nat.gcd a t) l++List.replicate m 1)):=by
     rw[hL,uZ,Zu,hX]
     simp
    have ht2:∀y∈t::l,y+a≤2000:=fun y hy=>by have:=ht y hy;omega
    have hcase:=zqm (by omega) k q (hL2.symm.trans hx)
    have htb:=ht t (by simp)
    rcases hcase with⟨hkq,hba⟩|⟨hkq,hbr⟩
    ·
      have hn1:n=(k+1)*a:=by rw[hnn,hba,Nat.add_mul];omega
      have hlt:n+a≤t+a:=by
       have:(k+1)*a≤q*a:=qd a (by omega)
       omega
      have hlt2:n<t:=by
       have:(k+1)*a≤q*a:=qd a (by omega)
       omega
      have hna:a<n:=by
       have:2*a≤(k+1)*a:=qd a (by omega)
       omega
      have hgcd:Nat.gcd n (n+a)=a:=by
       rw[Jh,hn1,uN,Nat.gcd_mul_left_right]
      obtain⟨u1,u2⟩:=Val.up (t::l) (p:=n) (e:=a) (s:=a) (zfH a) ht2 ⟨hlt2,v2,v3,v4⟩
      refine⟨n,(n+a)::(t::l).map (·+a),m,⟨by omega,hn64,by omega,by omega,by rw[hgcd];omega,by rw[hgcd];exact u1⟩,?_,rfl,fun y hy=>?_⟩
      ·rw[uZ,Zu,hgcd,u2]
       have e1:ex (n+a) n=n::List.replicate (k+1) a:=by
        rw[uK (by omega),uO n a,Jx _ (by omega),Jw,zfI hna,ug hna,uK (by omega),hn1,Nat.mul_div_cancel _ (by omega),Nat.mul_mod_left,zeN]
        simp
       have e2:ex t a=List.replicate (k+1) a++ex (t-n) a:=by
        have e3:t=(t-n)+a*(k+1):=by rw[uf,←hn1];omega
        rw[uK (by omega),uK (show 0<a by omega) (a:=t-n)]
        conv=>lhs;rw[e3]
        rw[Nat.add_mul_div_left _ _ (by omega),Nat.add_mul_mod_self_left,uO,←je,zS]
       rw[e1,hL,uZ,uZ,Zu,e2]
       simp
      ·rcases zA.1 hy with rfl|hy
       ·omega
       ·obtain⟨z,hz,rfl⟩:=yD.1 hy
        have:=ht z hz
        omega
    ·
      have hn1:n=t:=by rw[hnn,hkq,hbr];exact htq.symm
      have hgcd:Nat.gcd n (n+a)=Nat.gcd a t:=by rw[Jh,hn1,uN]
      obtain⟨u1,u2⟩:=Val.up l (p:=t) (e:=Nat.gcd a t) (s:=a) (Nat.gcd_dvd_left a t) (fun y hy=>ht2 y (zp _ hy)) v4
      have hga:Nat.gcd a t≤a:=Nat.gcd_le_left t (by omega)
      refine⟨n,(n+a)::l.map (·+a),m,⟨by omega,hn64,by omega,by omega,by rw[hgcd];omega,by rw[hgcd,hn1];exact u1⟩,?_,rfl,fun y hy=>?_⟩
      ·have e1:ex (n+a) n=n::ex t a:=by
        rw[uK (by omega),uO n a,Jx _ (by omega),Jw,zfI (by omega),ug (by omega),hn1]
        simp
       rw[uZ,Zu,hgcd,e1,hL,uZ,Zu]
       rw[hn1]at*
       rw[u2]
       simp
      ·rcases zA.1 hy with rfl|hy
       ·omega
       ·obtain⟨z,hz,rfl⟩:=yD.1 hy
        have:=ht z (zp _ hz)
        omega
end Go.Ax
