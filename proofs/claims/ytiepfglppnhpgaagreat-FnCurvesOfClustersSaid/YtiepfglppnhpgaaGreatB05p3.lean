import Derived.Test.YtiepfglppnhpgaaGreatB04p3
import Derived.Test.YtiepfglppnhpgaaGreatB02p3
import Derived.Test.YtiepfglppnhpgaaGreatB01p3
import Derived.Test.YtiepfglppnhpgaaGreatB03p3
set_option linter.all false
set_option maxRecDepth 100000
set_option maxHeartbeats 1000000
open Bool renaming and_eq_true->zh,eq_iff_iff->ZQ,false_eq_true->yJ,not_eq_true'->yK
open Int renaming toNat_natCast->zL
open List renaming all_eq_true->yc,append_assoc->zU,append_nil->yp,cons_append->yf,drop_of_length_le->ke,ext_getElem?->yB,find?_eq_none->ze8,find?_range_eq_some->QZ,getD_cons_succ->yT,getD_cons_zero->qh,getD_eq_getElem?_getD->zd,getElem?_append_left->yA,getElem?_append_right->yr,getElem?_eq_getElem->ze,getElem?_eq_none->zy,getElem_mem->yq,idxOf_append->zfw,idxOf_lt_length_iff->zbc,length_append->zr,length_cons->zj,length_drop->yF,length_nil->zu,length_pos_iff->Yc,length_replicate->zx,length_singleton->zW,length_tail->QX,length_take->zV,map_append->kY,map_cons->qo,mem_append->qz,mem_cons->zJ,mem_cons_of_mem->zI,mem_iff_getElem->qS,mem_map->jC,mem_range->jr,mem_singleton->yd,replicate_append_replicate->jx,replicate_succ->yI,sum_cons->Qd,take_of_length_le->zB,take_succ_cons->Zb,take_succ_eq_append_getElem->zQ
open Nat renaming add_comm->YJ,add_div_right->zb0,add_mod_right->zbZ,add_sub_cancel->qJ,div_eq_of_lt->zg0,dvd_refl->zgZ,gcd_add_mul_right_right->KH,gcd_pos_of_pos_left->ue,gcd_self_add_right->JR,le_refl->zw,mod_eq_of_lt->QS,mul_comm->um,mul_le_mul_right->qb,sub_self->kF,sub_zero->ZM
open Option.some renaming injEq->za
open Prod.mk renaming injEq->zb
/-
 Polar numbers,parts of curves. No conditions but those of the contracts.
-/
namespace Go.Ax
open Go.Proofs
theorem Qz{l:List Int}{k:Nat}(h:k<l.length):l[k]=l.getD k 0:=by
 rw[zd,ze h];rfl
def Yr(bs:List (List Int))(l:List Int):List (List Int):=l.map fun i=>bs.getD i.toNat []
def Kf(ms:List (List Int))(l:List Int):List (List Int):=l.map fun i=>l.map fun k=>mm ms i.toNat k.toNat
def zce(f:List V->List V->List V->List V×List V)(q:List V->List V->List V->Prop):zO:=fun
 |[.agg [.slc false 49 (.agg [.slc false 2 (.int .i64 0) []]) a0,.slc false 24 (.slc false 2 (.int .i64 0) []) a1],.slc false 2 (.int .i64 0) a2]=>some ([q a0 a1 a2],.agg [.slc true 49 (.agg [.slc true 2 (.int .i64 0) []]) ((f a0 a1 a2).1),.slc true 24 (.slc true 2 (.int .i64 0) []) ((f a0 a1 a2).2)])
 |_=>none
def uF(a b l:List V):List V×List V:=(BB true (Yr (zga a) (yD l)),II true (Kf (zbR b) (yD l)))
def InL(n:Nat)(l:List Int):Prop:=∀k,k<l.length->0<=l.getD k 0/\l.getD k 0<n
def zgs(a b l:List V):Prop:=zns a b/\∃xs,l=I xs/\InL a.length xs/\xs.length<=1000
theorem zoB(bs:List (List Int))(l:List Int)(i:Nat)(h:i<l.length):Yr bs (l.take (i+1))=Yr bs (l.take i)++[bs.getD (l.getD i 0).toNat []]:=by
 rw[Yr,zQ h,kY,Qz h];rfl
def zgq(ms:List (List Int))(l:List Int)(i:Int):List Int:=l.map fun k=>mm ms i.toNat k.toNat
theorem zqY(ms:List (List Int))(l:List Int)(x:Int)(i:Nat)(h:i<l.length):zgq ms (l.take (i+1)) x=zgq ms (l.take i) x++[mm ms x.toNat (l.getD i 0).toNat]:=by
 rw[zgq,zQ h,kY,Qz h];rfl
def zaU(ms:List (List Int))(l:List Int)(n:Nat):List (List Int):=(l.take n).map (zgq ms l)
theorem zoy(ms:List (List Int))(l:List Int)(i:Nat)(h:i<l.length):zaU ms l (i+1)=zaU ms l i++[zgq ms l (l.getD i 0)]:=by
 rw[zaU,zQ h,kY,Qz h];rfl
theorem zoA(ms:List (List Int))(l:List Int){n:Nat}(h:l.length<=n):zaU ms l n=Kf ms l:=by
 rw[zaU,zB h];rfl
theorem zhz(bs:List (List Int))(l:List Int):(Yr bs l).length=l.length:=by simp[Yr]
theorem zsy(ms:List (List Int))(l:List Int)(x:Int):(zgq ms l x).length=l.length:=by simp[zgq]
theorem zrF:yM Tryz.prog 70 (zce uF zgs):=by
 intro args ps r h hp;unfold zce at h;split at h
 ·rename_i a0 a1 a2;cases h;obtain⟨⟨⟨⟨bs,hbs,hb1,hb2⟩,⟨ms,hms,hm1,hm2⟩⟩,hcv⟩,⟨ls,hls,hin,hll⟩⟩:=(zp.1 hp).1;rw[hbs,hms,jG,qB]at hcv;have g1:V.frzs a0=a0:=by rw[hbs,ko]
  have g2:V.frzs a1=a1:=by rw[hms,jy]
  have hbl:a0.length=bs.length:=by rw[hbs,qw]
  have hml:a1.length=ms.length:=by rw[hms,ye]
  have gb:∀k,a0.getD k (.agg [.slc false 2 (.int .i64 0) []])=.agg [.slc false 2 (.int .i64 0) (I (bs.getD k []))]:=fun k=>by rw[hbs,YT]
  have gm:∀k,a1.getD k (.slc false 2 (.int .i64 0) [])=.slc false 2 (.int .i64 0) (I (ms.getD k [])):=fun k=>by rw[hms,qu]
  have hm0:∀x y:Nat,(ms.getD x []).getD y 0=mm ms x y:=fun _ _=>rfl;obtain⟨n,hn⟩:=qEI bs.length;have n1:=hcv.n1;have n6:=hcv.n6;have hmn:ms.length=bs.length:=hcv.tab.len;have hbr:∀i,i<bs.length->Br (bs.getD i []):=fun i hi=>zaK (hcv.br i hi);have rl:∀k,k<bs.length->(ms.getD k []).length=bs.length:=fun k hk=>(hcv.tab.row k hk).1;have mmr:∀i k,i<bs.length->k<bs.length->0<=mm ms i k/\mm ms i k<=200:=fun i k hi hk=>hcv.tab.range hi hk;have mmo:∀i k,i<bs.length->k<bs.length->i≠k->1<=mm ms i k/\mm ms i k<=200:=fun i k hi hk hne=>((hcv.tab.row i hi).2 k hk).2 hne;rw[hbl]at hin;have hf0:uF a0 a1 a2=(BB true (Yr bs ls),II true (Kf ms ls)):=by rw[uF,hbs,hms,hls,jG,qB,zl]
  have hal:a2.length=ls.length:=by rw[hls,zg]
  have gl:∀k,a2.getD k (.int .i64 0)=.int .i64 (ls.getD k 0):=fun k=>by rw[hls,zG]
  obtain⟨m,hm⟩:=qEI ls.length;generalize qO:same=jK,yu:qU=yP;refine zH (B:=[(36,zdP jK yP)]) (Bi:=[]) [2000005025,0,1,2,4,5,7,8,10,12,13,14,30,31,32] Tryz.func70 rfl rfl (by subst qO yu;exact(zm Ke zF)) zA ?_;intro L lp rr hL hr hf hlp;have qcp:∀x,Br x->yP (I x):=fun x hx=>by rw[<-yu];exact⟨⟨_,rfl⟩,by rw[zg];have:=hx.len;omega⟩
  have ecp:∀x,jK (I x)=I x:=fun x=>by rw[<-qO];rfl
  conv=>cbv
  refine hlp ((List V×List V)×Int) _ _ _ [1,2,4,5,12,13,14] (fun x=>[(wJ3 1 a2),(2,none,.val (.box 31 (.agg [.slc false 49 (.agg [.slc false 2 (.int .i64 0) []]) a0,.slc false 24 (.slc false 2 (.int .i64 0) []) a1]))),(4,none,.val (.box 31 (.agg [.slc true 49 (.agg [.slc true 2 (.int .i64 0) []]) [],.slc true 24 (.slc true 2 (.int .i64 0) []) []]))),(5,none,.val (.box 31 (.agg [.slc true 49 (.agg [.slc true 2 (.int .i64 0) []]) x.1.1,.slc true 24 (.slc true 2 (.int .i64 0) []) x.1.2]))),(wJ3 12 a2),(wJ0 13 m),(wJ0 14 x.2)])
   (fun x=>0<=x.2/\x.2<=m/\x.1.1=BB true (Yr bs (ls.take x.2.toNat))/\x.1.2=II true (zaU ms ls x.2.toNat)) (fun x=>(m-x.2).toNat) ((([],[]),0)) (by subst hL;rw[hm,<-hal];rfl) ?_ ?_
  ·exact⟨by simp,by simp only;omega,rfl,rfl⟩
  rintro⟨⟨fs,gs⟩,i⟩ ⟨i0,i1,hI,hJ⟩ hfx ag hag;simp only at i0 i1 hI hJ
  conv=>cbv
  simp only[zo hL,sQ,hbl,gb,Yh,KK,KY,hal,gl,ecp];refine⟨fun h2=>?_,fun h2=>?_⟩
  ·have hil:i.toNat<ls.length:=(by omega);have hxi:=hin _ hil;obtain⟨x,hx⟩:=qEx (ls.getD i.toNat 0);rw[<-hx]at hxi;have hbx:=hbr x.toNat (by omega);have hrx:=rl x.toNat (by omega);have hfl:fs.length<=1000:=(by rw[hI,qw,zhz,zV];omega);have hgl:gs.length<=1000:=(by rw[hJ,ye,zaU,List.length_map,zV];omega);have qx:=qcp _ hbx;rw[<-hx];obtain⟨fs',hfs'⟩:=qEx (fs++[V.agg [.slc true 2 (.int .i64 0) (I (bs.getD x.toNat []))]]);rw[<-hfs'];refine⟨i0,by omega,hxi.1,by omega,qx,by simp only[zj,zu];omega,jY rfl,?_⟩
   refine hlp (List V×Int) _ _ _ [1,2,4,5,7,8,12,13,14,30,31,32] (fun y=>[(wJ3 1 a2),(2,none,.val (.box 31 (.agg [.slc false 49 (.agg [.slc false 2 (.int .i64 0) []]) a0,.slc false 24 (.slc false 2 (.int .i64 0) []) a1]))),(4,none,.val (.box 31 (.agg [.slc true 49 (.agg [.slc true 2 (.int .i64 0) []]) [],.slc true 24 (.slc true 2 (.int .i64 0) []) []]))),(5,none,.val (.box 31 (.agg [.slc true 49 (.agg [.slc true 2 (.int .i64 0) []]) fs',.slc true 24 (.slc true 2 (.int .i64 0) []) gs]))),(wJ0 7 x),(wJ2 8 y.1),(wJ3 12 a2),(wJ0 13 m),(wJ0 14 i),(wJ3 30 a2),(wJ0 31 m),(wJ0 32 y.2)])
    (fun y=>0<=y.2/\y.2<=m/\y.1=I (zgq ms (ls.take y.2.toNat) x)) (fun y=>(m-y.2).toNat) (([],0)) (by subst hL;rw[hm,<-hal];rfl) ?_ ?_
   ·exact⟨by simp,by simp only;omega,rfl⟩
   rintro⟨rs,k⟩ ⟨k0,k1,hK⟩ hfx2 ag2 hag2;simp only at k0 k1 hK
   conv=>cbv
   simp only[zo hL,sQ,hal,gl,gm,hml,hm0,hrx];refine⟨fun h3=>?_,fun h3=>?_⟩
   ·have hkl:k.toNat<ls.length:=(by omega);have hyk:=hin _ hkl;have hrs:rs.length<=1000:=(by rw[hK,zg,zsy,zV];omega);rw[zn (n:=k+1)]
    (repeat' first|(exact yL _)|(exact jY rfl)|(exact qG _)|(apply And.intro)|(intro _))<;>(try first|exact True.intro|omega|rfl|(simp only[zj,zu,zg];omega))
    refine hag2 (_,k+1) ⟨by simp only;omega,by simp only;omega,?_⟩ (by simp only;omega);simp only[ya k0];rw[zqY _ _ _ _ hkl,hK,<-qW];rfl
   ·have hrs:rs=I (zgq ms ls x):=(by rw[hK,zB (by omega)]);rw[zn (n:=i+1)]
    have hff:fs'=BB true (Yr bs (ls.take (i.toNat+1))):=by
     rw[zoB _ _ _ hil,hfs',hI,<-hx];simp[BB]
    have hgg:gs++[V.slc true 2 (.int .i64 0) rs]=II true (zaU ms ls (i.toNat+1)):=by
     rw[zoy _ _ _ hil,Zv,hJ,hrs,<-hx];rfl
    refine⟨by simp only[zj,zu];omega,jY rfl,hag ((fs',_),i+1) ⟨by simp only;omega,by simp only;omega,?_,?_⟩ (by simp only;omega)⟩
    ·simp only[ya i0];exact hff
    ·simp only[ya i0];exact hgg
  ·rw[hr,hf0,hI,hJ,zB (by omega),zoA _ _ (by omega)]
 ·cases h
theorem ziq:yM Tryz.prog 67 (zce uF zgs):=by
 intro args ps r h hp;unfold zce at h;split at h
 ·rename_i a0 a1 a2;cases h;obtain⟨⟨⟨⟨bs,hbs,hb1,hb2⟩,⟨ms,hms,hm1,hm2⟩⟩,hcv⟩,⟨ls,hls,hin,hll⟩⟩:=(zp.1 hp).1;rw[hbs,hms,jG,qB]at hcv;have g1:V.frzs a0=a0:=by rw[hbs,ko]
  have g2:V.frzs a1=a1:=by rw[hms,jy]
  have hbl:a0.length=bs.length:=by rw[hbs,qw]
  have hml:a1.length=ms.length:=by rw[hms,ye]
  have gb:∀k,a0.getD k (.agg [.slc false 2 (.int .i64 0) []])=.agg [.slc false 2 (.int .i64 0) (I (bs.getD k []))]:=fun k=>by rw[hbs,YT]
  have gm:∀k,a1.getD k (.slc false 2 (.int .i64 0) [])=.slc false 2 (.int .i64 0) (I (ms.getD k [])):=fun k=>by rw[hms,qu]
  have hm0:∀x y:Nat,(ms.getD x []).getD y 0=mm ms x y:=fun _ _=>rfl;obtain⟨n,hn⟩:=qEI bs.length;have n1:=hcv.n1;have n6:=hcv.n6;have hmn:ms.length=bs.length:=hcv.tab.len;have hbr:∀i,i<bs.length->Br (bs.getD i []):=fun i hi=>zaK (hcv.br i hi);have rl:∀k,k<bs.length->(ms.getD k []).length=bs.length:=fun k hk=>(hcv.tab.row k hk).1;have mmr:∀i k,i<bs.length->k<bs.length->0<=mm ms i k/\mm ms i k<=200:=fun i k hi hk=>hcv.tab.range hi hk;have mmo:∀i k,i<bs.length->k<bs.length->i≠k->1<=mm ms i k/\mm ms i k<=200:=fun i k hi hk hne=>((hcv.tab.row i hi).2 k hk).2 hne;rw[hbl]at hin;have hf0:uF a0 a1 a2=(BB true (Yr bs ls),II true (Kf ms ls)):=by rw[uF,hbs,hms,hls,jG,qB,zl]
  have hal:a2.length=ls.length:=by rw[hls,zg]
  have gl:∀k,a2.getD k (.int .i64 0)=.int .i64 (ls.getD k 0):=fun k=>by rw[hls,zG]
  obtain⟨m,hm⟩:=qEI ls.length;generalize qO:same=jK,yu:qU=yP;refine zH (B:=[(74,zdP jK yP)]) (Bi:=[]) [2000010050,0,1,2,4,5,6,7,8] Tryz.func67 rfl rfl (by subst qO yu;exact(zm zfg zF)) zA ?_;intro L lp rr hL hr hf hlp;have qcp:∀x,Br x->yP (I x):=fun x hx=>by rw[<-yu];exact⟨⟨_,rfl⟩,by rw[zg];have:=hx.len;omega⟩
  have ecp:∀x,jK (I x)=I x:=fun x=>by rw[<-qO];rfl
  conv=>cbv
  refine hlp ((List V×List V)×Int) _ _ _ [1,2,4,5,6] (fun x=>[(wJ3 1 a2),(2,none,.val (.box 31 (.agg [.slc false 49 (.agg [.slc false 2 (.int .i64 0) []]) a0,.slc false 24 (.slc false 2 (.int .i64 0) []) a1]))),(4,none,.val (.box 31 (.agg [.slc true 49 (.agg [.slc true 2 (.int .i64 0) []]) [],.slc true 24 (.slc true 2 (.int .i64 0) []) []]))),(5,none,.val (.box 31 (.agg [.slc true 49 (.agg [.slc true 2 (.int .i64 0) []]) x.1.1,.slc true 24 (.slc true 2 (.int .i64 0) []) x.1.2]))),(wJ0 6 x.2)])
   (fun x=>0<=x.2/\x.2<=m/\x.1.1=BB true (Yr bs (ls.take x.2.toNat))/\x.1.2=II true (zaU ms ls x.2.toNat)) (fun x=>(m-x.2).toNat) ((([],[]),0)) (by subst hL;rfl) ?_ ?_
  ·exact⟨by simp,by simp only;omega,rfl,rfl⟩
  rintro⟨⟨fs,gs⟩,i⟩ ⟨i0,i1,hI,hJ⟩ hfx ag hag;simp only at i0 i1 hI hJ
  conv=>cbv
  simp only[zo hL,sQ,hal,gl,<-hm];refine⟨fun h2=>?_,fun h2=>?_⟩
  ·have hil:i.toNat<ls.length:=(by omega);have hxi:=hin _ hil;obtain⟨x,hx⟩:=qEx (ls.getD i.toNat 0);rw[<-hx]at hxi;have hbx:=hbr x.toNat (by omega);have hrx:=rl x.toNat (by omega);have hfl:fs.length<=1000:=(by rw[hI,qw,zhz,zV];omega);have hgl:gs.length<=1000:=(by rw[hJ,ye,zaU,List.length_map,zV];omega);have qx:=qcp _ hbx
   refine hlp (List V×Int) _ _ _ [1,2,4,5,6,7,8] (fun y=>[(wJ3 1 a2),(2,none,.val (.box 31 (.agg [.slc false 49 (.agg [.slc false 2 (.int .i64 0) []]) a0,.slc false 24 (.slc false 2 (.int .i64 0) []) a1]))),(4,none,.val (.box 31 (.agg [.slc true 49 (.agg [.slc true 2 (.int .i64 0) []]) [],.slc true 24 (.slc true 2 (.int .i64 0) []) []]))),(5,none,.val (.box 31 (.agg [.slc true 49 (.agg [.slc true 2 (.int .i64 0) []]) fs,.slc true 24 (.slc true 2 (.int .i64 0) []) gs]))),(wJ0 6 i),(wJ2 7 y.1),(wJ0 8 y.2)])
    (fun y=>0<=y.2/\y.2<=m/\y.1=I (zgq ms (ls.take y.2.toNat) x)) (fun y=>(m-y.2).toNat) (([],0)) (by subst hL;rfl) ?_ ?_
   ·exact⟨by simp,by simp only;omega,rfl⟩
   rintro⟨rs,k⟩ ⟨k0,k1,hK⟩ hfx2 ag2 hag2;simp only at k0 k1 hK
   conv=>cbv
   simp only[zo hL,sQ,hal,gl,gm,hml,hm0,<-hx,hrx,<-hm,hbl,gb,Yh,KK,KY,ecp];refine⟨fun h3=>?_,fun h3=>?_⟩
   ·have hkl:k.toNat<ls.length:=(by omega);have hyk:=hin _ hkl;have hrs:rs.length<=1000:=(by rw[hK,zg,zsy,zV];omega);rw[zn (n:=k+1)]
    (repeat' first|(exact yL _)|(exact jY rfl)|(exact qG _)|(apply And.intro)|(intro _))<;>(try first|exact True.intro|omega|rfl|(simp only[zj,zu,zg];omega))
    refine hag2 (_,k+1) ⟨by simp only;omega,by simp only;omega,?_⟩ (by simp only;omega);simp only[ya k0];rw[zqY _ _ _ _ hkl,hK,<-qW];rfl
   ·have hrs:rs=I (zgq ms ls x):=(by rw[hK,zB (by omega)]);obtain⟨fs',hfs'⟩:=qEx (fs++[V.agg [.slc true 2 (.int .i64 0) (I (bs.getD x.toNat []))]]);rw[zn (n:=i+1),<-hfs']
    have hff:fs'=BB true (Yr bs (ls.take (i.toNat+1))):=by
     rw[zoB _ _ _ hil,hfs',hI,<-hx];simp[BB]
    have hgg:gs++[V.slc true 2 (.int .i64 0) rs]=II true (zaU ms ls (i.toNat+1)):=by
     rw[zoy _ _ _ hil,Zv,hJ,hrs,<-hx];rfl
    refine⟨i0,h2,hxi.1,hxi.2,qx,by simp only[zj,zu];omega,jY rfl,by simp only[zj,zu];omega,jY rfl,hag ((fs',_),i+1) ⟨by simp only;omega,by simp only;omega,?_,?_⟩ (by simp only;omega)⟩
    ·simp only[ya i0];exact hff
    ·simp only[ya i0];exact hgg
  ·rw[hr,hf0,hI,hJ,zB (by omega),zoA _ _ (by omega)]
 ·cases h
def okp(n:Nat)(l:List Int):Bool:= !(l.length==0)&&Ky l&&jk l 0 ((n:Int)-1)
theorem zqM{l:List Int}{a b:Int}:jk l a b=true↔∀i,i<l.length->a<=l.getD i 0/\l.getD i 0<=b:=by
 simp only[jk,yc,yn,zh,decide_eq_true_eq];constructor
 ·intro h i hi;rw[<-Qz hi];exact h _ (yq hi)
 ·intro h x hx;obtain⟨i,hi,rfl⟩:=qS.1 hx;rw[Qz hi];exact h i hi
theorem zwN{l:List Int}(h:Ky l=true):∀i,i<l.length->l.getD 0 0+i<=l.getD i 0
 |0,_=>by simp
 |i+1,hi=>by
  have h1:=zwN h i (by omega);have h2:=zkn l h i hi;omega
theorem zsT{n:Nat}{l:List Int}(h:okp n l=true):InL n l/\l.length<=n/\0<l.length:=by
 simp only[okp,zh,yK,beq_eq_false_iff_ne]at h;obtain⟨⟨h1,h2⟩,h3⟩:=h;have h4:=zqM.1 h3;have hp:0<l.length:=by omega
 have h5:=zwN h2 (l.length-1) (by omega);have h6:=h4 (l.length-1) (by omega);have h7:=h4 0 hp;refine⟨fun k hk=>by have:=h4 k hk;omega,by omega,hp⟩
theorem zAv:∀(l:List Int),(∀i,i+1<l.length->l.getD i 0<l.getD (i+1) 0)->Ky l=true
 |[],_=>rfl
 |[x],_=>rfl
 |x::y::l,h=>by
  have h0:=h 0 (by simp);have h1:=zAv (y::l) (fun i hi=>by have:=h (i+1) (by simpa using hi);simpa using this);simp only[qh,yT]at h0;simp only[Ky]at h1 ⊢;simp[h0,h1]
def Jo(f:List V->List V->List V->List V×List V×Int)(q:List V->List V->List V->Prop):zO:=fun
 |[.agg [.slc false 49 (.agg [.slc false 2 (.int .i64 0) []]) a0,.slc false 24 (.slc false 2 (.int .i64 0) []) a1],.slc false 2 (.int .i64 0) a2]=>some ([q a0 a1 a2],.tup [.agg [.slc true 49 (.agg [.slc true 2 (.int .i64 0) []]) ((f a0 a1 a2).1),.slc true 24 (.slc true 2 (.int .i64 0) []) ((f a0 a1 a2).2.1)],.int .i64 ((f a0 a1 a2).2.2)])
 |_=>none
noncomputable def zgK(a b l:List V):List V×List V×Int:=bif jZ a b then(bif okp a.length (yD l)then((uF a b l).1,(uF a b l).2,0)else([],[],2))else([],[],1)
def zjN(a b l:List V):Prop:=q_C a b/\qU l
theorem zkZ:yM Tryz.prog 20 (Jo zgK zjN):=by
 intro args ps r h hp;unfold Jo at h;split at h
 ·rename_i a0 a1 a2;cases h;obtain⟨hq,⟨ls,hls⟩,hll⟩:zjN a0 a1 a2:=(zp.1 hp).1;have g1:=zfW hq.1.isBB;have g2:=zfV hq.2.isII;have g3:V.frzs a2=a2:=by rw[hls,zt]
  have hal:a2.length=ls.length:=by rw[hls,zg]
  obtain⟨n,hn⟩:=qEI a0.length
  have hnl:a0.length<=2147483647:=by
   obtain⟨bs,hbs,h1,_⟩:=hq.1;rw[hbs,qw];exact h1
  have e1:ze3 a2=Ky ls:=by rw[ze3,hls,zl]
  have e2:∀x y,JO a2 x y=jk ls x y:=fun x y=>by rw[JO,hls,zl]
  have eo:okp a0.length ls=(!((ls.length:Int)==0)&&Ky ls&&jk ls 0 (n-1)):=by
   rw[okp,hn];congr 2;congr 1;rw[ZQ,beq_iff_eq,beq_iff_eq];omega
  generalize kK:jZ=uW,YS:q_C=zae,zhb:ze3=znZ,zhX:Yo=zkv,JF:JO=zbJ,zbm:uF=zcN,zbi:zgs=zcM;refine zH (B:=[(11,zdR uW zae),(68,zcI znZ zkv),(69,zal zbJ zkv),(70,zce zcN zcM)]) (Bi:=[]) [0,1,2,4,5] Tryz.func20 rfl rfl (by subst kK YS zhb zhX JF zbm zbi;exact(zm Kp (zm ziC (zm zfk (zm zrF zF))))) zA ?_;intro L lp rr hL hr hf hlp
  conv=>cbv
  simp only[zo hL,sQ,g1,g2,g3,hal,<-hn];subst kK YS zhb zhX JF zbm zbi;rw[zn (n:=n-1)];simp only[e1,e2];refine⟨hq,fun h=>?_,fun h=>⟨fun _=>⟨ls,hls⟩,fun _=>⟨ls,hls⟩,fun h2=>?_,fun h2=>?_⟩⟩
  ·rw[hr,zgK,h];rfl
  ·have:okp a0.length ls=false:=by
    rw[eo];rcases h2 with(h2|h2)|h2
    ·rw[h2];rfl
    ·rw[h2,Bool.and_false];rfl
    ·rw[h2,Bool.and_false]
   rw[hr,zgK,h,hls,zl,this];rfl
  ·have:okp a0.length ls=true:=by
    rw[eo,h2.1.2,h2.2,beq_eq_false_iff_ne.2 h2.1.1];rfl
   obtain⟨k1,k2,k3⟩:=zsT this;refine⟨⟨zfR hq h,ls,hls,k1,?_⟩,?_⟩
   ·obtain⟨bs,hbs,_⟩:=hq.1;have:=(za0.1 h).n6;rw[hbs,jG]at this;rw[hbs,qw]at k2;omega
   ·rw[hr,zgK,h];rw[show yD a2=ls by rw[hls,zl],this];rfl
 ·cases h
theorem zkW:yM Tryz.prog 21 (Jo zgK zjN):=by
 intro args ps r h hp;unfold Jo at h;split at h
 ·rename_i a0 a1 a2;cases h;obtain⟨hq,⟨ls,hls⟩,hll⟩:zjN a0 a1 a2:=(zp.1 hp).1;have g1:=zfW hq.1.isBB;have g2:=zfV hq.2.isII;have g3:V.frzs a2=a2:=by rw[hls,zt]
  have hal:a2.length=ls.length:=by rw[hls,zg]
  have gl:∀k,a2.getD k (.int .i64 0)=.int .i64 (ls.getD k 0):=fun k=>by rw[hls,zG]
  obtain⟨n,hn⟩:=qEI a0.length
  have hnl:a0.length<=2147483647:=by
   obtain⟨bs,hbs,h1,_⟩:=hq.1;rw[hbs,qw];exact h1
  have hf0:jZ a0 a1=true->zgK a0 a1 a2=bif okp a0.length ls then((uF a0 a1 a2).1,(uF a0 a1 a2).2,0)else([],[],2):=fun h=>by rw[zgK,h,cond_true,hls,zl]
  have hw1:IntKind.wrap .i64 (n-1)=n-1:=zn (by omega) (by omega);generalize kK:jZ=uW,YS:q_C=zae,yG:yn=qd,zbm:uF=zcN,zbi:zgs=zcM;refine zH (B:=[(65,zdR uW zae),(71,qM qd),(67,zce zcN zcM)]) (Bi:=[]) [0,1,2,4,5,6] Tryz.func21 rfl rfl (by subst kK YS yG zbm zbi;exact(zm zkU (zm QG (zm ziq zF)))) zA ?_;intro L lp rr hL hr hf hlp;have hwi:∀x,qd x 0 (n-1)=(decide (0<=x)&&decide (x<=n-1)):=fun x=>by rw[<-yG];rfl
  have Ep:zcN a0 a1 a2=uF a0 a1 a2:=by rw[zbm]
  have Qp:zgs a0 a1 a2->zcM a0 a1 a2:=fun h=>by rw[<-zbi];exact h
  conv=>cbv
  have E1:uW a0 a1=jZ a0 a1:=by rw[kK]
  simp only[zo hL,sQ,g1,g2,g3,hal,<-hn,E1];subst kK YS;refine⟨hq,fun h=>?_,fun h=>⟨fun h2=>?_,fun h2=>?_⟩⟩
  ·rw[hr,zgK,h];rfl
  ·have:ls=[]:=List.eq_nil_of_length_eq_zero (by omega);rw[hr,hf0 h,this];rfl
  have hpos:0<ls.length:=by omega
  refine hlp (Int) _ _ _ [1,2,4,6] (fun x=>[(wJ3 1 a2),(2,none,.val (.box 31 (.agg [.slc false 49 (.agg [.slc false 2 (.int .i64 0) []]) a0,.slc false 24 (.slc false 2 (.int .i64 0) []) a1]))),(4,none,.val (.box 31 (.agg [.slc true 49 (.agg [.slc true 2 (.int .i64 0) []]) [],.slc true 24 (.slc true 2 (.int .i64 0) []) []]))),(wJ0 6 x)])
   (fun x=>0<=x/\x<=ls.length/\(∀k,k<x.toNat->0<=ls.getD k 0/\ls.getD k 0<=n-1)/\(∀k,k+1<x.toNat->ls.getD k 0<ls.getD (k+1) 0)) (fun x=>(ls.length-x).toNat) (0) (by subst hL;rfl) ?_ ?_
  ·exact⟨by simp,by simp,fun k hk=>by simp at hk,fun k hk=>by simp at hk⟩
  rintro i ⟨i0,i1,hA,hB⟩ hfx ag hag
  conv=>cbv
  simp only[zo hL,sQ,hal,gl,<-hn,hw1,hwi,g1,g2,g3,Ep]
  have hbad:¬(∀k,k<ls.length->0<=ls.getD k 0/\ls.getD k 0<=n-1)\/¬(∀k,k+1<ls.length->ls.getD k 0<ls.getD (k+1) 0)->okp a0.length ls=false:=fun hb=>by
   cases ho:okp a0.length ls with
   |false=>rfl
   |true=>
    exfalso;have h3:=(zsT ho).1;simp only[okp,zh]at ho;rcases hb with hb|hb
    ·exact hb fun k hk=>by have:=h3 k hk;omega
    ·exact hb fun k hk=>zkn ls ho.1.2 k hk
  refine⟨fun h3=>?_,fun h3=>?_⟩
  ·have hil:i.toNat<ls.length:=(by omega);have hw:0<i->IntKind.wrap .i64 (i-1)=i-1:=fun _=>zn (by omega) (by omega);refine⟨i0,by omega,fun _=>i0,fun _=>by omega,fun _=>trivial,fun h=>by rw[hw h.2];omega,fun h=>by rw[hw h.2];omega,fun _=>trivial,fun h h'=>⟨h,h'⟩,fun h4=>?_,fun h4=>?_⟩
   ·have:okp a0.length ls=false:=by
     refine hbad ?_;rcases h4 with h4|⟨h4,h5⟩
     ·exact .inl fun hh=>by have:=hh i.toNat hil;omega
     ·refine .inr fun hh=>?_;have:=hh (i.toNat-1) (by omega);rw[hw h4,show(i-1).toNat=i.toNat-1 by omega]at h5;rw[show i.toNat-1+1=i.toNat by omega]at this;omega
    rw[hr,hf0 h,this];rfl
   ·rw[zn (n:=i+1)];refine hag (i+1) ⟨by omega,by omega,fun k hk=>?_,fun k hk=>?_⟩ (by omega)
    ·by_cases hki:k=i.toNat
     ·rw[hki];exact h4.1
     ·exact hA k (by omega)
    ·by_cases hki:k+1=i.toNat
     ·have h5:=h4.2.resolve_left (by omega);rw[hw (by omega),show(i-1).toNat=k by omega]at h5;rw[hki];omega
     ·exact hB k (by omega)
  ·have ho:okp a0.length ls=true:=by
    simp only[okp,zh,yK,beq_eq_false_iff_ne];refine⟨⟨by omega,zAv ls (fun k hk=>hB k (by omega))⟩,zqM.2 (fun k hk=>?_)⟩;have:=hA k (by omega);omega
   obtain⟨k1,k2,_⟩:=zsT ho;refine⟨Qp ⟨zfR hq h,ls,hls,k1,?_⟩,?_⟩
   ·obtain⟨bs,hbs,_⟩:=hq.1;have:=(za0.1 h).n6;rw[hbs,jG]at this;rw[hbs,qw]at k2;omega
   ·rw[hr,hf0 h,ho];rfl
 ·cases h
def tk(ms:List (List Int))(i:Nat):Option Nat:=(List.range i).find? fun k=>decide (2<=mm ms i k)
def zkP(ms:List (List Int)):Nat->List Int×Int
 |0=>([],0)
 |i+1=>match tk ms i with
  |some k=>((zkP ms i).1++[(zkP ms i).1.getD k 0],(zkP ms i).2)
  |none=>((zkP ms i).1++[(zkP ms i).2],(zkP ms i).2+1)
def Val:Nat->Nat->List Nat->Prop
 |_,e,[]=>e=1
 |p,e,t::l=>p<t/\t<=2000/\Nat.gcd e t≠e/\Val t (Nat.gcd e t) l
def uw:Nat->Nat->List Nat->List Nat
 |_,_,[]=>[]
 |p,e,t::l=>ex (t-p) e++uw t (Nat.gcd e t) l
theorem Val.weak{p p' e:Nat}{l:List Nat}(h:Val p e l)(hp:p'<=p):Val p' e l:=by
 cases l with
 |nil=>exact h
 |cons t l=>exact⟨by have:=h.1;omega,h.2⟩
theorem zri{e t s:Nat}(he:e ∣ s)(hs:s<=t):Nat.gcd e (t-s)=Nat.gcd e t:=by
 obtain⟨k,rfl⟩:=he;have h:t=(t-e*k)+k*e:=by rw[um k e];omega
 conv=>rhs;rw[h]
 rw[KH]
def zGo(n:Nat):List Nat->List Nat
 |[]=>[1]
 |t::l=>if 2*n<=t then n::(t-n)::l.map (·-n)else if n%(t-n)=0 then(t-n)::l.map (·-(t-n))else(t-n)::n::l.map (·-(t-n))
structure BrN (n:Nat) (l:List Nat):Prop where
 lo:1<=n
 hi:n<=64
 val:Val n n l
theorem ziU{k e:Nat}(he:0<e)(hd:¬e ∣ k):∃x,ex k e=List.replicate (k/e) e++(k%e)::x/\0<k%e/\k%e<e:=by
 have h1:0<k%e:=Nat.pos_of_ne_zero fun h=>hd (Nat.dvd_of_mod_eq_zero h);have h2:k%e<e:=Nat.mod_lt _ he;have h3:0<e/(k%e):=Nat.div_pos (by omega) h1;refine⟨List.replicate (e/(k%e)-1) (k%e)++ex (k%e) (e%(k%e)),?_,h1,h2⟩;rw[uS he,uS h1]
 conv=>lhs;rw[show e/(k%e)=(e/(k%e)-1)+1 by omega]
 rw[yI,yf]
theorem zjW{p e t:Nat}(hp:e ∣ p)(h:p<t)(hg:Nat.gcd e t≠e):¬e ∣ (t-p):=fun h2=>by
 refine hg (Nat.gcd_eq_left ?_);have:=Nat.dvd_add h2 hp
 rwa [show t-p+p=t by omega]at this
def zbC(e:Nat):List Nat->Nat
 |[]=>0
 |x::l=>if x=e then zbC e l+1 else 0
theorem ztj{e r:Nat}(h:r≠e)(x:List Nat):∀q,zbC e (List.replicate q e++r::x)=q
 |0=>by simp[zbC,h]
 |q+1=>by rw[yI,yf,zbC,if_pos rfl,ztj h x q]
def zsR:Nat->Nat->Nat->List Nat->List Nat
 |0,_,_,_=>[]
 |k+1,p,e,L=>if e<=1 then[]else
   (p+(zbC e L*e+L.getD (zbC e L) 0))::zsR k (p+(zbC e L*e+L.getD (zbC e L) 0)) (Nat.gcd e (p+(zbC e L*e+L.getD (zbC e L) 0))) (L.drop (ex (zbC e L*e+L.getD (zbC e L) 0) e).length)
theorem zzB:∀(l:List Nat) (p e:Nat),0<e->e ∣ p->Val p e l->∀(m k:Nat),l.length<k->zsR k p e (uw p e l++List.replicate m 1)=l
 |[],p,e,_,_,h,m,0,hk=>by simp at hk
 |[],p,e,_,_,h,m,k+1,_=>by
  have h1:e=1:=h;rw[zsR,if_pos (by omega)]
 |t::l,p,e,he,hp,h,m,0,hk=>by simp at hk
 |t::l,p,e,he,hp,h,m,k+1,hk=>by
  obtain⟨h1,h2,h3,h4⟩:=h
  have he2:¬e<=1:=fun h5=>h3 (by
   have:e=1:=(by omega);subst this
   exact Nat.gcd_one_left t)
  obtain⟨x,hx,hr0,hr1⟩:=ziU he (zjW hp h1 h3);obtain⟨X,hX⟩:=qEx (uw t (Nat.gcd e t) l++List.replicate m 1);have hL:uw p e (t::l)++List.replicate m 1=ex (t-p) e++X:=by rw[uw,zU,hX]
  have hL2:ex (t-p) e++X=List.replicate ((t-p)/e) e++((t-p)%e)::(x++X):=by rw[hx];simp
  have hq:zbC e (ex (t-p) e++X)=(t-p)/e:=by rw[hL2,ztj (by omega)]
  have hg:(ex (t-p) e++X).getD ((t-p)/e) 0=(t-p)%e:=by
   rw[hL2,zd,yr (by rw[zx];exact zw _),zx,kF];rfl
  have hk2:(t-p)/e*e+(t-p)%e=t-p:=by rw[um];exact Nat.div_add_mod _ _
  rw[hL,zsR,if_neg he2,hq,hg,hk2,show p+(t-p)=t by omega,List.drop_left,hX,
   zzB l t (Nat.gcd e t) (ue t he) (Nat.gcd_dvd_right e t) h4 m k (by simpa using hk)]
def yg(l:List Nat):List Int:=l.map fun x:Nat=>(x:Int)
def zgF(l:List Int):List Nat:=l.map Int.toNat
theorem Jm(l:List Nat):zgF (yg l)=l:=by
 rw[zgF,yg,List.map_map]
 conv=>rhs;rw[<-List.map_id l]
 rfl
theorem qD(l:List Nat):(yg l).length=l.length:=by simp[yg]
theorem Ys(a b:List Nat):yg (a++b)=yg a++yg b:=by simp[yg]
theorem YC(l:List Nat)(i d:Nat):(yg l).getD i (d:Int)=((l.getD i d:Nat):Int):=by
 simp only[yg,zd,List.getElem?_map];cases l[i]? <;>rfl
def zlL(n:Nat)(l:List Nat)(L:List Int):Prop:=BrN n l/\L≠[]/\∃m,L=yg (uw 0 n l++List.replicate m 1)
def zuC(L:List Int):List Int:=yg ((zgF L).getD 0 0::zsR 3000 0 ((zgF L).getD 0 0) (zgF L))
theorem zlV:∀(l:List Nat) (p e:Nat),Val p e l->p<=2000->l.length+p<=2000
 |[],p,e,_,hp=>by simpa using hp
 |t::l,p,e,h,_=>by
  have:=zlV l t _ h.2.2.2 h.2.1;have:=h.1;simp only[zj];omega
theorem zf6{n:Nat}{l:List Nat}{L:List Int}(h:zlL n l L):zuC L=yg (n::l):=by
 obtain⟨hb,hne,m,rfl⟩:=h;have hlo:=hb.lo;have hhi:=hb.hi
 have h0:(uw 0 n l++List.replicate m 1).getD 0 0=n:=by
  cases l with
  |nil=>
   have h1:n=1:=hb.val;subst h1
   cases m with
   |zero=>simp[uw,yg]at hne
   |succ m=>rfl
  |cons t l=>
   have h1:=hb.val.1;have h2:0<t/n:=Nat.div_pos (by omega) (by omega);rw[uw,uS (by omega),ZM,show t/n=(t/n-1)+1 by omega,yI];rfl
 rw[zuC,Jm,h0,zzB l 0 n (by omega) ⟨0,rfl⟩ (hb.val.weak (by omega)) m 3000 (by have:=zlV l n n hb.val (by omega);omega)]
theorem zlp{a b:Nat}(ha:0<a)(hb:0<b):jq (a:Int) (b:Int)=((Nat.gcd a b:Nat):Int):=by
 rw[jq,zey (by omega),zey (by omega),zj5 _ _ _ (zw _) (by omega) (by omega),zL,zL]
theorem zuB:∀(l:List Nat) (p e:Nat),1<=p->p<=2000->1<=e->(zgU (p:Int) (e:Int) (yg l)=true↔Val p e l)
 |[],p,e,_,_,_=>by
  simp only[yg,List.map_nil,zgU,Val,beq_iff_eq];omega
 |t::l,p,e,hp,hp2,he=>by
  have hw:IntKind.wrap .i64 ((p:Int)+1)=(p:Int)+1:=zn (by omega) (by omega);simp only[yg,qo,zgU,Val,hw];by_cases h:p<t/\t<=2000
  ·have hi:yn (t:Int) ((p:Int)+1) 2000=true:=by
    simp only[yn,zh,decide_eq_true_eq];omega
   rw[hi,zlp (by omega) (by omega)];have ih:=zuB l t (Nat.gcd e t) (by omega) h.2 (ue t (by omega));rw[yg]at ih;by_cases hg:Nat.gcd e t=e
   ·have hb:(((Nat.gcd e t:Nat):Int)==(e:Int))=true:=(by rw[hg];simp);rw[hb];simp[hg]
   ·have hb:(((Nat.gcd e t:Nat):Int)==(e:Int))=false:=by
     rw[beq_eq_false_iff_ne];omega
    rw[hb];simp only[Bool.not_true,cond_false,ih];exact⟨fun h2=>⟨h.1,h.2,hg,h2⟩,fun h2=>h2.2.2.2⟩
  ·have hi:yn (t:Int) ((p:Int)+1) 2000=false:=by
    rw[<-Bool.not_eq_true];simp only[yn,zh,decide_eq_true_eq];omega
   rw[hi];simp only[Bool.not_false,cond_true,yJ,false_iff];exact fun h2=>h ⟨h2.1,h2.2.1⟩
theorem zB4{n:Nat}{l:List Nat}:uE (yg (n::l))=true↔BrN n l:=by
 have h0:(((yg (n::l)).length:Int)==0)=false:=by
  rw[beq_eq_false_iff_ne,qD];simp only[zj];omega
 have h1:(yg (n::l)).getD 0 0=(n:Int):=rfl;have h2:(yg (n::l)).drop 1=yg l:=rfl;rw[<-ztp,zfJ,h0,h1,h2];by_cases h:1<=n/\n<=64
 ·have hi:yn (n:Int) 1 64=true:=by
   simp only[yn,zh,decide_eq_true_eq];omega
  rw[hi];simp only[cond_false,Bool.not_true];rw[zuB l n n h.1 (by omega) h.1];exact⟨fun h3=>⟨h.1,h.2,h3⟩,fun h3=>h3.val⟩
 ·have hi:yn (n:Int) 1 64=false:=by
   rw[<-Bool.not_eq_true];simp only[yn,zh,decide_eq_true_eq];omega
  rw[hi];simp only[cond_false,Bool.not_false,cond_true,yJ,false_iff];exact fun h3=>h ⟨h3.lo,h3.hi⟩
theorem zld{n:Nat}{l:List Nat}(h:BrN n l):Br (yg (n::l)):=zaK (zB4.2 h)
theorem zrn:∀(l:List Int) (d:Int) (i:Nat),i+1<l.length->(ZL d l).getD (i+1) 0=jq ((ZL d l).getD i 0) (l.getD (i+1) 0)
 |[],d,i,h=>by simp at h
 |[x],d,i,h=>by simp at h
 |x::y::l,d,0,h=>rfl
 |x::y::l,d,i+1,h=>by
  have:=zrn (y::l) (jq d x) i (by simpa using h);simpa [ZL]using this
theorem zww(a b:Nat):exI (a:Int) (b:Int)=yg (ex a b):=by
 rw[exI,zL,zL];rfl
theorem zv2{n:Nat}{l0:List Nat}:∀(l pre:List Nat) (p e:Nat),n::l0=pre++l->pre≠[]->0<e->(dv (yg (n::l0))).getD (pre.length-1) 0=(e:Int)->(if pre.length=1 then 0 else pre.getD (pre.length-1) 0)=p->Val p e l->
 (List.range' (pre.length-1) l.length).flatMap (zh6 (yg (n::l0)))=yg (uw p e l)
 |[],pre,p,e,_,_,_,_,_,_=>rfl
 |t::l,pre,p,e,hx,hne,he,hd,hp,hv=>by
  obtain⟨h1,h2,h3,h4⟩:=hv;have hpl:0<pre.length:=Yc.2 hne;have hlen:(n::l0).length=pre.length+(l.length+1):=by rw[hx,zr];rfl
  have hgt:(n::l0).getD pre.length 0=t:=by
   rw[hx,zd,yr (zw _),kF];rfl
  have hgp:pre.length≠1->(n::l0).getD (pre.length-1) 0=p:=fun h5=>by
   rw[if_neg h5]at hp;rw[hx,zd,yA (by omega),<-zd,hp]
  have hnl:(yg (n::l0)).length=pre.length+(l.length+1):=by rw[qD,hlen]
  have hk:Kt (yg (n::l0)) (pre.length-1)=((t-p:Nat):Int):=by
   have e1:(yg (n::l0)).getD (pre.length-1+1) 0=(t:Int):=by
    rw[show pre.length-1+1=pre.length by omega];have:=YC (n::l0) pre.length 0;rw[hgt]at this;exact this
   rw[Kt,e1];by_cases h5:pre.length=1
   ·rw[if_pos (by omega)];rw[if_pos h5]at hp;omega
   ·rw[if_neg (by omega)];have:=YC (n::l0) (pre.length-1) 0;rw[hgp h5]at this;have e2:(yg (n::l0)).getD (pre.length-1) 0=(p:Int):=this;rw[e2];omega
  have hrun:zh6 (yg (n::l0)) (pre.length-1)=yg (ex (t-p) e):=by rw[zh6,hk,hd,zww]
  have hd2:(dv (yg (n::l0))).getD ((pre++[t]).length-1) 0=((Nat.gcd e t:Nat):Int):=by
   rw[zr,zW,show pre.length+1-1=(pre.length-1)+1 by omega,dv,zrn _ _ _ (by omega),<-dv,hd];have:=YC (n::l0) pre.length 0;rw[hgt]at this;have e2:(yg (n::l0)).getD (pre.length-1+1) 0=(t:Int):=(by rw[show pre.length-1+1=pre.length by omega];exact this);rw[e2,zlp he (by omega)]
  have ih:=zv2 l (pre++[t]) t (Nat.gcd e t) (by rw[hx];simp) (by simp) (ue t he) hd2 (by
   rw[if_neg (by rw[zr,zW];omega),zr,zW,qJ,zd,yr (zw _),kF];rfl) h4
  rw[zr,zW,show pre.length+1-1=pre.length-1+1 by omega]at ih;rw[zj,List.range'_succ,List.flatMap_cons,hrun,ih,uw,Ys]
theorem zv1{n:Nat}{l:List Nat}(h:BrN n l):Zr (yg (n::l))=yg (uw 0 n l):=by
 have h1:=h.lo
 have hd:(dv (yg (n::l))).getD 0 0=(n:Int):=by
  have:=(zld h).d0;rw[this];rfl
 have:=zv2 l [n] 0 n rfl (by simp) (by omega) hd rfl (h.val.weak (by omega));rw[Zr,zeg,qD,zj,qJ,List.range_eq_range'];exact this
def zGp(xs:List Int):List Int:=yg (match zgF xs with
 |[]=>[]
 |n::l=>zGo n l)
theorem zGx{l:List Int}{t:Nat}(h:t<l.length):l.getD t 0∈l:=by
 rw[zd,ze h];exact yq h
def zc1(f:List V->Int->Int)(q:List V->Int->Prop):zO:=fun
 |[.slc false 2 (.int .i64 0) a0,.int .i64 a1]=>some ([q a0 a1],.int .i64 (f a0 a1))
 |_=>none
def idx(ls:List Int)(x:Int):Int:=match (List.range ls.length).find? fun t=>ls.getD t 0==x with
 |some t=>t
 |none=> -1
theorem zwo{ls:List Int}{x:Int}:decide (0<=idx ls x)=ls.contains x:=by
 rw[ZQ,decide_eq_true_eq,List.contains_iff_mem,idx]
 cases hf:(List.range ls.length).find? fun t=>ls.getD t 0==x with
 |some t=>
  rw[QZ]at hf;simp only[beq_iff_eq,jr]at hf;exact⟨fun _=>by rw[<-hf.1];exact zGx hf.2.1,fun _=>by simp only;omega⟩
 |none=>
  rw[ze8]at hf;refine⟨fun h=>by simp only at h;omega,fun h=>?_⟩;obtain⟨t,ht,he⟩:=qS.1 h;refine absurd ?_ (hf t (by simpa using ht));rw[zd,ze ht];simpa using he
def zaH(a:List V)(x:Int):Int:=idx (yD a) x
def JJ(a:List V)(_:Int):Prop:=qU a
theorem zhr:yM Tryz.prog 93 (zc1 zaH JJ):=by
 intro args ps r h hp;unfold zc1 at h;split at h
 ·rename_i a0 a1;cases h;obtain⟨⟨ls,hls⟩,hll⟩:JJ a0 a1:=(zp.1 hp).1;have hal:a0.length=ls.length:=by rw[hls,zg]
  rw[hal]at hll;have gl:∀k,a0.getD k (.int .i64 0)=.int .i64 (ls.getD k 0):=fun k=>by rw[hls,zG]
  have hf0:zaH a0 a1=idx ls a1:=by rw[zaH,hls,zl]
  refine zH (B:=[]) (Bi:=[]) [0,1,4,5] Tryz.func93 rfl rfl zF zA ?_;intro L lp rr hL hr hf hlp
  conv=>cbv
  refine hlp (Int) _ _ _ [0,1,5] (fun x=>[(wJ3 0 a0),(wJ0 1 a1),(wJ0 5 x)])
   (fun x=>0<=x/\x<=ls.length/\∀t,t<x.toNat->ls.getD t 0≠a1) (fun x=>(ls.length-x).toNat) (0) (by subst hL;rfl) ?_ ?_
  ·exact⟨by simp,by simp,fun t ht=>by simp at ht⟩
  rintro i ⟨i0,i1,hI⟩ hfx ag hag
  conv=>cbv
  simp only[zo hL,sQ,hal,gl];refine⟨fun h2=>⟨i0,by omega,fun h3=>?_,fun h3=>?_⟩,fun h2=>?_⟩
  ·have hfi:((List.range ls.length).find? fun t=>ls.getD t 0==a1)=some i.toNat:=by
    rw[QZ];refine⟨by simpa using h3,by simp only[jr];omega,fun t ht=>?_⟩;have:=hI t ht;simpa using this
   rw[hr,hf0,idx,hfi];simp only;rw[show((i.toNat:Nat):Int)=i by omega]
  ·rw[zn (n:=i+1)];refine hag (i+1) ⟨by omega,by omega,fun t ht=>?_⟩ (by omega)
   by_cases hti:t=i.toNat
   ·rw[hti];exact h3
   ·exact hI t (by omega)
  ·have hfi:((List.range ls.length).find? fun t=>ls.getD t 0==a1)=none:=by
    rw[ze8];intro t ht;simp only[jr]at ht;have:=hI t (by omega);simpa using this
   rw[hr,hf0,idx,hfi]
 ·cases h
def zas(f:List V->Int->Bool)(q:List V->Int->Prop):zO:=fun
 |[.slc false 2 (.int .i64 0) a0,.int .i64 a1]=>some ([q a0 a1],.bool (f a0 a1))
 |_=>none
def zdH(a:List V)(x:Int):Bool:=(yD a).contains x
theorem zkA:yM Tryz.prog 45 (zas zdH JJ):=by
 intro args ps r h hp;unfold zas at h;split at h
 ·rename_i a0 a1;cases h;have hq:JJ a0 a1:=(zp.1 hp).1;have g0:V.frzs a0=a0:=by obtain⟨⟨ls,hls⟩,_⟩:=hq;rw[hls,zt]
  generalize KB:zaH=zbL,uI:JJ=Zw;refine zH (B:=[(93,zc1 zbL Zw)]) (Bi:=[]) [0,1,4] Tryz.func45 rfl rfl (by subst KB uI;exact(zm zhr zF)) zA ?_;intro L lp rr hL hr hf hlp
  conv=>cbv
  simp only[zo hL,sQ,g0];subst KB uI;exact⟨hq,by rw[hr,zdH,<-zwo];rfl⟩
 ·cases h
theorem zkB:yM Tryz.prog 83 (zc1 zaH JJ):=by
 intro args ps r h hp;unfold zc1 at h;split at h
 ·rename_i a0 a1;cases h;obtain⟨⟨ls,hls⟩,hll⟩:JJ a0 a1:=(zp.1 hp).1;have hal:a0.length=ls.length:=by rw[hls,zg]
  rw[hal]at hll;have gl:∀k,a0.getD k (.int .i64 0)=.int .i64 (ls.getD k 0):=fun k=>by rw[hls,zG]
  have hf0:zaH a0 a1=idx ls a1:=by rw[zaH,hls,zl]
  obtain⟨n,hn⟩:=qEI ls.length;refine zH (B:=[]) (Bi:=[]) [0,1,4,5,7,8] Tryz.func83 rfl rfl zF zA ?_;intro L lp rr hL hr hf hlp
  conv=>cbv
  refine hlp (Int) _ _ _ [0,1,7,8] (fun x=>[(wJ3 0 a0),(wJ0 1 a1),(wJ0 7 n),(wJ0 8 x)])
   (fun x=>0<=x/\x<=n/\∀t,t<x.toNat->ls.getD t 0≠a1) (fun x=>(n-x).toNat) (0) (by subst hL;rw[hn,<-hal];rfl) ?_ ?_
  ·exact⟨by simp,by omega,fun t ht=>by simp at ht⟩
  rintro i ⟨i0,i1,hI⟩ hfx ag hag
  conv=>cbv
  simp only[zo hL,sQ,hal,gl];refine⟨fun h2=>⟨i0,by omega,fun h3=>?_,fun h3=>?_⟩,fun h2=>?_⟩
  ·have hfi:((List.range ls.length).find? fun t=>ls.getD t 0==a1)=some i.toNat:=by
    rw[QZ];refine⟨by simpa using h3.symm,by simp only[jr];omega,fun t ht=>?_⟩;have:=hI t ht;simpa using this
   rw[hr,hf0,idx,hfi];simp only;rw[show((i.toNat:Nat):Int)=i by omega]
  ·rw[zn (n:=i+1)];refine hag (i+1) ⟨by omega,by omega,fun t ht=>?_⟩ (by omega)
   by_cases hti:t=i.toNat
   ·rw[hti];exact fun h=>h3 h.symm
   ·exact hI t (by omega)
  ·have hfi:((List.range ls.length).find? fun t=>ls.getD t 0==a1)=none:=by
    rw[ze8];intro t ht;simp only[jr]at ht;have:=hI t (by omega);simpa using this
   rw[hr,hf0,idx,hfi]
 ·cases h
theorem znm:yM Tryz.prog 87 (zas zdH JJ):=by
 intro args ps r h hp;unfold zas at h;split at h
 ·rename_i a0 a1;cases h;have hq:JJ a0 a1:=(zp.1 hp).1;have g0:V.frzs a0=a0:=by obtain⟨⟨ls,hls⟩,_⟩:=hq;rw[hls,zt]
  generalize KB:zaH=zbL,uI:JJ=Zw;refine zH (B:=[(83,zc1 zbL Zw)]) (Bi:=[]) [0,1,4] Tryz.func87 rfl rfl (by subst KB uI;exact(zm zkB zF)) zA ?_;intro L lp rr hL hr hf hlp
  conv=>cbv
  simp only[zo hL,sQ,g0];subst KB uI;exact⟨hq,by rw[hr,zdH,<-zwo];rfl⟩
 ·cases h
def plN(L:List Int)(x:Int):Nat->List Int
 |0=>[]
 |n+1=>if L.getD n 0=x then plN L x n++[(n:Int)]else plN L x n
def okS(x:List Int):Bool:=decide ((sq1 x).length<=399)
def stB(bs:List (List Int))(ls:List Int)(j:Nat):List (List Int):=yQ (fun k=>if k<j then zGp (bs.getD (ls.getD k 0).toNat [])else bs.getD (ls.getD k 0).toNat []) ls.length
def dcR(ms:List (List Int))(ls:List Int)(i c:Nat):List Int:=yQ (fun k=>if k<c/\k≠i then mm ms (ls.getD i 0).toNat (ls.getD k 0).toNat-1 else mm ms (ls.getD i 0).toNat (ls.getD k 0).toNat) ls.length
def stM(ms:List (List Int))(ls:List Int)(j c:Nat):List (List Int):=yQ (fun i=>dcR ms ls i (if i<j then ls.length else if i=j then c else 0)) ls.length
abbrev Cur:Type:=List (List Int)×List (List Int)
def blS(bs ms:List (List Int))(L:List Int):Nat->Option (List Cur)
 |0=>some []
 |t+1=>(blS bs ms L t).bind fun o=>if(plN L t L.length).all (fun i=>okS (bs.getD i.toNat []))then some (o++[(stB bs (plN L t L.length) (plN L t L.length).length,stM ms (plN L t L.length) (plN L t L.length).length 0)])else none
def bl(bs ms:List (List Int))(n:Nat):Option (List Cur):=blS bs ms (zkP ms n).1 (zkP ms n).2.toNat
def zhB:List Int->Int->Int
 |[],m=>m
 |x::l,m=>zhB l (min m x)
def zpT:List Int->Int
 |[]=>0
 |x::l=>zhB l x
theorem zs7:∀(l:List Int) (m:Int),0<=zhB l m↔0<=m/\∀x∈l,0<=x
 |[],m=>by simp[zhB]
 |x::l,m=>by
  rw[zhB,zs7 l];simp only[zJ,forall_eq_or_imp];constructor
  ·rintro⟨h1,h2⟩;exact⟨by omega,by omega,h2⟩
  ·rintro⟨h1,h2,h3⟩;exact⟨by omega,h3⟩
theorem zDT{l:List Int}(h:l≠[]):0<=zpT l↔∀x∈l,0<=x:=by
 cases l with
 |nil=>exact absurd rfl h
 |cons x l=>rw[zpT,zs7];simp
def zlv(a:List V):Int:=zpT (yD a)
theorem zvq:yM Tryz.prog 81 (zyO zlv zBC):=by
 intro args ps r h hp;unfold zyO at h;split at h
 ·rename_i a0;cases h;obtain⟨⟨xs,hxs⟩,hne⟩:zBC a0:=(zp.1 hp).1;have hxl:a0.length=xs.length:=by rw[hxs,zg]
  have hf0:zlv a0=zpT xs:=by rw[zlv,hxs,zl]
  have hpos:0<xs.length:=by
   cases xs with
   |nil=>exact absurd hxs hne
   |cons x l=>simp
  have hmx:zpT xs=zhB (xs.drop 1) (xs.getD 0 0):=by
   cases xs with
   |nil=>simp at hpos
   |cons x l=>rfl
  refine zH (B:=[]) (Bi:=[]) [0,2,3,4] Tryz.func81 rfl rfl zF zA ?_;intro L lp rr hL hr hf hlp;have hlen:=hf.1.1
  conv=>cbv
  simp only[zo hL,hxl];refine⟨fun h=>?_,fun h=>⟨by omega,by omega,?_⟩⟩
  ·simp only[decide_eq_true_eq]at h;omega
  obtain⟨m0,hm0⟩:∃m0,a0.getD (Int.toNat 0) (.int .i64 0)=.int .i64 m0/\m0=xs.getD 0 0:=⟨_,by rw[hxs,zG];rfl,rfl⟩;simp only[hm0.1,Kq,uy,true_and]
  refine hlp (Int×Int) _ _ _ [0,3,4] (fun x=>[(wJ3 0 a0),(wJ0 3 x.1),(wJ0 4 x.2)])
   (fun x=>0<=x.2/\x.2<=xs.length/\zpT xs=zhB (xs.drop x.2.toNat) x.1) (fun x=>(xs.length-x.2).toNat) ((m0,1)) (by subst hL;rfl) ?_ ?_
  ·exact⟨by simp,by simp only;omega,by rw[hmx,hm0.2];rfl⟩
  rintro⟨m,i⟩ ⟨i0,i1,hI⟩ hfx ag hag
  conv=>cbv
  simp only at i0 i1 hI;rw[hxl]at hlen;subst hxs;simp only[zo hL,zg,zG,Kq,uy,imp_self,true_and,decide_eq_true_eq,decide_eq_false_iff_not];refine⟨fun h=>⟨i0,by omega,?_⟩,fun h=>?_⟩
  ·rw[zn (n:=i+1)];refine hag (_,i+1) ⟨by simp only;omega,by simp only;omega,?_⟩ (by simp only;omega);simp only[ya i0];rw[hI,YF 0 (show i.toNat<xs.length by omega),zhB]
  ·rw[hr,hf0,hI,List.drop_eq_nil_of_le (by omega)];rfl
 ·cases h
def jA(P S Q:List Int):List Int:=yQ (exL P S Q) P.length
def zaJ(P S Q:List Int):Bool:=(jA P S Q).all fun x=>decide (0<=x)
def uR(a b c:List V):Bool:=zaJ (yD a) (yD b) (yD c)
theorem zrj{pm:List (List Int)}{w:List Int}(hw:∀i,-100000<=w.getD i 0/\w.getD i 0<=100000):∀(j:Nat) (a:Nat),j<=24->-(100000*((j:Int)+1))<=Ya pm w j a/\Ya pm w j a<=100000*((j:Int)+1)
 |0,a,_=>by
  have:=hw a;rw[Ya];omega
 |j+1,a,hj=>by
  have h1:=zrj (pm:=pm) hw j a (by omega);have h2:=hw j;rw[Ya];split
  ·have e:W (Ya pm w j a-w.getD j 0)=Ya pm w j a-w.getD j 0:=zn (by omega) (by omega);rw[e];omega
  ·omega
theorem zz0{P S Q:List Int}(h:ClP P S Q)(a:Nat): -2500000<=exL P S Q a/\exL P S Q a<=2500000:=by
 have n24:=h.n24
 have hw:∀i,-100000<=Q.getD i 0/\Q.getD i 0<=100000:=fun i=>by
  by_cases hi:i<P.length
  ·exact h.q i hi
  ·rw[zd,zy (by rw[h.ql];omega)];simp
 have:=zrj (pm:=QB P S P.length P.length) hw P.length a (by omega);rw[exL];omega
theorem zfu:yM Tryz.prog 32 (Yv uR Zd):=by
 intro args ps r h hp;unfold Yv at h;split at h
 ·rename_i a0 a1 a2;cases h;have hqv:Zd a0 a1 a2:=(zp.1 hp).1;obtain⟨⟨⟨P,hP⟩,⟨S,hS⟩,⟨Q,hQ⟩⟩,hcl⟩:=id hqv;rw[hP,hS,hQ,zl,zl,zl]at hcl;have g0:V.frzs a0=a0:=by rw[hP,zt]
  have g1:V.frzs a1=a1:=by rw[hS,zt]
  have g2:V.frzs a2=a2:=by rw[hQ,zt]
  have hpl:a0.length=P.length:=by rw[hP,zg]
  have hsl:a1.length=P.length:=by rw[hS,zg,hcl.sl]
  have hql:a2.length=P.length:=by rw[hQ,zg,hcl.ql]
  have gp:∀k,a0.getD k (.int .i64 0)=.int .i64 (P.getD k 0):=fun k=>by rw[hP,zG]
  have gs:∀k,a1.getD k (.int .i64 0)=.int .i64 (S.getD k 0):=fun k=>by rw[hS,zG]
  have gq:∀k,a2.getD k (.int .i64 0)=.int .i64 (Q.getD k 0):=fun k=>by rw[hQ,zG]
  obtain⟨n,hn⟩:=qEI P.length;have n1:=hcl.n1;have n24:=hcl.n24;have low:=fun t ht=>hcl.low (i:=t) ht;have hf0:uR a0 a1 a2=zaJ P S Q:=by rw[uR,hP,hS,hQ,zl,zl,zl]
  have hfe:zdJ a0 a1 a2=I (jA P S Q):=by rw[zdJ,hpl,hP,hS,hQ,zl,zl,zl];rfl
  have hne:jA P S Q≠[]:=Yc.1 (by rw[jA,yi];omega);generalize zha:zdJ=zku,uJ:Zd=Zm,zuX:zlv=zCS,zAD:zBC=zFE;refine zH (B:=[(82,zr7 zku Zm),(81,zyO zCS zFE)]) (Bi:=[]) [0,1,2] Tryz.func32 rfl rfl (by subst zha uJ zuX zAD;exact(zm zhs (zm zvq zF))) zA ?_;intro L lp rr hL hr hf hlp
  conv=>cbv
  simp only[zo hL,sQ,g0,g1,g2];subst zha uJ zuX zAD;rw[hfe,zt];refine⟨hqv,⟨⟨_,rfl⟩,?_⟩,?_⟩
  ·intro h;exact hne (by rw[<-zl (jA P S Q),h];rfl)
  ·rw[hr,hf0,zlv,zl,zaJ];congr 1;rw[ZQ,decide_eq_true_eq,zDT hne,yc];simp
 ·cases h
theorem zjA:yM Tryz.prog 41 (Yv uR Zd):=by
 intro args ps r h hp;unfold Yv at h;split at h
 ·rename_i a0 a1 a2;cases h;have hqv:Zd a0 a1 a2:=(zp.1 hp).1;obtain⟨⟨⟨P,hP⟩,⟨S,hS⟩,⟨Q,hQ⟩⟩,hcl⟩:=id hqv;rw[hP,hS,hQ,zl,zl,zl]at hcl;have g0:V.frzs a0=a0:=by rw[hP,zt]
  have g1:V.frzs a1=a1:=by rw[hS,zt]
  have g2:V.frzs a2=a2:=by rw[hQ,zt]
  have hpl:a0.length=P.length:=by rw[hP,zg]
  have hsl:a1.length=P.length:=by rw[hS,zg,hcl.sl]
  have hql:a2.length=P.length:=by rw[hQ,zg,hcl.ql]
  have gp:∀k,a0.getD k (.int .i64 0)=.int .i64 (P.getD k 0):=fun k=>by rw[hP,zG]
  have gs:∀k,a1.getD k (.int .i64 0)=.int .i64 (S.getD k 0):=fun k=>by rw[hS,zG]
  have gq:∀k,a2.getD k (.int .i64 0)=.int .i64 (Q.getD k 0):=fun k=>by rw[hQ,zG]
  obtain⟨n,hn⟩:=qEI P.length;have n1:=hcl.n1;have n24:=hcl.n24;have low:=fun t ht=>hcl.low (i:=t) ht;have hf0:uR a0 a1 a2=zaJ P S Q:=by rw[uR,hP,hS,hQ,zl,zl,zl]
  have hfe:zdI a0 a1 a2 a2=I (jA P S Q):=by rw[zdI,hpl,hP,hS,hQ,zl,zl,zl];rfl
  obtain⟨vs,hvs⟩:=qEx (I (jA P S Q));rw[<-hvs]at hfe;have hvl:vs.length=P.length:=by rw[hvs,zg,jA,yi]
  have gv:∀k,vs.getD k (.int .i64 0)=.int .i64 ((jA P S Q).getD k 0):=fun k=>by rw[hvs,zG]
  have hel:(jA P S Q).length=P.length:=yi _ _;generalize zg9:zdI=zhf,zjd:zrV=zjq;refine zH (B:=[(89,zgS zhf zjq)]) (Bi:=[]) [0,1,2,3,4] Tryz.func41 rfl rfl (by subst zg9 zjd;exact(zm zgl zF)) zA ?_;intro L lp rr hL hr hf hlp;have Ee:zhf a0 a1 a2 a2=vs:=by rw[<-zg9];exact hfe
  have Qe:zjq a0 a1 a2 a2:=by rw[<-zjd];exact⟨hqv,rfl⟩
  conv=>cbv
  simp only[zo hL,sQ,g0,g1,g2,Ee];refine⟨Qe,?_⟩
  refine hlp (Int) _ _ _ [3,4] (fun x=>[(wJ2 3 vs),(wJ0 4 x)])
   (fun x=>0<=x/\x<=P.length/\∀t,t<x.toNat->0<=(jA P S Q).getD t 0) (fun x=>(P.length-x).toNat) (0) (by subst hL;rfl) ?_ ?_
  ·exact⟨by simp,by simp,fun t ht=>by simp at ht⟩
  rintro i ⟨i0,i1,hI⟩ hfx ag hag
  conv=>cbv
  simp only[zo hL,sQ,hvl,gv];refine⟨fun h2=>⟨i0,h2,by omega,fun h3=>?_,fun h3=>?_⟩,fun h2=>?_⟩
  ·rw[hr,hf0,zaJ]
   have:(jA P S Q).all (fun x=>decide (0<=x))=false:=by
    rw[List.all_eq_false];refine⟨_,ky (l:=jA P S Q) (t:=i.toNat) (by omega),?_⟩;simpa using h3
   rw[this]
  ·rw[zn (n:=i+1)];refine hag (i+1) ⟨by omega,by omega,fun t ht=>?_⟩ (by omega)
   by_cases h4:t<i.toNat
   ·exact hI t h4
   ·rw[show t=i.toNat by omega];omega
  ·rw[hr,hf0,zaJ]
   have:(jA P S Q).all (fun x=>decide (0<=x))=true:=by
    rw[yc];intro x hx;obtain⟨t,ht,rfl⟩:=zE8 hx;simpa using hI t (by omega)
   rw[this]
 ·cases h
def kC(l:List Int):Nat->List (List Int)
 |0=>[]
 |i+1=>kC l i++if 0<l.getD i 0 then[[(i:Int),l.getD i 0]]else[]
theorem zkc(l:List Int):∀i,(kC l i).length<=i
 |0=>by simp[kC]
 |i+1=>by
  have:=zkc l i;rw[kC,zr];split<;>simp<;>omega
def QP(a b c:List V):List V:=II true (kC (jA (yD a) (yD b) (yD c)) a.length)
theorem zuK(xs:List Int):II true [xs]=[.slc true 2 (.int .i64 0) (I xs)]:=rfl
theorem ziA:yM Tryz.prog 33 (zdQ QP Zd):=by
 intro args ps r h hp;unfold zdQ at h;split at h
 ·rename_i a0 a1 a2;cases h;have hqv:Zd a0 a1 a2:=(zp.1 hp).1;obtain⟨⟨⟨P,hP⟩,⟨S,hS⟩,⟨Q,hQ⟩⟩,hcl⟩:=id hqv;rw[hP,hS,hQ,zl,zl,zl]at hcl;have g0:V.frzs a0=a0:=by rw[hP,zt]
  have g1:V.frzs a1=a1:=by rw[hS,zt]
  have g2:V.frzs a2=a2:=by rw[hQ,zt]
  have hpl:a0.length=P.length:=by rw[hP,zg]
  have hsl:a1.length=P.length:=by rw[hS,zg,hcl.sl]
  have hql:a2.length=P.length:=by rw[hQ,zg,hcl.ql]
  have gp:∀k,a0.getD k (.int .i64 0)=.int .i64 (P.getD k 0):=fun k=>by rw[hP,zG]
  have gs:∀k,a1.getD k (.int .i64 0)=.int .i64 (S.getD k 0):=fun k=>by rw[hS,zG]
  have gq:∀k,a2.getD k (.int .i64 0)=.int .i64 (Q.getD k 0):=fun k=>by rw[hQ,zG]
  obtain⟨n,hn⟩:=qEI P.length;have n1:=hcl.n1;have n24:=hcl.n24;have low:=fun t ht=>hcl.low (i:=t) ht;have hf0:QP a0 a1 a2=II true (kC (jA P S Q) P.length):=by rw[QP,hpl,hP,hS,hQ,zl,zl,zl]
  have hfe:zdJ a0 a1 a2=I (jA P S Q):=by rw[zdJ,hpl,hP,hS,hQ,zl,zl,zl];rfl
  obtain⟨E,hE⟩:=qEx (jA P S Q);rw[<-hE]at hf0 hfe;obtain⟨vs,hvs⟩:=qEx (I E);rw[<-hvs]at hfe;have hvl:vs.length=P.length:=by rw[hvs,zg,hE,jA,yi]
  have gv:∀k,vs.getD k (.int .i64 0)=.int .i64 (E.getD k 0):=fun k=>by rw[hvs,zG]
  generalize zha:zdJ=zku,uJ:Zd=Zm;refine zH (B:=[(82,zr7 zku Zm)]) (Bi:=[]) [0,1,2,3,4,5,8,9,10] Tryz.func33 rfl rfl (by subst zha uJ;exact(zm zhs zF)) zA ?_;intro L lp rr hL hr hf hlp;have Ee:zku a0 a1 a2=vs:=by rw[<-zha];exact hfe
  have Qe:Zm a0 a1 a2:=by rw[<-uJ];exact hqv
  conv=>cbv
  simp only[zo hL,sQ,g0,g1,g2,Ee,hvl,<-hn];refine⟨Qe,?_⟩
  refine hlp (List V×Int) _ _ _ [3,8,9,10] (fun x=>[(3,none,.val (.slc true 24 (.slc true 2 (.int .i64 0) []) x.1)),(wJ2 8 vs),(wJ0 9 n),(wJ0 10 x.2)])
   (fun x=>0<=x.2/\x.2<=n/\x.1=II true (kC E x.2.toNat)) (fun x=>(n-x.2).toNat) (([],0)) (by subst hL;rw[hn,<-hvl];rfl) ?_ ?_
  ·exact⟨by simp,by simp only;omega,rfl⟩
  rintro⟨os,i⟩ ⟨i0,i1,hO⟩ hfx ag hag;simp only at i0 i1 hO
  have hol:os.length<=24:=by
   have:=zkc E i.toNat
   rw[hO,ye];omega
  conv=>cbv
  simp only[zo hL,sQ,gv,hvl];refine⟨fun h2=>?_,fun h2=>?_⟩
  ·rw[zn (n:=i+1)];refine⟨i0,by omega,by omega,fun h3=>?_,fun h3=>?_⟩
   ·have hnx:os++[V.slc true 2 (.int .i64 0) [V.int .i64 i,V.int .i64 (E.getD i.toNat 0)]]=II true (kC E (i.toNat+1)):=by
     rw[kC,if_pos h3,hO,show((i.toNat:Nat):Int)=i by omega,Zv,zuK];rfl
    (repeat' first|(exact yL _)|(exact jY rfl)|(exact qG _)|(apply And.intro)|(intro _))<;>(try first|exact True.intro|omega|rfl|(simp only[zj,zu,zg];omega))
    refine hag (_,i+1) ⟨by simp only;omega,by simp only;omega,?_⟩ (by simp only;omega);simp only[ya i0];exact hnx
   ·refine hag (os,i+1) ⟨by simp only;omega,by simp only;omega,?_⟩ (by simp only;omega);simp only[ya i0];rw[kC,if_neg h3,yp];exact hO
  ·rw[hr,hf0,hO,show i.toNat=P.length by omega]
 ·cases h
theorem zmy:yM Tryz.prog 42 (zdQ QP Zd):=by
 intro args ps r h hp;unfold zdQ at h;split at h
 ·rename_i a0 a1 a2;cases h;have hqv:Zd a0 a1 a2:=(zp.1 hp).1;obtain⟨⟨⟨P,hP⟩,⟨S,hS⟩,⟨Q,hQ⟩⟩,hcl⟩:=id hqv;rw[hP,hS,hQ,zl,zl,zl]at hcl;have g0:V.frzs a0=a0:=by rw[hP,zt]
  have g1:V.frzs a1=a1:=by rw[hS,zt]
  have g2:V.frzs a2=a2:=by rw[hQ,zt]
  have hpl:a0.length=P.length:=by rw[hP,zg]
  have hsl:a1.length=P.length:=by rw[hS,zg,hcl.sl]
  have hql:a2.length=P.length:=by rw[hQ,zg,hcl.ql]
  have gp:∀k,a0.getD k (.int .i64 0)=.int .i64 (P.getD k 0):=fun k=>by rw[hP,zG]
  have gs:∀k,a1.getD k (.int .i64 0)=.int .i64 (S.getD k 0):=fun k=>by rw[hS,zG]
  have gq:∀k,a2.getD k (.int .i64 0)=.int .i64 (Q.getD k 0):=fun k=>by rw[hQ,zG]
  obtain⟨n,hn⟩:=qEI P.length;have n1:=hcl.n1;have n24:=hcl.n24;have low:=fun t ht=>hcl.low (i:=t) ht;have hf0:QP a0 a1 a2=II true (kC (jA P S Q) P.length):=by rw[QP,hpl,hP,hS,hQ,zl,zl,zl]
  have hfe:zdI a0 a1 a2 a2=I (jA P S Q):=by rw[zdI,hpl,hP,hS,hQ,zl,zl,zl];rfl
  obtain⟨E,hE⟩:=qEx (jA P S Q);rw[<-hE]at hf0 hfe;obtain⟨vs,hvs⟩:=qEx (I E);rw[<-hvs]at hfe;have hvl:vs.length=P.length:=by rw[hvs,zg,hE,jA,yi]
  have gv:∀k,vs.getD k (.int .i64 0)=.int .i64 (E.getD k 0):=fun k=>by rw[hvs,zG]
  generalize zg9:zdI=zhf,zjd:zrV=zjq;refine zH (B:=[(89,zgS zhf zjq)]) (Bi:=[]) [0,1,2,3,4,5] Tryz.func42 rfl rfl (by subst zg9 zjd;exact(zm zgl zF)) zA ?_;intro L lp rr hL hr hf hlp;have Ee:zhf a0 a1 a2 a2=vs:=by rw[<-zg9];exact hfe
  have Qe:zjq a0 a1 a2 a2:=by rw[<-zjd];exact⟨hqv,rfl⟩
  conv=>cbv
  simp only[zo hL,sQ,g0,g1,g2,Ee,hvl,<-hn];refine⟨Qe,?_⟩
  refine hlp (List V×Int) _ _ _ [3,4,5] (fun x=>[(wJ2 3 vs),(4,none,.val (.slc true 24 (.slc true 2 (.int .i64 0) []) x.1)),(wJ0 5 x.2)])
   (fun x=>0<=x.2/\x.2<=n/\x.1=II true (kC E x.2.toNat)) (fun x=>(n-x.2).toNat) (([],0)) (by subst hL;rfl) ?_ ?_
  ·exact⟨by simp,by simp only;omega,rfl⟩
  rintro⟨os,i⟩ ⟨i0,i1,hO⟩ hfx ag hag;simp only at i0 i1 hO
  have hol:os.length<=24:=by
   have:=zkc E i.toNat
   rw[hO,ye];omega
  conv=>cbv
  simp only[zo hL,sQ,gv,hvl,<-hn];refine⟨fun h2=>?_,fun h2=>?_⟩
  ·rw[zn (n:=i+1)];refine⟨i0,by omega,by omega,fun h3=>?_,fun h3=>?_⟩
   ·have hnx:os++[V.slc true 2 (.int .i64 0) [V.int .i64 i,V.int .i64 (E.getD i.toNat 0)]]=II true (kC E (i.toNat+1)):=by
     rw[kC,if_pos h3,hO,show((i.toNat:Nat):Int)=i by omega,Zv,zuK];rfl
    (repeat' first|(exact yL _)|(exact jY rfl)|(exact qG _)|(apply And.intro)|(intro _))<;>(try first|exact True.intro|omega|rfl|(simp only[zj,zu,zg];omega))
    refine hag (_,i+1) ⟨by simp only;omega,by simp only;omega,?_⟩ (by simp only;omega);simp only[ya i0];exact hnx
   ·refine hag (os,i+1) ⟨by simp only;omega,by simp only;omega,?_⟩ (by simp only;omega);simp only[ya i0];rw[kC,if_neg h3,yp];exact hO
  ·rw[hr,hf0,hO,show i.toNat=P.length by omega]
 ·cases h
def JY(a b:List Int):Nat:=(a.filter fun x=>decide (x∈b)).length
theorem zng{a b:List Int}{i:Nat}(h:i<a.length):JY (a.take (i+1)) b=JY (a.take i) b+if a.getD i 0∈b then 1 else 0:=by
 rw[JY,JY,zQ h,List.filter_append,zr,zwq h];congr 1;by_cases hb:a.getD i 0∈b
 ·rw[List.filter_cons_of_pos (by simpa using hb),if_pos hb];rfl
 ·rw[List.filter_cons_of_neg (by simpa using hb),if_neg hb];rfl
theorem zoc(a b:List Int):JY a b<=a.length:=List.length_filter_le _ _
theorem zso{a b:List Int}(ha:a.Nodup)(hb:b.Nodup):JY a b=JY b a:=by
 have hp:(a.filter fun x=>decide (x∈b)).Perm (b.filter fun x=>decide (x∈a)):=by
  rw[List.perm_ext_iff_of_nodup (ha.filter _) (hb.filter _)];intro x;simp only[List.mem_filter,decide_eq_true_eq];exact⟨fun h=>⟨h.2,h.1⟩,fun h=>⟨h.2,h.1⟩⟩
 exact hp.length_eq
def zqj(f:List V->List V->Int)(q:List V->List V->Prop):zO:=fun
 |[.slc false 2 (.int .i64 0) a0,.slc false 2 (.int .i64 0) a1]=>some ([q a0 a1],.int .i64 (f a0 a1))
 |_=>none
def ztO(a b:List V):Int:=JY (yD a) (yD b)
def zBA(a b:List V):Prop:=qU a/\qU b
theorem zrE:yM Tryz.prog 39 (zqj ztO zBA):=by
 intro args ps r h hp;unfold zqj at h;split at h
 ·rename_i a0 a1;cases h;obtain⟨⟨⟨xs,hxs⟩,hxl1⟩,⟨⟨ys,hys⟩,hyl1⟩⟩:zBA a0 a1:=(zp.1 hp).1;have g0:V.frzs a0=a0:=by rw[hxs,zt]
  have g1:V.frzs a1=a1:=by rw[hys,zt]
  have hxl:a0.length=xs.length:=by rw[hxs,zg]
  have gx:∀k,a0.getD k (.int .i64 0)=.int .i64 (xs.getD k 0):=fun k=>by rw[hxs,zG]
  have hf0:ztO a0 a1=JY xs ys:=by rw[ztO,hxs,hys,zl,zl]
  have hfh:∀x,zdH a1 x=decide (x∈ys):=fun x=>by rw[zdH,hys,zl];rw[ZQ];simp
  rw[hxl]at hxl1;obtain⟨n,hn⟩:=qEI xs.length;generalize zc7:zdH=zdb,uI:JJ=Zw;refine zH (B:=[(87,zas zdb Zw)]) (Bi:=[]) [0,1,4,5,7,8,9,10] Tryz.func39 rfl rfl (by subst zc7 uI;exact(zm znm zF)) zA ?_;intro L lp rr hL hr hf hlp;have Eh:∀x,zdb a1 x=decide (x∈ys):=by rw[<-zc7];exact hfh
  have Qh:∀x,Zw a1 x:=by rw[<-uI];exact fun x=>⟨⟨ys,hys⟩,hyl1⟩
  conv=>cbv
  simp only[zo hL,sQ,g0,g1,hxl,<-hn]
  refine hlp (Int×Int) _ _ _ [1,5,8,9,10] (fun x=>[(wJ3 1 a1),(wJ0 5 x.1),(wJ3 8 a0),(wJ0 9 n),(wJ0 10 x.2)])
   (fun x=>0<=x.2/\x.2<=n/\x.1=(JY (xs.take x.2.toNat) ys:Nat)) (fun x=>(n-x.2).toNat) ((0,0)) (by subst hL;rw[hn,<-hxl];rfl) ?_ ?_
  ·exact⟨by simp,by simp only;omega,rfl⟩
  rintro⟨m,i⟩ ⟨i0,i1,hM⟩ hfx ag hag;simp only at i0 i1 hM
  have hml:JY (xs.take i.toNat) ys<=i.toNat:=by
   have:=zoc (xs.take i.toNat) ys;rw[zV]at this;omega
  conv=>cbv
  simp only[zo hL,sQ,g0,g1,gx,hxl,Eh,decide_eq_true_eq,decide_eq_false_iff_not];refine⟨fun h2=>?_,fun h2=>?_⟩
  ·have hst:=zng (b:=ys) (show i.toNat<xs.length by omega);rw[zn (n:=i+1),zn (n:=m+1)];refine⟨i0,by omega,Qh _,fun h3=>?_,fun h3=>?_⟩
   ·refine hag (m+1,i+1) ⟨by simp only;omega,by simp only;omega,?_⟩ (by simp only;omega);simp only[ya i0];rw[hst,if_pos h3];omega
   ·refine hag (m,i+1) ⟨by simp only;omega,by simp only;omega,?_⟩ (by simp only;omega);simp only[ya i0];rw[hst,if_neg h3];omega
  ·rw[hr,hf0,hM,zB (by omega)]
 ·cases h
def Yi:Nat->List Nat->Nat
 |_,[]=>0
 |t,c::cs=>if c=t then Yi (t+1) cs+1 else 0
def mC:List Nat->List Nat
 |[]=>[1]
 |_::cs=>((mC cs).take (Yi 2 cs+1)).sum::mC cs
theorem ZI:∀cs:List Nat,(mC cs).length=cs.length+1
 |[]=>rfl
 |_::cs=>by rw[mC,zj,ZI cs,zj]
theorem zmb:∀(cs:List Nat) (t:Nat),Yi t cs<=cs.length
 |[],_=>zw _
 |c::cs,t=>by
  rw[Yi];split
  ·have:=zmb cs (t+1);simp only[zj];omega
  ·exact Nat.zero_le _
theorem ztd:∀(cs:List Nat),∀x∈mC cs,1<=x
 |[],x,h=>by simp only[mC,yd]at h;omega
 |c::cs,x,h=>by
  rw[mC]at h;rcases zJ.1 h with h|h
  ·have hl:=ZI cs
   cases hm:mC cs with
   |nil=>rw[hm]at hl;simp at hl
   |cons y l=>
    have:=ztd cs y (by rw[hm];simp);rw[h,hm,Zb,Qd];omega
  ·exact ztd cs x h
theorem zwf:∀(cs:List Nat) (t q:Nat),2<=t->q<=Yi t cs->∀j,j<q->(mC cs).getD j 0=(mC cs).getD 0 0
 |[],t,q,_,hq,j,hj=>by rw[Yi]at hq;omega
 |c::cs,t,q,ht,hq,j,hj=>by
  rw[Yi]at hq;split at hq
  ·rename_i hc
   cases j with
   |zero=>rfl
   |succ j=>
    have ih:=zwf cs (t+1) (q-1) (by omega) (by omega) j (by omega);rw[mC,yT,ih,qh]
    have h0:Yi 2 cs=0:=by
     cases cs with
     |nil=>rfl
     |cons d cs=>
      rw[Yi]at hq ⊢;split at hq
      ·rw[if_neg (by omega)]
      ·omega
    have hl:=ZI cs;rw[h0]
    cases hm:mC cs with
    |nil=>rw[hm]at hl;simp at hl
    |cons y l=>simp
  ·omega
theorem Val.up:∀(l:List Nat) {p e s:Nat},e ∣ s->(∀t∈l,t+s<=2000)->Val p e l->Val (p+s) e (l.map (·+s))/\uw (p+s) e (l.map (·+s))=uw p e l
 |[],p,e,s,_,_,h=>⟨h,rfl⟩
 |t::l,p,e,s,he,hs,h=>by
  obtain⟨h1,h2,h3,h4⟩:=h
  have hg:Nat.gcd e (t+s)=Nat.gcd e t:=by
   obtain⟨k,rfl⟩:=he;rw[um,KH]
  obtain⟨i1,i2⟩:=Val.up l (s:=s) (Nat.dvd_trans (Nat.gcd_dvd_left e t) he) (fun x hx=>hs x (zI _ hx)) h4;have hb:=hs t (by simp);refine⟨⟨show p+s<t+s by omega,hb,by rw[hg];exact h3,by rw[hg];exact i1⟩,?_⟩;simp only[qo,uw];rw[hg,i2,show t+s-(p+s)=t-p by omega]
theorem zsf{a b:Nat}{x:List Nat}:∀k:Nat,(List.replicate k a++b::x).take (k+1)=List.replicate k a++[b]
 |0=>rfl
 |k+1=>by rw[yI,yf,Zb,zsf k];rfl
theorem zvT(a b:Nat):∀k:Nat,(List.replicate k a++[b]).sum=k*a+b
 |0=>by simp
 |k+1=>by rw[yI,yf,Qd,zvT a b k,Nat.add_mul];omega
theorem zqS{a:Nat}:∀(k:Nat) (L:List Nat),k<L.length->(∀j,j<k->L.getD j 0=a)->∃b x,L=List.replicate k a++b::x
 |_,[],h,_=>by simp at h
 |0,y::L,_,_=>⟨y,L,rfl⟩
 |k+1,y::L,h,hs=>by
  obtain⟨b,x,hx⟩:=zqS k L (by simpa using h) (fun j hj=>by simpa using hs (j+1) (by omega));have h0:y=a:=by simpa using hs 0 (by omega)
  exact⟨b,x,by rw[hx,h0,yI];rfl⟩
theorem zqZ{a r b:Nat}(hr:r≠a){X x:List Nat}:∀(k q:Nat),List.replicate q a++r::X=List.replicate k a++b::x->(k<q/\b=a)\/(k=q/\b=r)
 |0,0,h=>by simp at h;exact .inr ⟨rfl,h.1.symm⟩
 |0,q+1,h=>by rw[yI]at h;simp at h;exact .inl ⟨by omega,h.1.symm⟩
 |k+1,0,h=>by rw[yI]at h;simp at h;exact absurd h.1 hr
 |k+1,q+1,h=>by
  rw[yI,yI]at h;simp only[yf,List.cons.injEq,true_and]at h;have:=zqZ hr k q h;omega
theorem zzF:∀(cs:List Nat),cs.length<=30->(∀x∈mC cs,x<=64)->∃n l m,BrN n l/\mC cs=uw 0 n l++List.replicate m 1/\(mC cs).getD 0 0=n/\∀t∈l,t<=64*(cs.length+1)
 |[],_,_=>⟨1,[],1,⟨by omega,by omega,rfl⟩,rfl,rfl,fun t ht=>by cases ht⟩
 |c::cs,hl,hb=>by
  rw[mC]at hb;simp only[zj]at hl ⊢;obtain⟨a,l,m,hB,hL,ha,ht⟩:=zzF cs (by omega) (fun x hx=>hb x (zI _ hx));have hlen:=ZI cs;have hle:=zmb cs 2;obtain⟨k,hk⟩:=qEx (Yi 2 cs);rw[<-hk]at hle;have hsame:∀j,j<k->(mC cs).getD j 0=a:=fun j hj=>by rw[zwf cs 2 k (by omega) (by omega) j hj,ha]
  obtain⟨b,x,hx⟩:=zqS k (mC cs) (by omega) hsame;have hn:((mC cs).take (k+1)).sum=k*a+b:=by rw[hx,zsf,zvT]
  obtain⟨n,hnn⟩:=qEx (k*a+b);have hn64:n<=64:=by rw[hnn,<-hn,hk];exact hb _ (by simp)
  have hb1:1<=b:=ztd cs b (by rw[hx];simp);have hb64:b<=64:=hb b (zI _ (by rw[hx];simp));have ha1:=hB.lo;have ha64:=hB.hi;rw[mC,<-hk,hn,<-hnn];by_cases hk0:k=0
  ·
    subst hk0;have hba:b=a:=(by rw[<-ha,hx];rfl);have hna:n=a:=(by rw[hnn,hba];omega);rw[hna]
    cases l with
    |nil=>
     have h1:a=1:=hB.val;subst h1;exact⟨1,[],m+1,hB,by rw[hL];rfl,rfl,fun t ht=>by cases ht⟩
    |cons t l=>
     have ht0:=ht t (by simp);obtain⟨v1,v2⟩:=Val.up (t::l) (p:=a) (e:=a) (s:=a) (zgZ a) (fun y hy=>by have:=ht y hy;omega) hB.val;refine⟨a,(t::l).map (·+a),m,⟨ha1,ha64,v1.weak (by omega)⟩,?_,rfl,fun y hy=>?_⟩
     ·have v0:=(Val.up (t::l) (p:=0) (e:=a) (s:=a) (zgZ a) (fun y hy=>by have:=ht y hy;omega) (hB.val.weak (by omega))).2;rw[hL,<-v0];simp only[qo,uw,ZM]
      have e1:ex (t+a) a=a::ex (t+a-(0+a)) a:=by
       rw[show t+a-(0+a)=t by omega,uS (by omega),uS (show 0<a by omega),zb0 _ (by omega),zbZ,yI,yf]
      rw[e1];rfl
     ·obtain⟨z,hz,rfl⟩:=jC.1 hy;have:=ht z hz;omega
  ·cases l with
   |nil=>
    have h1:a=1:=hB.val;subst h1
    have hall:∀y∈mC cs,y=1:=fun y hy=>by
     rw[hL]at hy;simp only[uw,List.nil_append]at hy;exact List.eq_of_mem_replicate hy
    have hbe:b=1:=hall b (by rw[hx];simp);have hn1:n=k+1:=by rw[hnn,hbe];omega
    have hm:m=cs.length+1:=by
     rw[<-hlen,hL];simp[uw]
    refine⟨n,[n+1],m-n,⟨by omega,hn64,by omega,by omega,?_,?_⟩,?_,rfl,fun y hy=>?_⟩
    ·rw[JR];simp;omega
    ·rw[JR];simp[Val]
    ·rw[hL];simp only[uw,ZM,yp,List.nil_append]
     have e1:ex (n+1) n=n::List.replicate n 1:=by
      rw[uS (by omega),YJ n 1,zb0 _ (by omega),zbZ,zg0 (by omega),QS (by omega),uS (by omega),Nat.div_one,Nat.mod_one,zf0];simp
     rw[e1,yf,jx,show n+(m-n)=m by omega]
    ·simp only[yd]at hy;omega
   |cons t l=>
    have hv:=hB.val;obtain⟨v1,v2,v3,v4⟩:=id hv
    have hnd:¬a ∣ t:=by
     intro hd;exact v3 (Nat.gcd_eq_left hd)
    obtain⟨X,hX,hr0,hr1⟩:=ziU (show 0<a by omega) hnd;obtain⟨q,hq⟩:=qEx (t/a);obtain⟨r,hr⟩:=qEx (t%a);rw[<-hq,<-hr]at hX;rw[<-hr]at hr0 hr1;have htq:t=q*a+r:=by rw[hq,hr,um];exact(Nat.div_add_mod t a).symm
    have hL2:mC cs=List.replicate q a++r::(X++(uw t (Nat.gcd a t) l++List.replicate m 1)):=by
     rw[hL,uw,ZM,hX];simp
    have ht2:∀y∈t::l,y+a<=2000:=fun y hy=>(by have:=ht y hy;omega);have hcase:=zqZ (by omega) k q (hL2.symm.trans hx);have htb:=ht t (by simp);rcases hcase with⟨hkq,hba⟩|⟨hkq,hbr⟩
    ·
      have hn1:n=(k+1)*a:=by rw[hnn,hba,Nat.add_mul];omega
      have hlt:n+a<=t+a:=by
       have:(k+1)*a<=q*a:=qb a (by omega);omega
      have hlt2:n<t:=by
       have:(k+1)*a<=q*a:=qb a (by omega);omega
      have hna:a<n:=by
       have:2*a<=(k+1)*a:=qb a (by omega);omega
      have hgcd:Nat.gcd n (n+a)=a:=by
       rw[JR,hn1,Nat.gcd_comm,Nat.gcd_mul_left_right]
      obtain⟨u1,u2⟩:=Val.up (t::l) (p:=n) (e:=a) (s:=a) (zgZ a) ht2 ⟨hlt2,v2,v3,v4⟩;refine⟨n,(n+a)::(t::l).map (·+a),m,⟨by omega,hn64,by omega,by omega,by rw[hgcd];omega,by rw[hgcd];exact u1⟩,?_,rfl,fun y hy=>?_⟩
      ·rw[uw,ZM,hgcd,u2]
       have e1:ex (n+a) n=n::List.replicate (k+1) a:=by
        rw[uS (by omega),YJ n a,zb0 _ (by omega),zbZ,zg0 hna,QS hna,uS (by omega),hn1,Nat.mul_div_cancel _ (by omega),Nat.mul_mod_left,zf0];simp
       have e2:ex t a=List.replicate (k+1) a++ex (t-n) a:=by
        have e3:t=(t-n)+a*(k+1):=(by rw[um,<-hn1];omega);rw[uS (by omega),uS (show 0<a by omega) (a:=t-n)]
        conv=>lhs;rw[e3]
        rw[Nat.add_mul_div_left _ _ (by omega),Nat.add_mul_mod_self_left,YJ,<-jx,zU]
       rw[e1,hL,uw,uw,ZM,e2];simp
      ·rcases zJ.1 hy with rfl|hy
       ·omega
       ·obtain⟨z,hz,rfl⟩:=jC.1 hy;have:=ht z hz;omega
    ·
      have hn1:n=t:=(by rw[hnn,hkq,hbr];exact htq.symm);have hgcd:Nat.gcd n (n+a)=Nat.gcd a t:=(by rw[JR,hn1,Nat.gcd_comm]);obtain⟨u1,u2⟩:=Val.up l (p:=t) (e:=Nat.gcd a t) (s:=a) (Nat.gcd_dvd_left a t) (fun y hy=>ht2 y (zI _ hy)) v4;have hga:Nat.gcd a t<=a:=Nat.gcd_le_left t (by omega);refine⟨n,(n+a)::l.map (·+a),m,⟨by omega,hn64,by omega,by omega,by rw[hgcd];omega,by rw[hgcd,hn1];exact u1⟩,?_,rfl,fun y hy=>?_⟩
      ·have e1:ex (n+a) n=n::ex t a:=by
        rw[uS (by omega),YJ n a,zb0 _ (by omega),zbZ,zg0 (by omega),QS (by omega),hn1];simp
       rw[uw,ZM,hgcd,e1,hL,uw,ZM];rw[hn1]at*;rw[u2];simp
      ·rcases zJ.1 hy with rfl|hy
       ·omega
       ·obtain⟨z,hz,rfl⟩:=jC.1 hy;have:=ht z (zI _ hz);omega
def VC(cs:List Nat):Prop:=∀i,i<cs.length->cs.getD i 0=0\/(1<=i/\(cs.getD i 0=2\/(3<=cs.getD i 0/\cs.getD (i-1) 0+1=cs.getD i 0)))
theorem VC.le{cs:List Nat}(h:VC cs):∀i,i<cs.length->cs.getD i 0<=i+1/\cs.getD i 0≠1
 |0,hi=>by rcases h 0 hi with h|⟨h,_⟩<;>omega
 |i+1,hi=>by
  have ih:=VC.le h i (by omega);rcases h (i+1) hi with h|⟨_,h|⟨h1,h2⟩⟩
  ·omega
  ·omega
  ·simp only[qJ]at h2;omega
def Kc(cs:List Nat):Nat:=(mC cs).getD 0 0
def QM(cs:List Nat)(j i:Nat):Nat:=((mC (cs.drop j)).tail.take (Yi (j+1-i) (cs.drop j))).sum
def ZA(cs:List Nat)(j:Nat):List Nat:=yQ (fun i=>if i<j then QM cs j i else Kc (cs.drop i)) (cs.length+1)
theorem KV(cs:List Nat)(j:Nat):(ZA cs j).length=cs.length+1:=yi _ _
theorem KW{cs:List Nat}{j i:Nat}(h:i<=cs.length):(ZA cs j).getD i 0=if i<j then QM cs j i else Kc (cs.drop i):=jp _ _ _ _ (by omega)
theorem zbA(cs:List Nat):mC cs=Kc cs::(mC cs).tail:=by
 have hl:=ZI cs;rw[Kc]
 cases hm:mC cs with
 |nil=>rw[hm]at hl;simp at hl
 |cons x l=>rfl
theorem zf3{cs:List Nat}{j:Nat}(h:j<cs.length):cs.drop j=cs.getD j 0::cs.drop (j+1):=by
 rw[List.drop_eq_getElem_cons h,zd,ze h];rfl
theorem zep:∀(cs:List Nat) (j:Nat),j<=cs.length->(mC cs).getD j 0=Kc (cs.drop j)
 |cs,0,_=>rfl
 |[],j+1,h=>by simp at h
 |c::cs,j+1,h=>by
  rw[mC,yT,List.drop_succ_cons];exact zep cs j (by simpa using h)
theorem zs5(cs:List Nat):ZA cs 0=mC cs:=by
 apply yB;intro i;by_cases hi:i<=cs.length
 ·have h1:=KW (j:=0) hi;rw[if_neg (by omega),<-zep cs i hi]at h1;rw[zd,zd,ze (by rw[KV];omega),ze (by rw[ZI];omega)]at h1;rw[ze (by rw[KV];omega),ze (by rw[ZI];omega)];exact congrArg some h1
 ·rw[zy (by rw[KV];omega),zy (by rw[ZI];omega)]
theorem zqv{cs:List Nat}{j:Nat}(h:j<cs.length):QM cs (j+1) j+Kc (cs.drop (j+1))=Kc (cs.drop j):=by
 rw[QM,show j+1+1-j=2 by omega,zf3 h]
 have h1:Kc (cs.getD j 0::cs.drop (j+1))=((mC (cs.drop (j+1))).take (Yi 2 (cs.drop (j+1))+1)).sum:=by
  rw[Kc,mC];rfl
 rw[h1]
 conv=>rhs;rw[zbA]
 rw[Zb,Qd];omega
theorem zFy{cs:List Nat}{j i:Nat}(h:j<cs.length)(hi:i<j)(hc:cs.getD j 0=j+1-i):QM cs (j+1) i+Kc (cs.drop (j+1))=QM cs j i:=by
 rw[QM,QM,zf3 h,mC,List.tail_cons,Yi,if_pos hc,show j+1-i+1=j+1+1-i by omega]
 conv=>rhs;rw[zbA]
 rw[Zb,Qd];omega
theorem zwS{cs:List Nat}(hv:VC cs){j i:Nat}(h:j<cs.length)(hi:i<j)(hc:cs.getD j 0≠j+1-i):QM cs j i=0/\QM cs (j+1) i=0:=by
 constructor
 ·rw[QM,zf3 h,Yi,if_neg hc];simp
 ·rw[QM];by_cases h1:j+1<cs.length
  ·rw[zf3 h1,Yi,if_neg]
   ·simp
   ·intro h2;rcases hv (j+1) h1 with h3|⟨_,h3|⟨h3,h4⟩⟩
    ·omega
    ·omega
    ·simp only[qJ]at h4;omega
  ·rw[ke (by omega)];simp[Yi]
theorem zpz{α:Type}(f:Nat->α){n i:Nat}(x:α)(h:i<n):(yQ f n).set i x=yQ (fun t=>if t=i then x else f t) n:=by
 apply yB;intro j;rw[List.getElem?_set];by_cases hj:j<n
 ·rw[kU _ _ _ hj,kU _ _ _ hj];by_cases h1:i=j
  ·rw[if_pos h1,if_pos (by rw[yi];exact h),if_pos h1.symm]
  ·rw[if_neg h1,if_neg (Ne.symm h1)]
 ·rw[if_neg (by omega),zy (by rw[yi];omega),zy (by rw[yi];omega)]
theorem zq7{cs:List Nat}(hv:VC cs){j:Nat}(h:j<cs.length)(hc:cs.getD j 0=0):(ZA cs (j+1)).set j ((ZA cs (j+1)).getD j 0+(ZA cs (j+1)).getD (j+1) 0)=ZA cs j:=by
 rw[KW (by omega),KW (by omega),if_pos (by omega),if_neg (by omega),zqv h,ZA,zpz _ _ (by omega),ZA];refine qE fun i hi=>?_;by_cases h1:i=j
 ·rw[if_pos h1,if_neg (by omega),h1]
 ·rw[if_neg h1];by_cases h2:i<j
  ·obtain⟨q1,q2⟩:=zwS hv h h2 (by omega);rw[if_pos (by omega),if_pos h2,q1,q2]
  ·rw[if_neg (by omega),if_neg h2]
theorem zs4{cs:List Nat}(hv:VC cs){j c:Nat}(h:j<cs.length)(hc:cs.getD j 0=c)(h0:c≠0):
 ((ZA cs (j+1)).set j ((ZA cs (j+1)).getD j 0+(ZA cs (j+1)).getD (j+1) 0)).set (j+1-c) ((ZA cs (j+1)).getD (j+1-c) 0+(ZA cs (j+1)).getD (j+1) 0)=ZA cs j/\j+1-c<j/\c<=j+1:=by
 have hle:=hv.le j h;rw[hc]at hle;refine⟨?_,by omega,by omega⟩;have hlt:j+1-c<j:=by omega
 have e:=zFy h hlt (show cs.getD j 0=j+1-(j+1-c) by omega);rw[KW (by omega),KW (by omega),KW (by omega),if_pos (by omega),if_neg (by omega),if_pos (by omega),zqv h,e,ZA,zpz _ _ (by omega),zpz _ _ (by omega),ZA];refine qE fun i hi=>?_;by_cases h1:i=j+1-c
 ·rw[if_pos h1,if_pos (by omega),h1]
 ·rw[if_neg h1];by_cases h3:i=j
  ·rw[if_pos h3,if_neg (by omega),h3]
  ·rw[if_neg h3];by_cases h2:i<j
   ·obtain⟨q1,q2⟩:=zwS hv h h2 (by omega);rw[if_pos (by omega),if_pos h2,q1,q2]
   ·rw[if_neg (by omega),if_neg h2]
theorem zoI(cs:List Nat):ZA cs cs.length=List.replicate cs.length 0++[1]:=by
 apply yB;intro i;rw[ZA];by_cases hi:i<cs.length
 ·rw[kU _ _ _ (by omega),if_pos hi,yA (by simpa using hi),List.getElem?_replicate,if_pos hi,QM,ke (by omega)];simp[mC]
 ·by_cases h2:i=cs.length
  ·rw[kU _ _ _ (by omega),if_neg hi,h2,yr (by simp),ke (by omega)];simp[Kc,mC]
  ·rw[zy (by rw[yi];omega),zy (by simp;omega)]
theorem zqP{B:Nat}:∀(l:List Nat),(∀x∈l,x<=B)->l.sum<=B*l.length
 |[],_=>by simp
 |x::l,h=>by
  have h1:=h x (by simp);have h2:=zqP l (fun y hy=>h y (zI _ hy));rw[Qd,zj,Nat.mul_add];omega
theorem zoJ{cs:List Nat}{j:Nat}(hj:j<=cs.length)(h:∀i,j<i->i<=cs.length->Kc (cs.drop i)<=64):∀i,i<=cs.length->(ZA cs j).getD i 0<=64*(cs.length+1):=by
 have hall:∀x∈(mC (cs.drop j)).tail,x<=64:=by
  intro x hx;obtain⟨t,ht,rfl⟩:=qS.1 hx;have hl:=ZI (cs.drop j);simp only[QX,yF]at ht hl;have h1:=zep (cs.drop j) (t+1) (by rw[yF];omega);rw[List.drop_drop]at h1;have h2:=h (j+(t+1)) (by omega) (by omega);rw[<-h1,zbA,yT,zd,ze (by rw[QX];omega)]at h2;exact h2
 have hlen:(mC (cs.drop j)).tail.length<=cs.length:=by
  rw[QX,ZI,yF];omega
 have htake:∀q,((mC (cs.drop j)).tail.take q).sum<=64*cs.length:=fun q=>by
  have h1:=zqP ((mC (cs.drop j)).tail.take q) (fun x hx=>hall x (List.mem_of_mem_take hx));have h2:((mC (cs.drop j)).tail.take q).length<=cs.length:=by rw[zV];omega
  have:=Nat.mul_le_mul_left 64 h2;omega
 intro i hi;rw[KW hi];split
 ·rw[QM];have:=htake (Yi (j+1-i) (cs.drop j));omega
 ·by_cases h2:i=j
  ·rw[h2];by_cases h3:j<cs.length
   ·have h4:=zqv h3;have h5:=h (j+1) (by omega) (by omega)
    have h6:QM cs (j+1) j<=64*cs.length:=by
     rw[QM];have hd:=zf3 h3;have:(mC (cs.drop j)).tail=mC (cs.drop (j+1)):=(by rw[hd,mC,List.tail_cons]);have h7:=htake (Yi (j+1+1-j) (cs.drop (j+1))+1);rw[this,zbA,Zb,Qd]at h7;omega
    omega
   ·rw[ke (by omega)];simp only[Kc,mC,qh];omega
  ·have:=h i (by omega) hi;omega
def upL(P:List Int):Nat->Int->List Int
 |0,_=>[]
 |f+1,i=>if i<0 then[]else i::upL P f (P.getD i.toNat 0)
def zC(P:List Int)(i:Int):List Int:=(upL P 32 i).reverse
section
variable {P S Q:List Int}
theorem zn4(h:ClP P S Q):∀(f:Nat) (i:Int),i<P.length->i<f->-1<=i->∀g,f<=g->upL P g i=upL P f i
 |0,i,_,h2,_,g,_=>by
  have:i= -1:=by omega
  subst this
  cases g with
  |zero=>rfl
  |succ g=>
   have:upL P (g+1) (-1)=[]:=(by rw[upL];exact if_pos (by omega));rw[this];rfl
 |f+1,i,h1,h2,h3,g,hg=>by
  obtain⟨k,rfl⟩:∃k,g=k+1:=⟨g-1,by omega⟩;rw[upL,upL];by_cases h0:i<0
  ·rw[if_pos h0,if_pos h0]
  ·rw[if_neg h0,if_neg h0];have hl:=h.low (i:=i.toNat) (by omega);rw[zn4 h f _ (by omega) (by omega) (by omega) k (by omega)]
theorem zjP:zC P (-1)=[]:=by
 rw[zC,upL,if_pos (by omega)];rfl
theorem uv(h:ClP P S Q){i:Int}(h0:0<=i)(h1:i<P.length):zC P i=zC P (P.getD i.toNat 0)++[i]:=by
 have hl:=h.low (i:=i.toNat) (by omega);have hn:=h.n24;rw[zC,zC,upL,if_neg (by omega),List.reverse_cons,zn4 h 31 _ (by omega) (by omega) (by omega) 32 (by omega)]
theorem znt(h:ClP P S Q){p:Int->Prop}(hn:p (-1))(hs:∀i:Int,0<=i->i<P.length->p (P.getD i.toNat 0)->p i):∀i:Int,-1<=i->i<P.length->p i:=by
 have key:∀(n:Nat) (i:Int),i<n->-1<=i->i<P.length->p i:=by
  intro n
  induction n with
  |zero=>
   intro i h1 h2 _;have:i= -1:=(by omega);rw[this];exact hn
  |succ n ih=>
   intro i h1 h2 h3;by_cases h0:i<0
   ·have:i= -1:=(by omega);rw[this];exact hn
   ·have hl:=h.low (i:=i.toNat) (by omega);exact hs i (by omega) h3 (ih _ (by omega) (by omega) (by omega))
 exact fun i h1 h2=>key (i+1).toNat i (by omega) h1 h2
theorem zej(h:ClP P S Q):∀i:Int,-1<=i->i<P.length->(∀x∈zC P i,0<=x/\x<=i)/\(zC P i).Pairwise (·< ·):=by
 refine znt h ?_ (fun i h0 h1 ih=>?_)
 ·rw[zjP];exact⟨fun x hx=>(by cases hx),List.Pairwise.nil⟩
 ·have hl:=h.low (i:=i.toNat) (by omega);rw[uv h h0 h1];refine⟨fun x hx=>?_,?_⟩
  ·rcases qz.1 hx with hx|hx
   ·have:=ih.1 x hx;omega
   ·rw[yd]at hx;omega
  ·rw[List.pairwise_append];refine⟨ih.2,by simp,fun a ha b hb=>?_⟩;rw[yd]at hb;have:=ih.1 a ha;omega
theorem Zn(h:ClP P S Q){i:Int}(h0: -1<=i)(h1:i<P.length):(zC P i).Nodup:=(zej h i h0 h1).2.imp (fun h=>by omega)
theorem uD(h:ClP P S Q){i:Int}(h0: -1<=i)(h1:i<P.length):(zC P i).length<=24:=by
 have h2:=zej h i h0 h1;have h3:=zq5 (zC P i) (n:=P.length) (Zn h h0 h1) (fun x hx=>by have:=h2.1 x hx;omega);have:=h.n24;omega
theorem ziM{l:List Int}{x:Int}(h:x∈l):idx l x=(l.idxOf x:Nat):=by
 rw[idx];have hlt:=zbc.2 h
 have:((List.range l.length).find? fun t=>l.getD t 0==x)=some (l.idxOf x):=by
  rw[QZ];refine⟨?_,by simpa using hlt,fun t ht=>?_⟩
  ·rw[zd,ze hlt];simp
  ·rw[zd,ze (by omega)];have:=List.not_of_lt_findIdx (p:=(·==x)) (xs:=l) (i:=t) ht;simpa using this
 rw[this]
def YX(S p:List Int)(j:Nat):Nat:=if 0<=S.getD (p.getD j 0).toNat 0 then((j:Int)-idx p (S.getD (p.getD j 0).toNat 0)).toNat else 0
def cdN(S p:List Int):List Nat:=yQ (fun t=>YX S p (t+1)) (p.length-1)
theorem Yj(S p:List Int):(cdN S p).length=p.length-1:=yi _ _
theorem zwp{l l':List Int}{x:Int}(h:x∈l):idx (l++l') x=idx l x:=by
 rw[ziM h,ziM (qz.2 (.inl h)),zfw,if_pos h]
theorem zgI{l l':List Int}{j:Nat}(h:j<l.length):(l++l').getD j 0=l.getD j 0:=by
 rw[zd,zd,yA h]
theorem zlo(l:List Int)(x:Int):(l++[x]).getD l.length 0=x:=by simp[zd]
theorem zCs{S p:List Int}{i:Int}(hp:∀x∈p,0<=S.getD x.toNat 0->S.getD x.toNat 0∈p){j:Nat}(hj:j<p.length):YX S (p++[i]) j=YX S p j:=by
 rw[YX,YX,zgI hj];split
 ·rename_i h0;rw[zwp (hp _ (by rw[zd,ze hj];exact yq _) h0)]
 ·rfl
theorem zEm{S p:List Int}{i:Int}(hp:∀x∈p,0<=S.getD x.toNat 0->S.getD x.toNat 0∈p)(hne:p≠[]):cdN S (p++[i])=cdN S p++[YX S (p++[i]) p.length]:=by
 have hl:=Yc.2 hne;rw[cdN,zr,zW,qJ,show p.length=(p.length-1)+1 by omega,QF];congr 1;exact qE fun t ht=>zCs hp (by omega)
theorem zcT(h:ClP P S Q):∀i:Int,-1<=i->i<P.length->(∀x∈zC P i,0<=S.getD x.toNat 0->S.getD x.toNat 0∈zC P i)/\VC (cdN S (zC P i)):=by
 refine znt h ?_ (fun i h0 h1 ih=>?_)
 ·rw[zjP];exact⟨fun x hx=>by(cases hx),fun i hi=>by(rw[Yj]at hi;simp at hi)⟩
 ·have hl:=h.low (i:=i.toNat) (by omega);obtain⟨ih1,ih2⟩:=ih;rw[uv h h0 h1];obtain⟨q,hq⟩:=qEx (P.getD i.toNat 0);rw[<-hq]at ih1 ih2 hl ⊢
  have hsec:0<=S.getD i.toNat 0->0<=q/\(S.getD i.toNat 0=P.getD q.toNat 0\/S.getD i.toNat 0=S.getD q.toNat 0):=fun h2=>by
   have hi0:i.toNat≠0:=fun h3=>(by have:=(hl.2.2.2.2.2 h3).2;omega);have h3:=(zaT hi0).1 (h.place i.toNat (by omega));rw[<-hq]at h3;refine⟨h3.1.1,?_⟩;rcases h3.2 with h4|h4
   ·omega
   ·exact h4.2
  have hin:0<=S.getD i.toNat 0->S.getD i.toNat 0∈zC P q:=fun h2=>by
   obtain⟨q0,h3⟩:=hsec h2;have hql:=h.low (i:=q.toNat) (by omega);rcases h3 with h3|h3
   ·rw[h3,uv h q0 (by omega),uv h (i:=P.getD q.toNat 0) (by omega) (by omega)];simp
   ·rw[h3];refine ih1 q ?_ (by omega);rw[uv h q0 (by omega)];simp
  refine⟨fun x hx h2=>?_,?_⟩
  ·refine qz.2 (.inl ?_);rcases qz.1 hx with hx|hx
   ·exact ih1 x hx h2
   ·rw[yd]at hx;rw[hx]at h2 ⊢;exact hin h2
  ·by_cases hne:zC P q=[]
   ·rw[hne];intro t ht;rw[Yj]at ht;simp at ht
   ·rw[zEm ih1 hne];obtain⟨m,hm⟩:=qEx ((zC P q).length);have hm1:1<=m:=(by rw[hm];exact Yc.2 hne);have hcl:(cdN S (zC P q)).length=m-1:=(by rw[Yj,hm]);intro t ht;rw[zr,zW,hcl]at ht
    have hold:∀t,t<m-1->(cdN S (zC P q)++[YX S (zC P q++[i]) (zC P q).length]).getD t 0=(cdN S (zC P q)).getD t 0:=fun t ht=>by
     rw[zd,zd,yA (by omega)]
    by_cases ht1:t<m-1
    ·have h3:=ih2 t (by omega);rw[hold t ht1,hold (t-1) (by omega)];exact h3
    ·have ht2:t=m-1:=(by omega);subst ht2
     have hnew:(cdN S (zC P q)++[YX S (zC P q++[i]) (zC P q).length]).getD (m-1) 0=YX S (zC P q++[i]) m:=by
      rw[zd,yr (by omega),hcl,kF,<-hm];rfl
     rw[hnew];have hlast:(zC P q++[i]).getD m 0=i:=(by rw[hm];exact zlo _ _);rw[YX,hlast];by_cases h2:0<=S.getD i.toNat 0
     ·rw[if_pos h2];right;obtain⟨q0,h3⟩:=hsec h2;have hql:=h.low (i:=q.toNat) (by omega);have hps:=uv h q0 (show q<P.length by omega);obtain⟨r,hr⟩:=qEx (zC P (P.getD q.toNat 0));rw[<-hr]at hps;have hrm:m=r.length+1:=(by rw[hm,hps];simp);have hmem:=hin h2;rw[zwp hmem,ziM hmem];by_cases h4:S.getD i.toNat 0=P.getD q.toNat 0
      ·have hr2:=uv h (i:=P.getD q.toNat 0) (by omega) (by omega);rw[<-hr]at hr2;obtain⟨r2,hr3⟩:=qEx (zC P (P.getD (P.getD q.toNat 0).toNat 0));rw[<-hr3]at hr2
       have hni:P.getD q.toNat 0∉r2:=fun hx=>by
        have hl2:=h.low (i:=(P.getD q.toNat 0).toNat) (by omega);rw[hr3]at hx;have:=(zej h _ (by omega) (by omega)).1 _ hx;omega
       have hk:(zC P q).idxOf (S.getD i.toNat 0)=r2.length:=by
        rw[h4,hps,hr2,zU,zfw,if_neg hni];simp
       have hrl:r.length=r2.length+1:=(by rw[hr2];simp);rw[hk];refine⟨by omega,.inl (by omega)⟩
      ·have h5:S.getD i.toNat 0=S.getD q.toNat 0:=h3.resolve_left h4;have hq0:q.toNat≠0:=fun h6=>by have:=(hql.2.2.2.2.2 h6).2;omega
       have hr0:r≠[]:=fun h6=>by
        have h7:=uv h (i:=P.getD q.toNat 0) (by omega) (by omega);rw[<-hr,h6]at h7;simp at h7
       have hrl:=Yc.2 hr0
       have hsq:S.getD i.toNat 0∈r:=by
        have h6:=hmem;rw[hps]at h6;rcases qz.1 h6 with h6|h6
        ·exact h6
        ·rw[yd]at h6;omega
       have hk:(zC P q).idxOf (S.getD i.toNat 0)<r.length:=by
        rw[hps,zfw,if_pos hsq];exact zbc.2 hsq
       have hcq:(cdN S (zC P q)).getD (m-2) 0=m-1-(zC P q).idxOf (S.getD i.toNat 0):=by
        rw[cdN,jp _ _ _ _ (by omega),show m-2+1=m-1 by omega,YX]
        have h6:(zC P q).getD (m-1) 0=q:=by
         rw[hps,show m-1=r.length by omega];exact zlo _ _
        rw[h6,if_pos (by omega),<-h5,ziM hmem];omega
       have hle:=ih2.le (m-2) (by omega);rw[hcq]at hle;refine⟨by omega,.inr ⟨by omega,?_⟩⟩;rw[hold (m-1-1) (by omega),show m-1-1=m-2 by omega,hcq];omega
     ·rw[if_neg h2];exact .inl rfl
end
end Go.Ax
