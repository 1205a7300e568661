import Derived.Test.YtnhfpgcicpfohaaGreatDoorB08p1
import Derived.Test.YtnhfpgcicpfohaaGreatDoorB06p1
import Derived.Test.YtnhfpgcicpfohaaGreatDoorB05p1
set_option linter.all false
set_option maxRecDepth 100000
set_option maxHeartbeats 8000000
open List renaming getD_eq_getElem?_getD→zd,getElem?_eq_getElem→ze,length_cons→zi,length_map→zy,mem_singleton→zX
/-
 Curves in texts:the reference's ParseCurve. No conditions but those of the contracts.
-/
namespace Go.Ax
open Go.Proofs
theorem zuG(ms:List (List Int)){n:Nat}(h:2≤n):∀i,1≤i→kU ms n i≠[]
 |0,h1=>by omega
 |i+1,_=>by
  rw[QA]
  intro e
  obtain⟨e1,e2⟩:=List.append_eq_nil_iff.1 e
  cases i with
  |zero=>
   have:=congrArg List.length e2
   rw[Zm,zy,List.length_drop,List.length_range]at this
   simp at this
   omega
  |succ i=>exact zuG ms h (i+1) (by omega) e1
theorem zCI:∀n,n<7→0<n→0=n*(n-1)/2→n=1:=by decide
theorem zBl{l:By}(h6:(qH l).length≤6)(hm:(qE 124 l).2.2=false)(hok:∀w∈qH l,(uT w).isSome=true):(kq l↔zc5 (uM (qH l)) (T2 (qH l).length (uE (qH l).length (kR l) 0 0))=true∧YI (uM (qH l)) (T2 (qH l).length (uE (qH l).length (kR l) 0 0))=l)∧(kq l→T2 (qH l).length (uE (qH l).length (kR l) 0 0)=uG (qH l).length (kR l)):=by
 have hn:kR l=[]:=by rw[kR,zbi,if_neg (by rw[hm];simp)]
 have hp:=zrA l
 have h1:(qH l).length=1→T2 (qH l).length (uE (qH l).length (kR l) 0 0)=uG (qH l).length (kR l):=fun h=>zdf fun a b ha hb=>by
  rw[uE,if_neg (by omega),tbe,if_pos (by omega)]
 have g1:kq l→(qH l).length=1:=fun h=>zCI _ (by omega) hp (by rw[←h.2.2.1,hn];rfl)
 refine⟨⟨fun h=>?_,fun h=>?_⟩,fun h=>h1 (g1 h)⟩
 ·rw[h1 (g1 h)]
  exact⟨h.2.2.2,zjV h⟩
 ·have hl1:(qH l).length=1:=by
   refine Classical.byContradiction fun hc=>?_
   have hne:QY (kU (T2 (qH l).length (uE (qH l).length (kR l) 0 0)) (uM (qH l)).length (uM (qH l)).length)≠[]:=fun e=>zuG _ (by rw[zbY];omega) _ (by rw[zbY];omega) ((zbw _).1 e)
   have h2:=h.2
   rw[YI,if_neg hne]at h2
   rcases YJ 124 l with⟨k1,_⟩|⟨a,b,_,_,k3,_⟩
   ·exact k1 (by rw[←h2];simp)
   ·rw[k3]at hm;cases hm
  refine⟨h6,hok,by rw[hn,hl1];rfl,?_⟩
  rw[←h1 hl1]
  exact h.1
theorem zxy{l:By}(h6:(qH l).length≤6)(hok:∀w∈qH l,(uT w).isSome=true)(hl:(kR l).length=(qH l).length*((qH l).length-1)/2):(kq l↔zc5 (uM (qH l)) (uG (qH l).length (kR l))=true∧YI (uM (qH l)) (uG (qH l).length (kR l))=l):=by
 exact⟨fun h=>⟨h.2.2.2,zjV h⟩,fun h=>⟨h6,hok,hl,h.1⟩⟩
theorem zw6(l:By):0<(yc 124 l).length∧(yc 124 l).getD 0 []=(qE 124 l).1∧((yc 124 l).length=1→(qE 124 l).2.2=false)∧((yc 124 l).length=2→(qE 124 l).2.2=true∧(yc 124 l).getD 1 []=(qE 124 l).2.1):=by
 rcases YJ 124 l with⟨_,h2,h3⟩|⟨a,b,h1,h2,h3,h4⟩
 ·rw[h3,h2]
  exact⟨by simp,rfl,fun _=>rfl,fun h=>by simp at h⟩
 ·have hb:=List.length_pos_iff.2 (Yu 124 b)
  rw[h4,h3]
  refine⟨by simp,rfl,fun h=>by rw[zi]at h;omega,fun h=>⟨rfl,?_⟩⟩
  rw[zi]at h
  have hj:=zcn 124 b
  obtain⟨w,hw⟩:=List.length_eq_one_iff.1 (show(yc 124 b).length=1 by omega)
  rw[hw]at hj ⊢
  exact hj
def ztn(f:ByteArray→List V×List V×Int)(q:ByteArray→Prop):zQ:=fun
 |[.str a0]=>some ([q a0],.tup [.agg [.slc false 46 (.agg [.slc false 2 (.int .i64 0) []]) ((f a0).1),.slc false 44 (.slc false 2 (.int .i64 0) []) ((f a0).2.1)],.int .i64 ((f a0).2.2)])
 |_=>none
theorem zlq:yZ Tryz.prog 11 (ztn zcs ZU):=by
 intro args ps r h hp
 unfold ztn at h
 split at h
 ·rename_i s
  simp only[Option.some.injEq,Prod.mk.injEq]at h
  obtain⟨rfl,rfl⟩:=h
  have hs:ZU s:=(zo.1 hp).1
  have hs':s.size≤2000000000:=hs
  obtain⟨l,hl⟩:∃l,l=s.data.toList:=⟨_,rfl⟩
  have hsl:s=T l:=by rw[hl];exact zg5 s
  have hsz:s.size=l.length:=by rw[hsl,qy]
  have hyes:kq l→zcs s=(BB false (uM (qH l)),II false (uG (qH l).length (kR l)),0):=fun h=>by rw[hl];exact zqI (by rw[←hl];exact h)
  have hno:¬kq l→zcs s=([],[],6):=fun h=>zsZ (by rw[←hl];exact h)
  obtain⟨c,hc⟩:∃c,c=qE 124 l:=⟨_,rfl⟩
  have hcl:c.1.length≤l.length∧c.2.1.length≤l.length:=by
   rcases YJ 124 l with⟨_,h2,_⟩|⟨a,b,h1,_,h2,_⟩
   ·rw[hc,h2];exact⟨Nat.le_refl _,Nat.zero_le _⟩
   ·rw[hc,h2,h1];simp only[List.length_append,zi];omega
  obtain⟨hv0,hv1,hv2,hv3⟩:=zw6 l
  rw[←hc]at hv1 hv2 hv3
  have hvn:=JT 124 l
  obtain⟨hv,hhv⟩:∃hv,hv=yc 124 l:=⟨_,rfl⟩
  rw[←hhv]at hv0 hv1 hv2 hv3 hvn
  obtain⟨ws,hws⟩:∃ws,ws=qH l:=⟨_,rfl⟩
  have hws':ws=yc 32 c.1:=by rw[hws,qH,hc]
  have hwl:=JT 32 c.1
  rw[←hws']at hwl
  have hww:∀w∈ws,w.length≤l.length:=fun w hw=>by
   rw[hws']at hw
   exact Nat.le_trans (YE 32 _ w hw) hcl.1
  obtain⟨n,hn⟩:∃n:Int,n=ws.length:=⟨_,rfl⟩
  obtain⟨nh,hnh⟩:∃n:Int,n=hv.length:=⟨_,rfl⟩
  obtain⟨vw,hvw⟩:∃vw,vw=Zs ws:=⟨_,rfl⟩
  have hvwl:vw.length=ws.length:=by rw[hvw,uw]
  have gw:∀k,vw.getD k (.str ⟨#[]⟩)=.str (T (ws.getD k [])):=fun k=>by rw[hvw,zb0]
  obtain⟨vh,hvh⟩:∃vh,vh=Zs hv:=⟨_,rfl⟩
  have hvhl:vh.length=hv.length:=by rw[hvh,uw]
  have gh:∀k,vh.getD k (.str ⟨#[]⟩)=.str (T (hv.getD k [])):=fun k=>by rw[hvh,zb0]
  have g124:kq l→hv.length≤2:=fun h=>by rw[hhv];exact(zlR h).1
  generalize uD:zbj=Yq
  generalize jA:Ke=Zb
  generalize zdn:zgt=zhY
  generalize jr:ZU=uo
  generalize zbJ:zhB=zfW
  generalize uV:ud=Kn
  generalize Yp:q_C=zaF
  generalize ZR:Jq=zaH
  generalize JO:zgj=zeR
  refine zc8 (T:=tab) (B:=[(28,zdW Yq Zb),(29,zhJ zhY uo),(2000000029,zeQ),(30,zoc zfW uo),(16,zgz Kn zaF),(17,zdF zaH zeR)]) (Bi:=[]) [1000005706,2000012060,2000025107,2000025112,3000025007,0,2,3,4,5,6,7,8,9,10,11,12,13,14,15,16] Tryz.func11 rfl rfl (by kernel_rfl) (Nat.le_of_ble_eq_true rfl) mixed yd (by subst uD jA zdn jr zbJ uV Yp ZR JO;exact(zt zf9 (zt zjy (zt zkJ (zt zf8 (zt zjv (zt zhf zH))))))) (by subst uD jA zdn jr zbJ uV Yp ZR JO;exact zE) (by kernel_rfl) ?_
  intro L lp rr hL hr hf hlp
  refine zm4 L tab lp _ _ _ _ _ 6 _ _ fun K1 hK1=>?_
  have Ep:Yq s 124=vh:=by rw[←uD,hvh,hhv,hl];rfl
  have Ew:Yq (T c.1) 32=vw:=by rw[←uD,hvw,hws'];rfl
  have Ev:Yq (T c.2.1) 32=Zs (yc 32 c.2.1):=by rw[←uD];rfl
  conv=>cbv
  simp only[zr hL,sQ,Ep,hvhl,gh,hv1,zci,zau,Ew,hvwl,←hn,←hnh]
  have herr:¬kq l→rr=V.tup [.agg [.slc false 46 (.agg [.slc false 2 (.int .i64 0) []]) [],.slc false 44 (.slc false 2 (.int .i64 0) []) []],.int .i64 6]:=fun h=>by rw[hr,hno h]
  have Qp:∀w:By,w.length≤2000000000→Zb (T w) 32:=fun w h=>by rw[←jA];exact⟨by rw[qy];exact h,32,rfl⟩
  refine⟨by rw[←jA];exact⟨hs',124,rfl⟩,Int.le_refl _,by omega,hv0,Qp _ (by omega),fun h=>(herr fun hg=>?_).symm,fun h1=>?_⟩
  ·have:=g124 hg
   have:=hg.1
   rw[←hws]at this
   omega
  refine hlp ((List V×List V)×Int) _ _ _ [0,2,4,5,6,7] (fun x=>[(0,none,.val (.str s)),(2,none,.val (.box 27 (.agg [.slc true 46 (.agg [.slc true 2 (.int .i64 0) []]) [],.slc true 44 (.slc true 2 (.int .i64 0) []) []]))),(4,none,.val (.slc true 9 (.str ⟨#[]⟩) vh)),(5,none,.val (.slc true 9 (.str ⟨#[]⟩) vw)),(6,none,.val (.box 27 (.agg [.slc true 46 (.agg [.slc false 2 (.int .i64 0) []]) x.1.1,.slc true 44 (.slc true 2 (.int .i64 0) []) x.1.2]))),(7,none,.val (.int .i64 x.2))])
   (fun x=>0≤x.2∧x.2≤n∧x.1.1=BB false (uM (ws.take x.2.toNat))∧x.1.2=II true (List.replicate x.2.toNat (List.replicate ws.length 0))∧∀w∈ws.take x.2.toNat,(uT w).isSome=true) (fun x=>(n-x.2).toNat) ((([],[]),0)) (by subst hL;rfl) ?_ ?_
  ·exact⟨by simp,by simp only;omega,rfl,rfl,fun w hw=>by cases hw⟩
  rintro⟨⟨bs,ms⟩,x⟩ ⟨x0,x1,hB,hM,hok⟩ hfx ag hag
  simp only at x0 x1 hB hM hok
  obtain⟨nx,hnx⟩:∃nx:Nat,nx=x.toNat:=⟨_,rfl⟩
  rw[←hnx]at hB hM hok
  have hbsl:bs.length=nx:=by rw[hB,YL,zbY,List.length_take];omega
  have hmsl:ms.length=nx:=by rw[hM,yz,List.length_replicate]
  conv=>cbv
  simp only[zr hL,sQ,hvwl,hvhl,gh,gw,zci,zau,←hn,←hnx,←hnh,hbsl,hmsl]
  have Epb:∀w:By,zhY (T w)=zie (uT w):=fun w=>by rw[←zdn];rfl
  have hwr:∀k:Nat,k≤6→IntKind.wrap .i64 ((IntKind.wrap .i64 ((k:Int)*IntKind.wrap .i64 ((k:Int)-1))).tdiv 2)=((k*(k-1)/2:Nat):Int):=fun k hk=>by
   rcases (by omega:k=0∨k=1∨k=2∨k=3∨k=4∨k=5∨k=6)with rfl|rfl|rfl|rfl|rfl|rfl|rfl<;>decide
  have hwn:IntKind.wrap .i64 ((IntKind.wrap .i64 (n*IntKind.wrap .i64 (n-1))).tdiv 2)=((ws.length*(ws.length-1)/2:Nat):Int):=by rw[hn];exact hwr _ (by omega)
  rw[hwn]
  simp only[Epb]
  refine⟨fun h2=>?_,fun h2=>?_⟩
  ·have hwm:ws.getD nx []∈ws:=by
    rw[zd,ze (by omega)]
    exact List.getElem_mem _
   have hI:List.replicate n.toNat (V.int .i64 0)=I (List.replicate ws.length 0):=by rw[I,List.map_replicate,hn];rfl
   refine⟨x0,h2,by omega,by rw[←jr];show(T _).size≤2000000000;rw[qy];have:=hww _ hwm;omega,?_⟩
   cases hpw:uT (ws.getD nx [])with
   |none=>
    simp only[zie]
    refine⟨fun _=>(herr fun hg=>?_).symm,fun h=>absurd h (by omega)⟩
    have:=hg.2.1 (ws.getD nx []) (by rw[←hws];exact hwm)
    rw[hpw]at this
    cases this
   |some xs=>
    simp only[zie]
    refine⟨fun h=>absurd trivial h,fun _=>⟨by simp only[zi,List.length_nil];omega,fun z hz=>by(simp only[zX]at hz;subst hz;rfl),by omega,Int.le_refl _,by omega,by simp only[zi,List.length_nil];omega,fun z hz=>by(simp only[zX]at hz;subst hz;rfl),?_⟩⟩
    rw[zl (n:=x+1) (by omega) (by omega),hI]
    have htk:ws.take (nx+1)=ws.take nx++[ws.getD nx []]:=by
     rw[List.take_succ_eq_append_getElem (by omega),zd,ze (by omega)]
     rfl
    refine hag ((_,_),x+1) ⟨by simp only;omega,by simp only;omega,?_,?_,?_⟩ (by simp only;omega)
    ·simp only[yj x0,←hnx]
     rw[htk,uM,List.map_append,List.map_singleton,hpw,Option.getD_some,hB,zN]
     simp[BB,uM]
    ·simp only[yj x0,←hnx]
     rw[hM,List.replicate_succ',II,II,List.map_append]
     rfl
    ·simp only[yj x0,←hnx]
     intro w hw
     rw[htk]at hw
     rcases List.mem_append.1 hw with hw|hw
     ·exact hok w hw
     ·rw[zX.1 hw,hpw];rfl
  clear hag hfx ag
  have hxe:nx=ws.length:=by omega
  rw[hxe,List.take_of_length_le (Nat.le_refl _)]at hB hok
  obtain⟨nums,hnums⟩:∃nums,nums=kR l:=⟨_,rfl⟩
  rw[hxe,zrF _ nums,←hxe]at hM
  have hnx2:n=(nx:Int):=by omega
  rw[←hxe]
  have h6n:hv.length≤2∧ws.length≤6:=by omega
  refine⟨fun h3=>?a,fun h3=>?b⟩
  case' a=>
   obtain⟨hmo,hv1'⟩:=hv3 (by omega)
   have hnt:nums=(yc 32 c.2.1).map jb:=by rw[hnums,kR,zbi,←hc,if_pos hmo]
   obtain⟨wn,hwn'⟩:∃wn,wn=yc 32 c.2.1:=⟨_,rfl⟩
   rw[←hwn']at hnt Ev
   have hwnl:∀w∈wn,w.length≤l.length:=fun w hw=>by
    rw[hwn']at hw
    exact Nat.le_trans (YE 32 _ w hw) hcl.2
   obtain⟨vn,hvn'⟩:∃vn,vn=Zs wn:=⟨_,rfl⟩
   have hvnl:vn.length=wn.length:=by rw[hvn',uw]
   have gvn:∀k,vn.getD k (.str ⟨#[]⟩)=.str (T (wn.getD k [])):=fun k=>by rw[hvn',zb0]
   rw[hv1',Ev,←hvn',hvnl]
   refine⟨by omega,by omega,by omega,Qp _ (by omega),by omega,fun h4=>(herr fun hg=>?f).symm,fun h4=>?c⟩
   case f=>
    have:=hg.2.2.1
    rw[←hws,←hnums,←hxe,hnt,zy]at this
    exact h4 (by rw[this])
   have hl5:nums.length=nx*(nx-1)/2:=by
    rw[hnt,zy]
    exact_mod_cast h4
   have gnum:∀k,k<wn.length→jb (wn.getD k [])=nums.getD k 0:=fun k hk=>by
    rw[hnt,zd,zd,List.getElem?_map,ze hk]
    rfl
   have hwl6:wn.length=nums.length:=by rw[hnt,zy]
   have h15:wn.length≤15:=by
    rw[hwl6,hl5]
    exact(show ∀n,n<7→n*(n-1)/2≤15 by decide) _ (by omega)
   have hval:∀w:By,zfW (T w)=jb w:=fun w=>by rw[←zbJ,zhB];rfl
   clear h4 hnt hv1' Ev Ep Ew Epb hwr hwn
   refine hlp ((List V×Int)×Int) _ _ _ [0,2,5,6,10,11,12] (fun x=>[(0,none,.val (.str s)),(2,none,.val (.box 27 (.agg [.slc true 46 (.agg [.slc true 2 (.int .i64 0) []]) [],.slc true 44 (.slc true 2 (.int .i64 0) []) []]))),(5,none,.val (.slc true 9 (.str ⟨#[]⟩) vw)),(6,none,.val (.box 27 (.agg [.slc true 46 (.agg [.slc false 2 (.int .i64 0) []]) bs,.slc true 44 (.slc true 2 (.int .i64 0) []) x.1.1]))),(10,none,.val (.slc true 9 (.str ⟨#[]⟩) vn)),(11,none,.val (.int .i64 x.1.2)),(12,none,.val (.int .i64 x.2))])
    (fun x=>0≤x.2∧x.2≤n∧x.1.1=II true (T2 nx (uE nx nums x.2.toNat 0))∧x.1.2=uL nx x.2.toNat) (fun x=>(n-x.2).toNat) (((ms,0),0)) (by subst hL;rfl) ?_ ?_
   ·exact⟨by simp,by simp only;omega,hM,rfl⟩
   clear hM
   rintro⟨⟨ms,p⟩,i⟩ ⟨i0,i1,hM,hp⟩ hfx ag hag
   simp only at i0 i1 hM hp
   obtain⟨ni,hni⟩:∃ni:Nat,ni=i.toNat:=⟨_,rfl⟩
   rw[←hni]at hM hp
   conv=>cbv
   simp only[zr hL,sQ,←hni,hvwl,←hn]
   refine⟨fun h6=>?_,fun h6=>?d⟩
   ·rw[zl (n:=i+1) (by omega) (by omega)]
    refine hlp ((List V×Int)×Int) _ _ _ [0,2,5,6,10,11,12,13] (fun y=>[(0,none,.val (.str s)),(2,none,.val (.box 27 (.agg [.slc true 46 (.agg [.slc true 2 (.int .i64 0) []]) [],.slc true 44 (.slc true 2 (.int .i64 0) []) []]))),(5,none,.val (.slc true 9 (.str ⟨#[]⟩) vw)),(6,none,.val (.box 27 (.agg [.slc true 46 (.agg [.slc false 2 (.int .i64 0) []]) bs,.slc true 44 (.slc true 2 (.int .i64 0) []) y.1.1]))),(10,none,.val (.slc true 9 (.str ⟨#[]⟩) vn)),(11,none,.val (.int .i64 y.1.2)),(12,none,.val (.int .i64 i)),(13,none,.val (.int .i64 y.2))])
     (fun y=>i+1≤y.2∧y.2≤n∧y.1.1=II true (T2 nx (uE nx nums ni y.2.toNat))∧y.1.2=((uL nx ni+(y.2.toNat-ni-1):Nat):Int)) (fun y=>(n-y.2).toNat) (((ms,p),i+1)) (by subst hL;rfl) ?_ ?_
    ·refine⟨by simp,by simp only;omega,?_,?_⟩
     ·simp only
      rw[show(i+1).toNat=ni+1 by omega,←zrG,hM]
     ·simp only
      rw[show(i+1).toNat=ni+1 by omega,show ni+1-ni-1=0 by omega,Nat.add_zero,hp]
    rintro⟨⟨ms2,p2⟩,k⟩ ⟨k0,k1,hM2,hp2⟩ hfx2 ag2 hag2
    simp only at k0 k1 hM2 hp2
    obtain⟨nk,hnk⟩:∃nk:Nat,nk=k.toNat:=⟨_,rfl⟩
    rw[←hnk]at hM2 hp2
    have hkx:¬k<n→nk=nx:=fun h=>by omega
    have hnn:ni<nx:=by omega
    have hi1:(i+1).toNat=ni+1:=by omega
    have hb1:0≤i+1∧i+1≤n∧(n-(i+1)).toNat<(n-i).toNat∧-9223372036854775808≤i+1∧i+1≤9223372036854775807:=by omega
    have hml2:ms2.length=nx:=by rw[hM2,yz,zfE]
    obtain⟨v,hv⟩:∃v,v=tbV nx nums ni nk:=⟨_,rfl⟩
    obtain⟨vr1,hvr1⟩:∃vr1,vr1=I ((T2 nx (uE nx nums ni nk)).getD ni []):=⟨_,rfl⟩
    obtain⟨vr2,hvr2⟩:∃vr2,vr2=I ((T2 nx (uE nx nums ni nk)).getD nk []):=⟨_,rfl⟩
    obtain⟨vr3,hvr3⟩:∃vr3,vr3=I ((T2 nx (tbH nx nums ni nk)).getD nk []):=⟨_,rfl⟩
    obtain⟨ms3,hms3⟩:∃ms3,ms3=II true (T2 nx (tbH nx nums ni nk)):=⟨_,rfl⟩
    obtain⟨ms4,hms4⟩:∃ms4,ms4=II true (T2 nx (uE nx nums ni (nk+1))):=⟨_,rfl⟩
    obtain⟨np,hnp⟩:∃np:Nat,np=uL nx ni+(nk-ni-1):=⟨_,rfl⟩
    rw[←hnp]at hp2
    have gms:ms2.getD ni (.slc true 2 (.int .i64 0) [])=.slc true 2 (.int .i64 0) vr1:=by rw[hM2,jf,hvr1]
    have gms2:ms2.getD nk (.slc true 2 (.int .i64 0) [])=.slc true 2 (.int .i64 0) vr2:=by rw[hM2,jf,hvr2]
    have gms3:ms3.getD nk (.slc true 2 (.int .i64 0) [])=.slc true 2 (.int .i64 0) vr3:=by rw[hms3,jf,hvr3]
    have okg:∀a:List V,Ax.vw ui tab true 20 44 (.slc true 2 (.int .i64 0) a)=some (.slc true 2 (.int .i64 0) a):=fun a=>rfl
    obtain⟨w1,hw1⟩:∃w1,vr1.getD nk (.int .i64 0)=.int .i64 w1:=⟨_,by rw[hvr1,zT]⟩
    obtain⟨w3,hw3⟩:∃w3,vr3.getD ni (.int .i64 0)=.int .i64 w3:=⟨_,by rw[hvr3,zT]⟩
    have hml3:ms3.length=nx:=by rw[hms3,yz,zfE]
    have hr1:k<n→vr1.length=nx:=fun h=>by rw[hvr1,zm,zfD _ (by omega),yA]
    have hr2:k<n→vr2.length=nx:=fun h=>by rw[hvr2,zm,zfD _ (by omega),yA]
    have hr3:k<n→vr3.length=nx:=fun h=>by rw[hvr3,zm,zfD _ (by omega),yA]
    have hset1:k<n→ms2.set ni (.slc true 2 (.int .i64 0) (vr1.set nk (.int .i64 v)))=ms3:=fun h=>by
     rw[hM2,hms3,hvr1,hv,Jz,zd2,zrI nums (by omega) (by omega)]
    have hset2:k<n→ms3.set nk (.slc true 2 (.int .i64 0) (vr3.set ni (.int .i64 v)))=ms4:=fun h=>by
     rw[hms3,hvr3,hv,hms4,Jz,zd2,zrH nums (by omega) (by omega)]
    have hpl:k<n→np<wn.length:=fun h=>by
     have hul:=zwb nx (by omega) ni (by omega) nk (by omega) (by omega)
     omega
    have hvv:k<n→jb (wn.getD np [])=v:=fun h=>by rw[gnum _ (hpl h),hnp,hv,tbV]
    have Qd:k<n→uo (T (wn.getD np [])):=fun h=>by
     rw[←jr]
     show(T _).size≤2000000000
     rw[qy]
     have:=hwnl (wn.getD np []) (by
      rw[zd,ze (hpl h)]
      exact List.getElem_mem _)
     omega
    conv=>cbv
    simp only[zr hL,sQ,←hni,←hnk,hvwl,hvnl,gvn,hp2,Int.toNat_natCast,hml2,gms,gms2,hval,←hn,zci,zau]
    refine⟨fun h7=>?_,fun h7=>?_⟩
    ·have hb2:i+1≤k+1∧k+1≤n∧(n-(k+1)).toNat<(n-k).toNat∧-9223372036854775808≤k+1∧k+1≤9223372036854775807∧(k+1).toNat=nk+1:=by omega
     have hul:=hpl h7
     have hb3: -9223372036854775808≤(np:Int)+1∧(np:Int)+1≤9223372036854775807:=by omega
     rw[zl (n:=k+1) hb2.2.2.2.1 hb2.2.2.2.2.1,zl (n:=(np:Int)+1) hb3.1 hb3.2]
     simp only[hvv h7,hset1 h7,gms2,gms3,okg,hml3,hr1 h7,hr2 h7,hw1,zr hL,sQ,hr3 h7,hw3,hset2 h7]
     have hnp1:((np:Int)+1)=((uL nx ni+(nk+1-ni-1):Nat):Int):=by omega
     clear hnp hp2 hp
     refine⟨by omega,by omega,by omega,Qd h7,?_⟩
     repeat (refine And.intro (by omega) ?_)
     refine hag2 ((ms4,(np:Int)+1),k+1) ⟨hb2.1,hb2.2.1,?_,?_⟩ hb2.2.2.1
     ·show ms4=II true (T2 nx (uE nx nums ni (k+1).toNat))
      rw[hms4,hb2.2.2.2.2.2]
     ·show(np:Int)+1=((uL nx ni+((k+1).toNat-ni-1):Nat):Int)
      rw[hb2.2.2.2.2.2,hnp1]
    ·rw[zl (n:=i+1) hb1.2.2.2.1 hb1.2.2.2.2]
     refine hag ((ms2,(np:Int)),i+1) ⟨hb1.1,hb1.2.1,?_,?_⟩ hb1.2.2.1
     ·show ms2=II true (T2 nx (uE nx nums (i+1).toNat 0))
      rw[hi1,hM2,hkx h7,zuK]
     ·show(np:Int)=(uL nx (i+1).toNat:Int)
      rw[hi1,hnp,hkx h7,zxA hnn]
   have hie:ni=nx:=by omega
   rw[hie,zuL]at hM
   have hgd:=zxy (l:=l) (by rw[←hws];omega) (by rw[←hws];exact hok) (by rw[←hws,←hnums,←hxe];exact hl5)
   rw[←hws,←hnums,←hxe,uG]at hgd
   have hgt:kq l→T2 nx (tbe nx nums)=uG nx nums:=fun _=>rfl
   have htl:=zfE nx (tbe nx nums)
   have htr:=zpo (n:=nx) (tbe nx nums)
   obtain⟨tt,htt⟩:∃tt,tt=T2 nx (tbe nx nums):=⟨_,rfl⟩
   rw[←htt]at hgd hM htl htr hgt
  case' b=>
   have hmo:=hv2 (by omega)
   obtain⟨hgd,hgt⟩:=zBl (l:=l) (by rw[←hws];omega) (by rw[←hc];exact hmo) (by rw[←hws];exact hok)
   rw[←hws,←hnums,←hxe]at hgd hgt
   have htl:=zfE nx (uE nx nums 0 0)
   have htr:=zpo (n:=nx) (uE nx nums 0 0)
   obtain⟨tt,htt⟩:∃tt,tt=T2 nx (uE nx nums 0 0):=⟨_,rfl⟩
   rw[←htt]at hgd hM htl htr hgt
  all_goals
   rw[hK1]
   clear hK1
   have E1:Kn (V.frzs bs) (V.frzs ms)=zc5 (uM ws) tt:=by rw[←uV,hB,hM,jh,jg,ud,ka,qC]
   have E2:zaH (V.frzs bs) (V.frzs ms)=T (YI (uM ws) tt):=by rw[←ZR,hB,hM,jh,jg,Jq,ka,qC]
   have QC:q_C (V.frzs bs) (V.frzs ms):=by
    rw[hB,hM,jh,jg]
    exact⟨⟨_,rfl,by rw[zbY];omega,ztH hok⟩,⟨_,rfl,by omega,fun xs hx=>by rw[htr xs hx];omega⟩⟩
   have QT:zc5 (uM ws) tt=true→zeR (V.frzs bs) (V.frzs ms):=fun h=>by
    rw[←JO]
    refine⟨QC,?_,?_⟩
    ·rw[hB,hM,jh,jg,ud,ka,qC];exact h
    ·rw[hB,jh,ka]
     intro xs hx
     have:=(Kl (zyN hok xs hx)).len
     omega
   conv=>cbv
   simp only[zr hL,sQ,E1,E2]
   have hls:(T (YI (uM ws) tt)).toList=s.toList↔YI (uM ws) tt=l:=by
    rw[zhQ,show s.toList=l from by rw[hsl,zhQ]]
   rw[hls]
   refine⟨by rw[←Yp];exact QC,QT,fun h=>(herr fun hg=>?_).symm,fun h=>?_⟩
   ·obtain⟨g1,g2⟩:=hgd.1 hg
    rcases h with h|h
    ·rw[g1]at h;cases h
    ·exact h g2
   ·have hg:=hgd.2 h
    rw[hr,hyes hg,hB,hM,jh,jg,←hws,←hnums,←hxe,hgt hg]
 ·cases h
end Go.Ax
