import Derived.Test.YtnhfpgcicpfohaaGreatDoorB08p1
import Derived.Test.YtnhfpgcicpfohaaGreatDoorB05p1
set_option linter.all false
set_option maxRecDepth 100000
set_option maxHeartbeats 8000000
open Int renaming toNat_natCast→zV
open List renaming getD_eq_getElem?_getD→zd,getElem?_eq_getElem→ze,mem_singleton→zX,take_of_length_le→zu
/-
 Curves in texts:impl.ParseCurve. No conditions but those of the contracts.
-/
namespace Go.Ax
open Go.Proofs
def zto(f:ByteArray→List V×List V×Int)(q:ByteArray→Prop):zQ:=fun
 |[.str a0]=>some ([q a0],.tup [.agg [.slc true 46 (.agg [.slc true 2 (.int .i64 0) []]) ((f a0).1),.slc true 44 (.slc true 2 (.int .i64 0) []) ((f a0).2.1)],.int .i64 ((f a0).2.2)])
 |_=>none
noncomputable def zbk(s:ByteArray):List V×List V×Int:=if@decide (kq s.data.toList) (Classical.propDecidable _)then(BB true (uM (qH s.data.toList)),II true (uG (qH s.data.toList).length (kR s.data.toList)),0)else([],[],6)
theorem zqJ{s:ByteArray}(h:kq s.data.toList):zbk s=(BB true (uM (qH s.data.toList)),II true (uG (qH s.data.toList).length (kR s.data.toList)),0):=by
 rw[zbk,if_pos (@decide_eq_true _ (Classical.propDecidable _) h)]
theorem zs0{s:ByteArray}(h:¬kq s.data.toList):zbk s=([],[],6):=by
 rw[zbk,@decide_eq_false _ (Classical.propDecidable _) h];rfl
theorem zlv:yZ Tryz.prog 8 (zto zbk ZU):=by
 intro args ps r h hp
 unfold zto at h
 split at h
 ·rename_i s
  simp only[Option.some.injEq,Prod.mk.injEq]at h
  obtain⟨rfl,rfl⟩:=h
  have hs:ZU s:=(zo.1 hp).1
  have hs':s.size≤2000000000:=hs
  obtain⟨l,hl⟩:∃l,l=s.data.toList:=⟨_,rfl⟩
  have hsl:s=T l:=by rw[hl];exact zg5 s
  have hsz:s.size=l.length:=by rw[hsl,qy]
  have hyes:kq l→zbk s=(BB true (uM (qH l)),II true (uG (qH l).length (kR l)),0):=fun h=>by rw[hl];exact zqJ (by rw[←hl];exact h)
  have hno:¬kq l→zbk s=([],[],6):=fun h=>zs0 (by rw[←hl];exact h)
  obtain⟨c,hc⟩:∃c,c=qE 124 l:=⟨_,rfl⟩
  have hcl:c.1.length≤l.length∧c.2.1.length≤l.length:=by
   rcases YJ 124 l with⟨_,h2,_⟩|⟨a,b,h1,_,h2,_⟩
   ·rw[hc,h2];exact⟨Nat.le_refl _,Nat.zero_le _⟩
   ·rw[hc,h2,h1];simp only[List.length_append,List.length_cons];omega
  obtain⟨ws,hws⟩:∃ws,ws=qH l:=⟨_,rfl⟩
  have hws':ws=yc 32 c.1:=by rw[hws,qH,hc]
  have hwl:=JT 32 c.1
  rw[←hws']at hwl
  have hww:∀w∈ws,w.length≤l.length:=fun w hw=>by
   rw[hws']at hw
   exact Nat.le_trans (YE 32 _ w hw) hcl.1
  obtain⟨n,hn⟩:∃n:Int,n=ws.length:=⟨_,rfl⟩
  obtain⟨tb,htb⟩:∃tb,tb=T c.2.1:=⟨_,rfl⟩
  obtain⟨vw,hvw⟩:∃vw,vw=Zs ws:=⟨_,rfl⟩
  have hvwl:vw.length=ws.length:=by rw[hvw,uw]
  have gw:∀k,vw.getD k (.str ⟨#[]⟩)=.str (T (ws.getD k [])):=fun k=>by rw[hvw,zb0]
  generalize JQ:zgs=zaG
  generalize jA:Ke=Zb
  generalize uD:zbj=Yq
  generalize zdn:zgt=zhY
  generalize jr:ZU=uo
  generalize zdp:zn0=zhZ
  generalize zg9:zgw=zl2
  generalize zxr:q_n=zAZ
  generalize uV:ud=Kn
  generalize Yp:q_C=zaF
  refine zO (T:=tab) (B:=[(18,zfz zaG Zb),(19,zdW Yq Zb),(20,zhJ zhY uo),(21,zla zhZ Zb),(22,ztp zl2 zAZ),(14,zgz Kn zaF)]) (Bi:=[]) [1000021013,3000027011,0,2,3,4,5,6,7,9,10,11,12,13,14,15,16,17,26,27,28,85,86] Tryz.func8 rfl rfl (by kernel_rfl) (Nat.le_of_ble_eq_true rfl) mixed yd (by subst JQ jA uD zdn jr zdp zg9 zxr uV Yp;exact(zt zed (zt zhp (zt zjz (zt ze5 (zt zq2 (zt zhr zH))))))) (by subst JQ jA uD zdn jr zdp zg9 zxr uV Yp;exact zE) (by kernel_rfl) ?_
  intro L lp rr hL hr hf hlp
  refine zm4 L tab lp _ _ _ _ _ 9 _ _ fun K1 hK1=>?_
  have Ep:zaG s 124=(T c.1,tb,c.2.2):=by rw[←JQ,hc,htb,hc,hl];rfl
  have Ew:Yq (T c.1) 32=vw:=by rw[←uD,hvw,hws'];rfl
  conv=>cbv
  simp only[zr hL,sQ,Ep,Ew,hvwl,←hn]
  refine⟨by rw[←jA];exact⟨by omega,124,rfl⟩,by rw[←jA];exact⟨by rw[qy];omega,32,rfl⟩,?_⟩
  obtain⟨mo,hmo⟩:∃mo,mo=c.2.2:=⟨_,rfl⟩
  rw[←hmo]
  refine hlp (List V×Int) _ _ _ [2,3,5,6,7,26,27,28] (fun x=>[(2,none,.val (.box 27 (.agg [.slc true 46 (.agg [.slc true 2 (.int .i64 0) []]) [],.slc true 44 (.slc true 2 (.int .i64 0) []) []]))),(3,none,.val (.int .i64 0)),(5,none,.val (.str tb)),(6,none,.val (.bool mo)),(7,none,.val (.box 27 (.agg [.slc true 46 (.agg [.slc true 2 (.int .i64 0) []]) x.1,.slc true 44 (.slc true 2 (.int .i64 0) []) []]))),(26,none,.val (.slc true 9 (.str ⟨#[]⟩) vw)),(27,none,.val (.int .i64 n)),(28,none,.val (.int .i64 x.2))])
   (fun x=>0≤x.2∧x.2≤n∧x.2≤6∧x.1=BB true (uM (ws.take x.2.toNat))∧∀w∈ws.take x.2.toNat,(uT w).isSome=true) (fun x=>(n-x.2).toNat) (([],0)) (by subst hL;rw[hn,←hvwl];rfl) ?_ ?_
  ·exact⟨by simp,by simp only;omega,by simp,rfl,fun w hw=>by cases hw⟩
  rintro⟨bs,x⟩ ⟨x0,x1,x6,hB,hok⟩ hfx ag hag
  simp only at x0 x1 x6 hB hok
  obtain⟨nx,hnx⟩:∃nx:Nat,nx=x.toNat:=⟨_,rfl⟩
  rw[←hnx]at hB hok
  have hbsl:bs.length=nx:=by rw[hB,YL,zbY,List.length_take];omega
  conv=>cbv
  simp only[zr hL,sQ,hvwl,gw,zci,zau,←hn,←hnx,hbsl]
  have herr:¬kq l→rr=V.tup [.agg [.slc true 46 (.agg [.slc true 2 (.int .i64 0) []]) [],.slc true 44 (.slc true 2 (.int .i64 0) []) []],.int .i64 6]:=fun h=>by rw[hr,hno h]
  have Epb:∀w:By,zhY (T w)=zie (uT w):=fun w=>by rw[←zdn];rfl
  have hwr:∀k:Nat,k≤6→IntKind.wrap .i64 ((IntKind.wrap .i64 ((k:Int)*IntKind.wrap .i64 ((k:Int)-1))).tdiv 2)=((k*(k-1)/2:Nat):Int):=fun k hk=>by
   rcases (by omega:k=0∨k=1∨k=2∨k=3∨k=4∨k=5∨k=6)with rfl|rfl|rfl|rfl|rfl|rfl|rfl<;>decide
  have hwp:=zrA l
  rw[←hws]at hwp
  have Qn:zAZ (nx:Int):=by rw[←zxr];exact⟨by omega,by omega⟩
  have Em:zhZ tb 32=(I (ZW (yc 32 c.2.1)).1,(ZW (yc 32 c.2.1)).2):=by rw[←zdp,htb];rfl
  simp only[Epb,Em,zm,List.length_nil,hwr nx (by omega)]
  refine⟨fun h2=>?_,fun h2=>?_⟩
  ·have hwm:ws.getD nx []∈ws:=by
    rw[zd,ze (by omega)]
    exact List.getElem_mem _
   refine⟨x0,h2,by omega,by rw[←jr];show(T _).size≤2000000000;rw[qy];have:=hww _ hwm;omega,?_⟩
   cases hpw:uT (ws.getD nx [])with
   |none=>
    simp only[zie]
    refine⟨fun _=>(herr fun hg=>?_).symm,fun h=>absurd h.1 (by omega)⟩
    have:=hg.2.1 (ws.getD nx []) (by rw[←hws];exact hwm)
    rw[hpw]at this
    cases this
   |some xs=>
    simp only[zie]
    refine⟨fun h=>(herr fun hg=>?_).symm,fun h=>⟨by simp only[List.length_cons,List.length_nil];omega,fun z hz=>by(simp only[zX]at hz;subst hz;rfl),?_⟩⟩
    ·have:=hg.1
     rw[←hws]at this
     rcases h with h|h
     ·exact h trivial
     ·omega
    ·rw[zl (n:=x+1) (by omega) (by omega)]
     have htk:ws.take (nx+1)=ws.take nx++[ws.getD nx []]:=by
      rw[List.take_succ_eq_append_getElem (by omega),zd,ze (by omega)]
      rfl
     refine hag (_,x+1) ⟨by simp only;omega,by simp only;omega,by simp only;omega,?_,?_⟩ (by simp only;omega)
     ·simp only[yj x0,←hnx]
      rw[htk,uM,List.map_append,List.map_singleton,hpw,Option.getD_some,hB]
      simp[BB,uM]
     ·simp only[yj x0,←hnx]
      intro w hw
      rw[htk]at hw
      rcases List.mem_append.1 hw with hw|hw
      ·exact hok w hw
      ·rw[zX.1 hw,hpw];rfl
  clear hag hfx ag
  have hxe:nx=ws.length:=by omega
  rw[hxe,zu (Nat.le_refl _)]at hB hok
  have hns:mo=false→kR l=[]:=fun h=>by rw[kR,zbi,←hc,←hmo,h];rfl
  have hnt:mo=true→kR l=(yc 32 c.2.1).map jb:=fun h=>by rw[kR,zbi,←hc,←hmo,h];rfl
  obtain⟨nums,hnums⟩:∃nums,nums=kR l:=⟨_,rfl⟩
  rw[←hnums]at hns hnt
  have hmg:kq l→(mo=true↔1<nx):=fun h=>by
   have:=zqE h
   rw[←hc,←hmo,←hws,←hxe]at this
   exact this
  have hmd:kq l→mo=decide (1<(nx:Int)):=fun h=>by
   have:=hmg h
   rw[Bool.eq_iff_iff,decide_eq_true_eq,this]
   omega
  have hlg:kq l→nums.length=nx*(nx-1)/2:=fun h=>by rw[hnums,h.2.2.1,←hws,←hxe]
  refine⟨fun h3=>⟨by rw[←jA,htb];exact⟨by rw[qy];omega,32,rfl⟩,fun h4=>?e,fun h4=>?a⟩,fun h3=>?b⟩
  case e=>
   refine(herr fun hg=>?_).symm
   rw[ZW]at h4
   split at h4
   ·cases h4
   ·rename_i h5
    refine h5 (List.all_eq_true.2 fun w hw=>zoT ?_)
    refine zjW hg _ ?_
    rw[←hnums,hnt h3]
    exact List.mem_map_of_mem hw
  case' a=>
   have hnl:(ZW (yc 32 c.2.1)).1=nums:=by
    rw[hnt h3]
    rw[ZW]at h4 ⊢
    split at h4
    ·rename_i h5;rw[if_pos h5]
    ·cases h4
   rw[hnl]
   refine⟨fun _=>by omega,fun h5=>?f,fun h5=>⟨Qn,?c⟩⟩
   case f=>
    refine(herr fun hg=>?_).symm
    rcases h5 with h5|h5
    ·exact h5 (hmd hg)
    ·exact h5 (by rw[hlg hg])
   have hl5:nums.length=nx*(nx-1)/2:=by exact_mod_cast h5.2
   obtain⟨vn0,hvn0⟩:∃v,v=I nums:=⟨_,rfl⟩
   have hz:I nums=V.frzs vn0:=by rw[hvn0,zN]
   rw[h4,←hvn0]
   clear h4 hnl hvn0
  case' b=>
   have hnl:=hns h3
   refine⟨fun _=>by omega,fun h5=>?f,fun h5=>⟨Qn,?c⟩⟩
   case f=>
    refine(herr fun hg=>?_).symm
    rcases h5 with h5|h5
    ·exact h5 (hmd hg)
    ·exact h5 (by rw[←hlg hg,hnl];rfl)
   have hl5:nums.length=nx*(nx-1)/2:=by
    rw[hnl]
    exact_mod_cast h5.2
   have hz:I nums=V.frzs []:=by rw[hnl];rfl
   clear hnl
  all_goals
   clear h5 hnt hns hmg hmd hlg h3 Ep Ew Epb Em gw hww hwr hws' hwl
   rw[hK1]
   clear hK1
   obtain⟨m,hm⟩:∃m:Int,m=(nx:Int):=⟨_,rfl⟩
   simp only[←hm]
   conv=>cbv
   have hsq:zl2 m=II true (T2 nx (uE nx nums 0 0)):=by rw[←zg9,zgw,hm,zV,zrF]
   obtain⟨c0,hc0⟩:∃c0,c0=II true (T2 nx (uE nx nums 0 0)):=⟨_,rfl⟩
   rw[hsq,←hc0]
   try simp only[zN]
   refine hlp ((List V×List V)×Int) _ _ _ [2,3,7,12,13,85,86] (fun x=>[(2,none,.val (.box 27 (.agg [.slc true 46 (.agg [.slc true 2 (.int .i64 0) []]) [],.slc true 44 (.slc true 2 (.int .i64 0) []) []]))),(3,none,.val (.int .i64 0)),(7,none,.val (.box 27 (.agg [.slc true 46 (.agg [.slc true 2 (.int .i64 0) []]) bs,.slc true 44 (.slc true 2 (.int .i64 0) []) x.1.1]))),(12,none,.val (.int .i64 m)),(13,none,.val (.slc false 2 (.int .i64 0) x.1.2)),(85,none,.val (.int .i64 m)),(86,none,.val (.int .i64 x.2))])
    (fun x=>0≤x.2∧x.2≤m∧x.1.1=II true (T2 nx (uE nx nums x.2.toNat 0))∧x.1.2=I (nums.drop (uL nx x.2.toNat))) (fun x=>(m-x.2).toNat) (((c0,I nums),0)) (by subst hL;rw[hz];rfl) ?_ ?_
   ·exact⟨by simp,by simp only;omega,hc0,rfl⟩
   rintro⟨⟨ms,vn⟩,i⟩ ⟨i0,i1,hM,hN⟩ hfx ag hag
   simp only at i0 i1 hM hN
   obtain⟨ni,hni⟩:∃ni:Nat,ni=i.toNat:=⟨_,rfl⟩
   rw[←hni]at hM hN
   conv=>cbv
   simp only[zr hL,sQ,←hni]
   have E1:Kn (V.frzs bs) (V.frzs ms)=zc5 (zcO (V.frzs bs)) (Ka (V.frzs ms)):=by rw[←uV];rfl
   refine⟨fun h6=>?_,fun h6=>?_⟩
   ·rw[zl (n:=i+1) (by omega) (by omega)]
    refine hlp ((List V×List V)×Int) _ _ _ [2,3,7,12,13,16,17,85,86] (fun y=>[(2,none,.val (.box 27 (.agg [.slc true 46 (.agg [.slc true 2 (.int .i64 0) []]) [],.slc true 44 (.slc true 2 (.int .i64 0) []) []]))),(3,none,.val (.int .i64 0)),(7,none,.val (.box 27 (.agg [.slc true 46 (.agg [.slc true 2 (.int .i64 0) []]) bs,.slc true 44 (.slc true 2 (.int .i64 0) []) y.1.1]))),(12,none,.val (.int .i64 m)),(13,none,.val (.slc false 2 (.int .i64 0) y.1.2)),(16,none,.val (.int .i64 i)),(17,none,.val (.int .i64 y.2)),(85,none,.val (.int .i64 m)),(86,none,.val (.int .i64 i))])
     (fun y=>i+1≤y.2∧y.2≤m∧y.1.1=II true (T2 nx (uE nx nums ni y.2.toNat))∧y.1.2=I (nums.drop (uL nx ni+(y.2.toNat-ni-1)))) (fun y=>(m-y.2).toNat) (((ms,vn),i+1)) (by subst hL;rfl) ?_ ?_
    ·refine⟨by simp,by simp only;omega,?_,?_⟩
     ·simp only
      rw[show(i+1).toNat=ni+1 by omega,←zrG,hM]
     ·simp only
      rw[show(i+1).toNat=ni+1 by omega,show ni+1-ni-1=0 by omega,Nat.add_zero,hN]
    rintro⟨⟨ms2,vn2⟩,k⟩ ⟨k0,k1,hM2,hN2⟩ hfx2 ag2 hag2
    simp only at k0 k1 hM2 hN2
    obtain⟨nk,hnk⟩:∃nk:Nat,nk=k.toNat:=⟨_,rfl⟩
    rw[←hnk]at hM2 hN2
    have hkx:¬k<m→nk=nx:=fun h=>by omega
    have hnn:ni<nx:=by omega
    have hi1:(i+1).toNat=ni+1:=by omega
    have hb1:0≤i+1∧i+1≤m∧(m-(i+1)).toNat<(m-i).toNat∧-9223372036854775808≤i+1∧i+1≤9223372036854775807:=by omega
    have hml2:ms2.length=nx:=by rw[hM2,yz,zfE]
    obtain⟨v,hv⟩:∃v,v=tbV nx nums ni nk:=⟨_,rfl⟩
    obtain⟨vr1,hvr1⟩:∃vr1,vr1=I ((T2 nx (uE nx nums ni nk)).getD ni []):=⟨_,rfl⟩
    obtain⟨vr3,hvr3⟩:∃vr3,vr3=I ((T2 nx (tbH nx nums ni nk)).getD nk []):=⟨_,rfl⟩
    obtain⟨ms3,hms3⟩:∃ms3,ms3=II true (T2 nx (tbH nx nums ni nk)):=⟨_,rfl⟩
    obtain⟨ms4,hms4⟩:∃ms4,ms4=II true (T2 nx (uE nx nums ni (nk+1))):=⟨_,rfl⟩
    obtain⟨ln,hln⟩:∃ln,ln=nums.length-(uL nx ni+(nk-ni-1)):=⟨_,rfl⟩
    have gms:ms2.getD ni (.slc true 2 (.int .i64 0) [])=.slc true 2 (.int .i64 0) vr1:=by rw[hM2,jf,hvr1]
    obtain⟨vr2,hvr2⟩:∃vr2,vr2=I ((T2 nx (uE nx nums ni nk)).getD nk []):=⟨_,rfl⟩
    have gms2:ms2.getD nk (.slc true 2 (.int .i64 0) [])=.slc true 2 (.int .i64 0) vr2:=by rw[hM2,jf,hvr2]
    have okg:∀a:List V,Ax.vw ui tab true 20 44 (.slc true 2 (.int .i64 0) a)=some (.slc true 2 (.int .i64 0) a):=fun a=>rfl
    obtain⟨w1,hw1⟩:∃w1,vr1.getD nk (.int .i64 0)=.int .i64 w1:=⟨_,by rw[hvr1,zT]⟩
    obtain⟨w3,hw3⟩:∃w3,vr3.getD ni (.int .i64 0)=.int .i64 w3:=⟨_,by rw[hvr3,zT]⟩
    have gms3:ms3.getD nk (.slc true 2 (.int .i64 0) [])=.slc true 2 (.int .i64 0) vr3:=by rw[hms3,jf,hvr3]
    have hvl2:vn2.length=ln:=by rw[hN2,zm,List.length_drop,hln]
    have gvn:vn2.getD 0 (.int .i64 0)=.int .i64 v:=by rw[hN2,zT,hv,tbV,zd,List.getElem?_drop,Nat.add_zero,zd]
    have hml3:ms3.length=nx:=by rw[hms3,yz,zfE]
    have hr1:k<m→vr1.length=nx:=fun h=>by rw[hvr1,zm,zfD _ (by omega),yA]
    have hr3:k<m→vr3.length=nx:=fun h=>by rw[hvr3,zm,zfD _ (by omega),yA]
    have hset1:k<m→ms2.set ni (.slc true 2 (.int .i64 0) (vr1.set nk (.int .i64 v)))=ms3:=fun h=>by
     rw[hM2,hms3,hvr1,hv,Jz,zd2,zrI nums (by omega) (by omega)]
    have hset2:k<m→ms3.set nk (.slc true 2 (.int .i64 0) (vr3.set ni (.int .i64 v)))=ms4:=fun h=>by
     rw[hms3,hvr3,hv,hms4,Jz,zd2,zrH nums (by omega) (by omega)]
    obtain⟨vt,hvt⟩:∃vt,vt=I (nums.drop (uL nx ni+(nk+1-ni-1))):=⟨_,rfl⟩
    have htl:k<m→(vn2.take ln).drop 1=vt:=fun h=>by
     rw[zu (by omega),hN2,hvt,I,I,←List.map_drop,List.drop_drop,show uL nx ni+(nk-ni-1)+1=uL nx ni+(nk+1-ni-1) by omega]
    conv=>cbv
    simp only[zr hL,sQ,←hni,←hnk,hml2,gms,hvl2,gvn]
    refine⟨fun h7=>?_,fun h7=>?_⟩
    ·have hul:=zwb nx (by omega) ni (by omega) nk (by omega) (by omega)
     rw[zl (n:=k+1) (by omega) (by omega)]
     simp only[hset1 h7,gms2,gms3,okg,hml3,hr1 h7,hw1,zr hL,sQ,hr3 h7,hw3,hset2 h7,zV,show(1:Int).toNat=1 from rfl,htl h7]
     repeat (refine And.intro (by omega) ?_)
     refine hag2 ((ms4,vt),k+1) ⟨by simp only;omega,by simp only;omega,?_,?_⟩ (by simp only;omega)
     ·simp only
      rw[hms4,show(k+1).toNat=nk+1 by omega]
     ·simp only
      rw[hvt,show(k+1).toNat=nk+1 by omega]
    ·rw[zl (n:=i+1) hb1.2.2.2.1 hb1.2.2.2.2]
     refine hag ((ms2,vn2),i+1) ⟨hb1.1,hb1.2.1,?_,?_⟩ hb1.2.2.1
     ·show ms2=II true (T2 nx (uE nx nums (i+1).toNat 0))
      rw[hi1,hM2,hkx h7,zuK]
     ·show vn2=I (nums.drop (uL nx (i+1).toNat))
      rw[hi1,hN2,hkx h7,zxA hnn]
   ·have hie:ni=nx:=by omega
    rw[hie,zuL]at hM
    have hb1:zcO (V.frzs bs)=uM ws:=by rw[hB,jh,ka]
    have hm1:Ka (V.frzs ms)=uG nx nums:=by rw[hM,jg,qC,uG]
    rw[E1,hb1,hm1]
    have hgd:kq l↔zc5 (uM ws) (uG nx nums)=true:=by
     rw[kq,←hws,←hnums,←hxe]
     exact⟨fun h=>h.2.2.2,fun h=>⟨by omega,hok,hl5,h⟩⟩
    refine⟨?_,fun h7=>(herr fun hg=>?_).symm,fun h7=>?_⟩
    ·rw[←Yp,hB,hM,jh,jg]
     refine⟨⟨_,rfl,by rw[zbY];omega,?_⟩,⟨_,rfl,by rw[zfE];omega,?_⟩⟩
     ·exact ztH hok
     ·exact fun xs hx=>by rw[zpo _ xs hx];omega
    ·rw[hgd.1 hg]at h7;cases h7
    ·rw[hr,hyes (hgd.2 h7),hB,hM,←hws,←hnums,←hxe,uG]
 ·cases h
end Go.Ax
