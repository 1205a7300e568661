import Derived.Test.YtnhfpgcicpfohaaDoorB04p1
import Derived.Test.YtnhfpgcicpfohaaDoorB14p1
/-
 Numbers to texts,and texts joined:strconv.FormatInt at base 10 and strings.Join,out of the shelf's contracts. No conditions but those of the contracts.
-/
set_option linter.all false
namespace Go.Ax
open Go.Proofs Go.Sort Go.RowKit
theorem dec_dcm:∀(f u:Nat),u<10^f→0<f→dcmF f (u:Int)=Lib.decDigits u
 |0,u,_,h=>by omega
 |f+1,u,h,_=>by
  rw [dcmF,Lib.decDigits]
  by_cases hu:u<10
  ·rw [if_pos (by omega),dif_pos hu,show (48+(u:Int)).toNat=48+u by omega]
  ·rw [if_neg (by omega),dif_neg hu]
   have h1:((u:Int).tdiv 10)=((u/10:Nat):Int):=by rw [Int.tdiv_eq_ediv_of_nonneg (by omega)];omega
   have h2:(48+(u:Int).tmod 10).toNat=48+u%10:=by rw [Int.tmod_eq_emod_of_nonneg (by omega)];omega
   have hf:0<f:=by
    cases f with
    |zero=>simp at h;omega
    |succ f=>omega
   rw [h1,h2,dec_dcm f (u/10) (by rw [Nat.pow_succ] at h;omega) hf]
theorem itoa_dcm {n:Int} (h0:0≤n) (h1:n<1000000000):Lib.itoa n=dcm n:=by
 obtain ⟨u,rfl⟩:∃u:Nat,n=u:=⟨n.toNat,by omega⟩
 rw [Lib.itoa,if_neg (by omega),Int.toNat_natCast,dcm]
 refine (dec_dcm 20 u ?_ (by omega)).symm
 have:(10:Nat)^20=100000000000000000000:=by decide
 omega
theorem join_joinL (c:UInt8):∀l:List By,Lib.join l [c]=joinL c l
 |[]=>rfl
 |[x]=>Lib.join_one x [c]
 |x::y::l=>by
  have ih:=join_joinL c (y::l)
  rw [Lib.join_cons] at ih ⊢
  rw [joinL,←ih]
  simp [Lib.joinTail]
def f_fmt (n _b:Int):ByteArray:=T (dcm n)
def q_fmt (n b:Int):Prop:=b=10∧0≤n∧n<1000000000
def c_ii_s (f:Int→Int→ByteArray) (q:Int→Int→Prop):Contract:=fun
 |[.int .i64 a0,.int .i64 a1]=>some ([q a0 a1],.str (f a0 a1))
 |_=>none
theorem s_fmt:Sat Tryd.prog 56 (c_ii_s f_fmt q_fmt):=by
 intro args ps r h hp
 unfold c_ii_s at h
 split at h
 ·rename_i n b
  simp only [Option.some.injEq,Prod.mk.injEq] at h
  obtain ⟨rfl,rfl⟩:=h
  obtain ⟨rfl,h0,h1⟩:q_fmt n b:=(alls_cons.1 hp).1
  refine ⟨⟨_,Tryd.func56,by kernel_rfl,rfl⟩,fun vals w F hsz hv hF hG=> ?_⟩
  have e0:vals.getD 0 undef= .int .i64 n:=by
   obtain ⟨cs,k1,k2⟩:=hv 0 _ rfl
   cases k2
   exact k1
  have e1:vals.getD 1 undef= .int .i64 10:=by
   obtain ⟨cs,k1,k2⟩:=hv 1 _ rfl
   cases k2
   exact k1
  have hs2:vals.size=2:=hsz
  have hvs:vals= #[.int .i64 n,.int .i64 10]:=by
   rw [←e0,←e1]
   apply Array.ext
   ·simpa using hs2
   ·intro i h1 h2
    rcases (by omega:i=0∨i=1) with rfl|rfl<;>simp [Array.getD,hs2]
  rw [hvs]
  have htab:Lib.TabIs Tryd.prog w tabName .u64 Lib.pow10Tab:=(hG w fun _ _=>rfl).resolve_left (by
   have h:(Tryd.prog.globalNamed tabName).isNone=false:=by kernel_rfl
   intro e
   rw [e] at h
   cases h)
  refine (Any.strconv_FormatInt_10 lfmt n (by omega) (by omega) w htab).mono ?_
  rintro e w' ⟨rfl,k,os,rfl⟩
  rw [itoa_dcm h0 h1]
  exact ⟨_,[_],fun _=>False,fun _=>False,rfl,rfl,.str _ _,fun b hb=>hb.elim False.elim False.elim,fun b hb=>hb.elim,⟨rfl,rfl,⟨rfl,drN_le (Nat.le_add_right _ _)⟩,by rw [size_grow];exact Nat.le_add_right _ _,fun k hk=>heap_grow_old _ _ hk⟩⟩
 ·cases h
def f_jn (es:List V) (s:ByteArray):ByteArray:=T (joinL (s.data.toList.getD 0 0) (es.map fun x=>match x with| .str t=>t.data.toList|_=>[]))
def q_jn (es:List V) (s:ByteArray):Prop:=∃ws c,es=Zs ws∧s=T [c]∧ws.length≤2147483647∧(joinL c ws).length≤2147483647
theorem f_jn_eq (ws:List By) (c:UInt8):f_jn (Zs ws) (T [c])=T (joinL c ws):=by
 rw [f_jn,Zs,List.map_map]
 have:(ws.map ((fun x=>match x with|V.str t=>t.data.toList|_=>[])∘fun w=>V.str (T w)))=ws:=by
  conv=>rhs;rw [←List.map_id ws]
  exact List.map_congr_left fun w _=>by simp [T]
 rw [this]
 rfl
def c_zs_s (f:List V→ByteArray→ByteArray) (q:List V→ByteArray→Prop):Contract:=fun
 |[.slc false 9 _ a0,.str a1]=>some ([q a0 a1],.str (f a0 a1))
 |_=>none
theorem s_join:Sat Tryd.prog 34 (c_zs_s f_jn q_jn):=by
 intro args ps r h hp
 unfold c_zs_s at h
 split at h
 ·rename_i d0 es s
  simp only [Option.some.injEq,Prod.mk.injEq] at h
  obtain ⟨rfl,rfl⟩:=h
  obtain ⟨ws,c,rfl,rfl,h0,h1⟩:q_jn es s:=(alls_cons.1 hp).1
  rw [f_jn_eq]
  refine ⟨⟨_,Tryd.func34,by kernel_rfl,rfl⟩,fun vals w F hsz hv hF hG=> ?_⟩
  have e1:vals.getD 1 undef= .string (T [c]):=by
   obtain ⟨cs,k1,k2⟩:=hv 1 _ rfl
   cases k2
   exact k1
  have hs2:vals.size=2:=hsz
  have hvs:∀v,vals.getD 0 undef=v→vals= #[v,.string (T [c])]:=fun v hv=>by
   rw [←e1,←hv]
   apply Array.ext
   ·simpa using hs2
   ·intro i h1 h2
    rcases (by omega:i=0∨i=1) with rfl|rfl<;>simp [Array.getD,hs2]
  have fin:∀(e:Ending) (w':World),(e= .returned (.string (T (joinL c ws)))∧Below w.heap.size w w')→∃(v:Value) (cs:List Value) (On Fr:Nat→Prop),e= .returned v∧(V.str (T (joinL c ws))).reg cs v∧Rep Tryd.prog.cellsOf w' (fun b=>F b∨Fr b) (.str (T (joinL c ws))) cs On∧(∀b,On b∨Fr b→w.heap.size≤b∧b<w'.heap.size)∧(∀b,On b→¬Fr b)∧BelowD w.heap.size w w':=by
   rintro e w' ⟨rfl,hb⟩
   exact ⟨_,[_],fun _=>False,fun _=>False,rfl,rfl,.str _ _,fun b hb=>hb.elim False.elim False.elim,fun b hb=>hb.elim,⟨hb.os,hb.tape,⟨hb.output,Nat.le_refl 0⟩,hb.size,hb.block⟩⟩
  obtain ⟨cs,k1,k2⟩:=hv 0 _ rfl
  have hT:∀w:By,(T w).data.toList=w:=fun w=>by simp [T]
  have hmm:(ws.map T).map (·.data.toList)=ws:=by
   rw [List.map_map]
   conv=>rhs;rw [←List.map_id ws]
   exact List.map_congr_left fun w _=>hT w
  have hj:Lib.join ((ws.map T).map (·.data.toList)) (T [c]).data.toList=joinL c ws:=by
   rw [hmm,hT,join_joinL]
  generalize hzs:Zs ws=zs at k2
  cases k2 with
  |fz0 e d a cap O=>
   have hw:ws=[]:=by
    cases ws with
    |nil=>rfl
    |cons x l=>simp [Zs] at hzs
   rw [hvs _ k1]
   refine (Any.strings_Join_none ljoin ljoinX a cap (T [c]) w).mono fun e w' hw2=>fin e w' ⟨?_,?_⟩
   ·rw [hw2.1,hw];rfl
   ·rw [hw2.2];exact Below.refl _ _
  |fz e d es b off len cap cs0 O hl hc hm hFb hcs hr=>
   subst hzs
   rw [Zs_length] at hl hc hcs
   rw [hvs _ k1]
   have hcz: Tryd.prog.cellsOf 9 =1:=by kernel_rfl
   have hx:(ws.map T).length=len:=by rw [List.length_map,hl]
   have hcells:∀(j:Nat) (x:ByteArray),(ws.map T)[j]? =some x→w.cell? ⟨b,off+j,none⟩=some (.string x):=fun j x hx=>by
    rw [List.getElem?_map] at hx
    cases hwj:ws[j]? with
    |none=>rw [hwj] at hx;cases hx
    |some y=>
     rw [hwj] at hx
     simp only [Option.map_some,Option.some.injEq] at hx
     subst hx
     have hjl:=(List.getElem?_eq_some_iff.1 hwj).1
     have hrep:=hr j (.str (T y)) (by rw [Zs,List.getElem?_map,hwj];rfl)
     have hcj:cs0 j=[.string (T y)]:=by
      generalize cs0 j=z at hrep
      cases hrep
      rfl
     have h2:=(hcs j hjl).2 0 (.string (T y)) (by rw [hcj];rfl)
     rw [hcz,Nat.mul_one,Nat.add_zero] at h2
     exact h2
   have key:=Any.strings_Join ljoin ljoinX b off cap (ws.map T) (T [c]) w hcells (hF b hFb) (by rw [List.length_map];omega) (by rw [List.length_map];exact hc) (by rw [hj];omega)
   rw [hx,hj] at key
   exact key.mono fun e w' h=>fin e w' ⟨h.1,h.2⟩
 ·cases h
end Go.Ax
