import Derived.Test.YtnhfpgcicpfohaaDoorB06p1
/-
 Sequences of multiplicities:runs of Euclid's algorithm,and which points are proximate. No program in sight.
-/
set_option linter.all false
namespace Go.Ax
open Go.Proofs
def stp (a b:Nat):List (Nat×Nat):=if _h:0<b then (a/b,b)::stp b (a%b) else []
termination_by b
decreasing_by exact Nat.mod_lt _ (by assumption)
theorem stp_pos {a b:Nat} (h:0<b):stp a b=(a/b,b)::stp b (a%b):=by rw [stp,dif_pos h]
theorem stp_zero (a:Nat):stp a 0=[]:=by rw [stp,dif_neg (by omega)]
def ex (a b:Nat):List Nat:=(stp a b).flatMap fun p=>List.replicate p.1 p.2
theorem ex_pos {a b:Nat} (h:0<b):ex a b=List.replicate (a/b) b++ex b (a%b):=by rw [ex,stp_pos h,List.flatMap_cons,ex]
theorem ex_zero (a:Nat):ex a 0=[]:=by rw [ex,stp_zero];rfl
def hd1 (l:List Nat):Nat:=l.getD 0 1
def Fol (b:Nat) (l:List Nat):Prop:=hd1 l≤b∧(hd1 l<b→∃c r,b=c*hd1 l+r∧r<hd1 l∧1≤c∧(∀t,t<c→l.getD t 1=hd1 l)∧(0<r→l.getD c 1=r))
def GL:List Nat→Prop
 |[]=>True
 |x::l=>1≤x∧Fol x l∧GL l
theorem GL_rep {b:Nat} {l:List Nat} (hb:1≤b) (hf:Fol b l) (hg:GL l):∀q,GL (List.replicate q b++l)∧Fol b (List.replicate q b++l)
 |0=>⟨by simpa using hg,by simpa using hf⟩
 |q+1=>by
  obtain ⟨h1,h2⟩:=GL_rep hb hf hg q
  rw [List.replicate_succ,List.cons_append]
  refine ⟨⟨hb,h2,h1⟩,?_⟩
  have:hd1 (b::(List.replicate q b++l))=b:=rfl
  exact ⟨by rw [this];exact Nat.le_refl _,fun h=>by rw [this] at h;exact absurd h (Nat.lt_irrefl _)⟩
theorem getD_rep (q b:Nat) (l:List Nat) (t d:Nat):(List.replicate q b++l).getD t d=if t<q then b else l.getD (t-q) d:=by
 by_cases h:t<q
 ·rw [if_pos h,List.getD_eq_getElem?_getD,List.getElem?_append_left (by simpa using h)]
  simp [h]
 ·rw [if_neg h,List.getD_eq_getElem?_getD,List.getElem?_append_right (by simpa using h)]
  simp
theorem ex_hd {b r:Nat} (hr:0<r) (h:r≤b) (l:List Nat):(ex b r++l).getD 0 1=r:=by
 rw [ex_pos hr,List.append_assoc,getD_rep,if_pos (Nat.div_pos h hr)]
theorem ex_good:∀(n b r:Nat) (l:List Nat),b≤n→r<b→GL l→Fol (Nat.gcd b r) l→GL (ex b r++l)∧Fol b (ex b r++l)
 |0,b,r,l,hn,hr,_,_=>by omega
 |n+1,b,r,l,hn,hr,hg,hf=>by
  by_cases h0:0<r
  ·have h1:b%r<r:=Nat.mod_lt _ h0
   have h2:Nat.gcd r (b%r)=Nat.gcd b r:=by rw [Nat.gcd_comm b r,Nat.gcd_rec r b,Nat.gcd_comm]
   obtain ⟨i1,i2⟩:=ex_good n r (b%r) l (by omega) h1 hg (by rw [h2];exact hf)
   obtain ⟨j1,_⟩:=GL_rep (by omega) i2 i1 (b/r)
   have hq:0<b/r:=Nat.div_pos (by omega) h0
   rw [ex_pos h0,List.append_assoc]
   have hh:hd1 (List.replicate (b/r) r++(ex r (b%r)++l))=r:=by rw [hd1,getD_rep,if_pos hq]
   refine ⟨j1,by rw [hh];omega,fun _=>⟨b/r,b%r,?_,by rw [hh];exact h1,hq,fun t ht=>by rw [hh,getD_rep,if_pos ht],fun hrr=> ?_⟩⟩
   ·rw [hh,Nat.mul_comm]
    exact (Nat.div_add_mod b r).symm
   ·rw [getD_rep,if_neg (Nat.lt_irrefl _),Nat.sub_self]
    exact ex_hd hrr (by omega) l
  ·obtain rfl:r=0:=by omega
   rw [ex_zero,List.nil_append]
   rw [Nat.gcd_zero_right] at hf
   exact ⟨hg,hf⟩
def blocks:List (Nat×Nat)→List Nat
 |[]=>[]
 |(k,e)::l=>ex k e++blocks l
def Chain:Nat→List (Nat×Nat)→Prop
 |g,[]=>g=1
 |g,(k,e)::l=>e=g∧0<e∧Chain (Nat.gcd e k) l
theorem blocks_good:∀(l:List (Nat×Nat)) (g:Nat),Chain g l→GL (blocks l)∧Fol g (blocks l)
 |[],g,h=>by
  have:g=1:=h
  subst this
  exact ⟨trivial,Nat.le_refl _,fun h=>absurd h (Nat.lt_irrefl _)⟩
 |(k,e)::l,g,h=>by
  obtain ⟨rfl,h1,h2⟩:=h
  obtain ⟨i1,i2⟩:=blocks_good l _ h2
  have h3:Nat.gcd e (k%e)=Nat.gcd e k:=by rw [Nat.gcd_comm e (k%e),←Nat.gcd_rec]
  obtain ⟨j1,j2⟩:=ex_good e e (k%e) (blocks l) (Nat.le_refl _) (Nat.mod_lt _ h1) i1 (by rw [h3];exact i2)
  have:=GL_rep h1 j2 j1 (k/e)
  rw [blocks,ex_pos h1,List.append_assoc]
  exact this
theorem GL_at:∀(l:List Nat),GL l→∀i,1≤l.getD i 1∧l.getD (i+1) 1≤l.getD i 1∧(l.getD (i+1) 1<l.getD i 1→∃c r,l.getD i 1=c*l.getD (i+1) 1+r∧r<l.getD (i+1) 1∧1≤c∧(∀t,t<c→l.getD (i+1+t) 1=l.getD (i+1) 1)∧(0<r→l.getD (i+1+c) 1=r))
 |[],_,i=>⟨by simp,by simp,fun h=>by simp at h⟩
 |x::l,h,0=>by
  obtain ⟨h1,⟨h2,h3⟩,h4⟩:=h
  refine ⟨h1,h2,fun h=> ?_⟩
  obtain ⟨c,r,e1,e2,e3,e4,e5⟩:=h3 h
  refine ⟨c,r,e1,e2,e3,fun t ht=> ?_,fun hr=> ?_⟩
  ·have:=e4 t ht
   rw [show 0+1+t=t+1 by omega,List.getD_cons_succ]
   exact this
  ·rw [show 0+1+c=c+1 by omega,List.getD_cons_succ]
   exact e5 hr
 |x::l,h,i+1=>by
  have:=GL_at l h.2.2 i
  rw [show i+1+1=(i+1)+1 from rfl]
  simp only [List.getD_cons_succ]
  refine ⟨this.1,this.2.1,fun h=> ?_⟩
  obtain ⟨c,r,e1,e2,e3,e4,e5⟩:=this.2.2 h
  refine ⟨c,r,e1,e2,e3,fun t ht=> ?_,fun hr=> ?_⟩
  ·rw [show i+1+1+t=(i+1+t)+1 by omega,List.getD_cons_succ]
   exact e4 t ht
  ·rw [show i+1+1+c=(i+1+c)+1 by omega,List.getD_cons_succ]
   exact e5 hr
def sumM (M:Nat→Nat) (i:Nat):Nat→Nat
 |0=>0
 |k+1=>sumM M i k+M (i+1+k)
structure GoodM (M:Nat→Nat):Prop where
 pos:∀i,1≤M i
 fall:∀i,M (i+1)≤M i
 drop:∀i,M (i+1)<M i→∃c r,M i=c*M (i+1)+r∧r<M (i+1)∧1≤c∧(∀t,t<c→M (i+1+t)=M (i+1))∧(0<r→M (i+1+c)=r)
theorem goodM_of {l:List Nat} (h:GL l):GoodM (fun i=>l.getD i 1):=
 ⟨fun i=>(GL_at l h i).1,fun i=>(GL_at l h i).2.1,fun i=>(GL_at l h i).2.2⟩
theorem sumM_mono {M:Nat→Nat} (h:GoodM M) (i:Nat):∀{k k':Nat},k<k'→sumM M i k<sumM M i k'
 |k,0,hk=>by omega
 |k,k'+1,hk=>by
  have:=h.pos (i+1+k')
  simp only [sumM]
  by_cases hkk:k=k'
  ·subst hkk;omega
  ·have:=sumM_mono h i (k:=k) (k':=k') (by omega)
   omega
theorem sumM_rep {M:Nat→Nat} {i v:Nat}:∀k,(∀t,t<k→M (i+1+t)=v)→sumM M i k=k*v
 |0,_=>by simp [sumM]
 |k+1,h=>by
  simp only [sumM,sumM_rep k (fun t ht=>h t (by omega)),h k (by omega),Nat.add_mul]
  omega
def Prox (M:Nat→Nat) (i j:Nat):Prop:=sumM M i (j-i)≤M i
theorem prox_one {M:Nat→Nat} (h:GoodM M) (i:Nat):Prox M i (i+1):=by
 have:=h.fall i
 rw [Prox,show i+1-i=1 by omega]
 simpa [sumM] using this
theorem prox_uniq {M:Nat→Nat} (h:GoodM M) {i i' j:Nat} (h1:i<i') (h2:i'+1<j) (hp:Prox M i j):¬Prox M i' j:=by
 intro hp'
 unfold Prox at hp hp'
 have two:∀x,sumM M x 2=M (x+1)+M (x+1+1):=fun x=>by simp [sumM]
 have one:∀x,sumM M x 1=M (x+1):=fun x=>by simp [sumM]
 have hlt:M (i+1)<M i:=by
  have a1:=sumM_mono h i (k:=2) (k':=j-i) (by omega)
  have a2:=h.pos (i+1+1)
  rw [two] at a1
  omega
 obtain ⟨c,r,e1,e2,e3,e4,e5⟩:=h.drop i hlt
 have hc:=sumM_rep c e4
 have hc1:sumM M i (c+1)=sumM M i c+M (i+1+c):=rfl
 have hc2:sumM M i (c+2)=sumM M i (c+1)+M (i+1+(c+1)):=rfl
 have hj:j-i≤c+1:=by
  by_cases hh:j-i≤c+1
  ·exact hh
  ·exfalso
   have a3:sumM M i (c+2)≤sumM M i (j-i):=by
    by_cases hx:c+2=j-i
    ·rw [hx];exact Nat.le_refl _
    ·exact Nat.le_of_lt (sumM_mono h i (by omega))
   have a4:=h.pos (i+1+(c+1))
   have a5:=h.pos (i+1+c)
   by_cases hr:0<r
   ·have:=e5 hr;omega
   ·omega
 have b1:M i'=M (i+1):=by
  have:=e4 (i'-i-1) (by omega)
  rwa [show i+1+(i'-i-1)=i' by omega] at this
 have b2:M (i'+1)=M (i+1):=by
  have:=e4 (i'-i) (by omega)
  rwa [show i+1+(i'-i)=i'+1 by omega] at this
 have a1:=sumM_mono h i' (k:=1) (k':=j-i') (by omega)
 rw [one] at a1
 omega
end Go.Ax
