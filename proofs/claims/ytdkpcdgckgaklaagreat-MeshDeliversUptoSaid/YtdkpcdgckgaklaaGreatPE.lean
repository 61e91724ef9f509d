/-
  Lemmas for the last text of this claim (part 5 of 20).
-/
import Derived.ArgAppend
import Derived.BigQuiet
import Derived.BigRegion
import Derived.ChangeOld
import Derived.Deep.RegionWith
import Derived.DeepKeys4
import Derived.JoinedCond
import Derived.LaidMore
import Derived.Laws.CopyOwn
import Derived.Laws.Externs
import Derived.Laws.IdiomStrings
import Derived.Laws.Tables
import Derived.Lib.AppendStr
import Derived.Lib.AppendZerosOnto
import Derived.Lib.Mul64
import Derived.Lib.SlBytesConst
import Derived.LoopN
import Derived.Maps.OwnSet
import Derived.OpenShut
import Derived.OrdersHeld
import Derived.ProofKit
import Derived.Shelf.Spec.BitsCarry
import Derived.ShutString
import Derived.Test.YtdkpcdgckgaklaaGreatProg
import Derived.Test.YtdkpcdgckgaklaaGreatRows
import Derived.WalkKit
import Derived.WalkLawsBesides
import Derived.WalkSpells
open List renaming replicate → QCn, getElem?_cons_succ → QCo, cons_append → QCr, getD_eq_getElem?_getD → QCu, getElem?_eq_getElem → QCv, set_cons_zero → QCy, set_cons_succ → QCz, getElem?_append_right → QCF, append_assoc → QCL, length_take → QCP, mem_cons → QCQ, set_append_right → QCX, take_succ_eq_append_getElem → QCY, length_set → QCZ, drop_of_length_le → QDf, length_cons → QDj, getElem_mem → QDn, drop_eq_getElem_cons → QDp, getElem?_eq_none → QDr, getElem?_drop → QDU, getElem?_replicate → QD4, replicate_succ → QEj
open Nat renaming le_refl → QCx, zero_add → QCI, mod_eq_of_lt → QCO, mod_lt → QCU, div_eq_of_lt → QDd, div_div_eq_div_mul → QDe, div_lt_of_lt_mul → QDm, lt_or_ge → QDq, pow_succ → QDv, div_add_mod → QDx, min_eq_left → QDG, mul_add → QDI, pow_add → QDO, add_zero → QDP, add_mul_div_left → QDQ, mul_assoc → QDV, mod_mod → QDY, mul_le_mul_left → QEa, mul_one → QEi, pow_pos → QEl, pow_succ' → QEn, mul_left_comm → QEw, add_comm → QEz, add_mul → QEA, add_mod → QED
set_option linter.all false
namespace Go.Proofs.YtdkpcdgckgaklaaGreat
def val (B:Nat):List Nat→Nat
 | []=>0
 | x :: l=>x+B*val B l
def dig (B:Nat):Nat→Nat→List Nat
 | 0,_=>[]
 | k+1,n=>n%B :: dig B k (n/B)
theorem QaT (B:Nat):∀k n,(dig B k n).length=k
 | 0,_=>rfl
 | k+1,n=>by rw[dig,QDj,QaT B k]
theorem Qei (B:Nat):∀k n,val B (dig B k n)=n%B^k
 | 0,n=>by simp[dig,val,Nat.mod_one]
 | k+1,n=>by rw[dig,val,Qei B k,QEn,Nat.mod_mul]
theorem Qeh {B:Nat} (hB:0<B):∀k n,∀x∈dig B k n,x<B
 | 0,_,x,h=>by cases h
 | k+1,n,x,h=>by
   rcases QCQ.1 h with rfl|h
   ·exact QCU _ hB
   ·exact Qeh hB k _ x h
theorem Qj8 {B:Nat}:∀l:List Nat,(∀ x∈l,x<B)→dig B l.length (val B l)=l
 | [],_=>rfl
 | x :: l,h=>by
   have hx:x<B:=h x (by simp)
   rw[QDj,val,dig,Nat.add_mul_mod_self_left,QCO hx,QDQ _ _ (by omega),QDd hx,QCI,Qj8 l (fun y hy=>h y (by simp[hy]))]
theorem Qwq {B:Nat}:∀l:List Nat,(∀ x∈l,x<B)→val B l<B^l.length
 | [],_=>by simp[val]
 | x :: l,h=>by
   have hx:x<B:=h x (by simp)
   have:=Qwq l (fun y hy=>h y (by simp[hy]))
   rw[val,QDj,QEn]
   have h2:B*(val B l+1)≤B*B^l.length:=QEa B this
   rw[QDI,QEi]at h2
   omega
theorem Qf1 (B:Nat):∀k n i,i<k→(dig B k n)[i]?=some (n/B^i%B)
 | 0,_,_,h=>by omega
 | k+1,n,0,_=>by simp[dig]
 | k+1,n,i+1,h=>by
   rw[dig,QCo,Qf1 B k _ i (by omega),QDe,←QEn]
theorem QdF (B k n i:Nat) (h:i<k):(dig B k n).getD i 0=n/B^i%B:=by
 rw[QCu,Qf1 B k n i h]
 rfl
theorem QfM (B:Nat):∀k n,dig B (k+1) n=dig B k n++[n/B^k%B]
 | 0,n=>by simp[dig]
 | k+1,n=>by
   rw[dig,QfM B k (n/B),dig,QCr,QDe,←QEn]
theorem Qhc (B:Nat):∀l m:List Nat,val B (l++m)=val B l+B^l.length*val B m
 | [],m=>by simp[val]
 | x :: l,m=>by
   rw[QCr,val,Qhc B l m,val,QDj,QEn,QDI,QDV,Nat.add_assoc]
theorem QmG (B:Nat):∀(l:List Nat) (i v:Nat),i<l.length→val B (l.set i v)+B^i*l.getD i 0=val B l+B^i*v
 | [],_,_,h=>by simp at h
 | x :: l,0,v,_=>by simp[val];omega
 | x :: l,i+1,v,h=>by
   have ih:=QmG B l i v (by simpa using h)
   have e1:B*(val B (l.set i v)+B^i*l.getD i 0)=B*(val B l+B^i*v):=by rw[ih]
   rw[QCz,val,val,List.getD_cons_succ,QEn,QDV,QDV]
   rw[QDI,QDI]at e1
   omega
theorem Qli (B:Nat):∀n,val B (QCn n 0)=0
 | 0=>rfl
 | n+1=>by rw[QEj,val,Qli B n,Nat.mul_zero]
theorem Qf4 {B:Nat}:∀k n,dig B k (n%B^k)=dig B k n
 | 0,_=>rfl
 | k+1,n=>by
   rw[dig,dig,QEn,Nat.mod_mul_right_mod,Nat.mod_mul_right_div_self,Qf4 k]
theorem QsS {B k n m:Nat} (hn:n<B^k) (hm:m<B^k) (h:dig B k n=dig B k m):n=m:=by
 have:=Qei B k n
 rw[h,Qei,QCO hn,QCO hm]at this
 exact this.symm
def carr (B a b c k:Nat):Nat:=(a%B^k+b%B^k+c)/B^k
theorem QlT (B a b c:Nat):carr B a b c 0=c:=by simp[carr,Nat.mod_one]
theorem Qb7 (B a k:Nat):a%B^(k+1)=a%B^k+B^k*(a/B^k%B):=by rw[QDv,Nat.mod_mul]
theorem Qin {B:Nat} (hB:0<B) (a b c k:Nat):(a/B^k%B+b/B^k%B+carr B a b c k)/B=carr B a b c (k+1):=by
 have hp:0<B^k:=QEl hB
 rw[carr,carr,Qb7,Qb7,QDv,←QDe]
 congr 1
 have e:a%B^k+B^k*(a/B^k%B)+(b%B^k+B^k*(b/B^k%B))+c=(a%B^k+b%B^k+c)+B^k*(a/B^k%B+b/B^k%B):=by rw[QDI];omega
 rw[e,QDQ _ _ hp,QEz]
theorem QmO {B:Nat} (hB:0<B) (a b c k:Nat):(a/B^k%B+b/B^k%B+carr B a b c k)%B=(a+b+c)/B^k%B:=by
 have hp:0<B^k:=QEl hB
 have ea:=QDx a (B^k)
 have eb:=QDx b (B^k)
 have e:a+b+c=(a%B^k+b%B^k+c)+B^k*(a/B^k+b/B^k):=by rw[QDI];omega
 rw[e,QDQ _ _ hp,←carr,QED,QED (a/B^k%B),QDY,QDY,←QED (a/B^k),←QED,QEz]
theorem Qnq {B:Nat} (hB:0<B) (a b c k:Nat) (hc:c≤1):carr B a b c k≤1:=by
 have hp:0<B^k:=QEl hB
 rw[carr]
 refine Nat.le_of_lt_succ (QDm ?_)
 have:=QCU a hp
 have:=QCU b hp
 omega
theorem QuG {B:Nat} (a b c k:Nat) (ha:a<B^k) (hb:b<B^k):carr B a b c k=(a+b+c)/B^k:=by rw[carr,QCO ha,QCO hb]
def owed (B a b k:Nat):Nat:=if a%B^k<b%B^k then 1 else 0
theorem Qmp (B a b:Nat):owed B a b 0=0:=by simp[owed,Nat.mod_one]
theorem Qkv (B a b k:Nat):owed B a b k≤1:=by
 unfold owed
 split<;>omega
theorem Ql6 {B:Nat} (hB:0<B) (a b k:Nat):owed B a b (k+1)=if a/B^k%B<b/B^k%B+owed B a b k then 1 else 0:=by
 have hp:0<B^k:=QEl hB
 rw[owed,owed,Qb7,Qb7]
 have ha:=QCU a hp
 have hb:=QCU b hp
 generalize a%B^k=x at *
 generalize b%B^k=y at *
 generalize a/B^k%B=p at *
 generalize b/B^k%B=q at *
 generalize B^k=M at *
 have e:∀p q:Nat,p+1≤q→M*p+M≤M*q:=fun p q h=>by
  have:=QEa M h
  rwa [QDI,QEi]at this
 rcases Nat.lt_trichotomy p q with h|h|h
 ·have:=e p q h
  rw[if_pos (by omega),if_pos (by split<;>omega)]
 ·subst h
  by_cases hxy:x<y
  ·rw[if_pos (by omega),if_pos (by rw[if_pos hxy];omega)]
  ·rw[if_neg (by omega),if_neg (by rw[if_neg hxy];omega)]
 ·have:=e q p h
  rw[if_neg (by omega),if_neg (by split<;>omega)]
theorem QuB (a b M N qa ra qb rb w:Nat) (ea:M*qa+ra=a) (eb:M*qb+rb=b) (hb:rb<M) (ha:ra<M) (hq:qb+1≤N) (hw:w=if ra<rb then 1 else 0):
 a+M*N-b=(ra+w*M-rb)+M*(qa+N-qb-w)∧ra+w*M-rb<M:=by
 obtain⟨t,rfl⟩:∃t,N=qb+1+t:=⟨N-qb-1,by omega⟩
 subst ea
 subst eb
 subst hw
 by_cases h:ra<rb
 ·rw[if_pos h,show qa+(qb+1+t)-qb-1=qa+t by omega]
  simp only[QDI,QEi,Nat.one_mul]
  omega
 ·rw[if_neg h,show qa+(qb+1+t)-qb-0=qa+1+t by omega]
  simp only[QDI,QEi,Nat.zero_mul]
  omega
theorem QoO {B:Nat} (hB:0<B) (a b k n:Nat) (hk:k<n) (hb:b<B^n):(a/B^k%B+B-b/B^k%B-owed B a b k)%B=(a+B^n-b)/B^k%B:=by
 have hp:0<B^k:=QEl hB
 obtain⟨m,rfl⟩:∃m,n=k+(m+1):=⟨n-k-1,by omega⟩
 have hbk:b/B^k<B^(m+1):=by
  rw[QDO]at hb
  exact QDm hb
 obtain⟨key,hr⟩:=QuB a b (B^k) (B^(m+1)) (a/B^k) (a%B^k) (b/B^k) (b%B^k) (owed B a b k) (QDx a _) (QDx b _) (QCU b hp) (QCU a hp) hbk rfl
 rw[←QDO]at key
 rw[key,QDQ _ _ hp,QDd hr,QCI]
 have hq:b/B^k%B<B:=QCU _ hB
 have e3:=QDx (a/B^k) B
 have e4:=QDx (b/B^k) B
 have hle:b/B^k/B<B^m:=QDm (by rw[QEn]at hbk;exact hbk)
 have hol:=Qkv B a b k
 have key2:a/B^k+B^(m+1)-b/B^k-owed B a b k=(a/B^k%B+B-b/B^k%B-owed B a b k)+B*(a/B^k/B+B^m-b/B^k/B-1):=by
  rw[QEn,Nat.mul_sub,Nat.mul_sub,QDI,QEi]
  have e1:B*(b/B^k/B)+B≤B*B^m:=by
   have:=QEa B hle
   rwa [Nat.succ_eq_add_one,QDI,QEi]at this
  omega
 rw[key2,Nat.add_mul_mod_self_left]
theorem Qon {B:Nat} (a b k:Nat) (ha:a<B^k) (hb:b<B^k):owed B a b k=if a<b then 1 else 0:=by rw[owed,QCO ha,QCO hb]
def QbI {α:Type} (S A:List α) (k:Nat):List α:=S.take k++A.drop k
theorem QaA {α:Type} (S A:List α) (k:Nat) (h:S.length=A.length):(QbI S A k).length=A.length:=by
 simp[QbI,h]
 omega
theorem Qbo {α:Type} (S A:List α):QbI S A 0=A:=by simp[QbI]
theorem Qb5 {α:Type} (S A:List α) (k:Nat) (h:S.length=k) (h2:A.length=k):QbI S A k=S:=by simp[QbI,←h,QDf,h2]
theorem Qes {α:Type} (S A:List α) (k j:Nat) (h:S.length=A.length) (hk:k≤j) (hj:j<A.length):(QbI S A k)[j]?=A[j]?:=by
 rw[QbI,QCF (by simp;omega),QDU]
 congr 1
 simp
 omega
theorem QaX {α:Type} (S A:List α) (k:Nat) (v:α) (h:S.length=A.length) (hk:k<A.length) (hv:S[k]?=some v):(QbI S A k).set k v=QbI S A (k+1):=by
 rw[QbI,QbI,QCX _ _ (by simp;omega),List.take_add_one,hv,QCL]
 congr 1
 rw[QDp hk]
 have:k-(S.take k).length=0:=by simp;omega
 rw[this,QCy]
 rfl
def Qbw (B x:Nat) (ys ws:List Nat) (i:Nat):Nat→List Nat×Nat
 | 0=>(ws,0)
 | j+1=>((Qbw B x ys ws i j).1.set (i+j) ((x*ys.getD j 0+(Qbw B x ys ws i j).1.getD (i+j) 0+(Qbw B x ys ws i j).2)%B),
    (x*ys.getD j 0+(Qbw B x ys ws i j).1.getD (i+j) 0+(Qbw B x ys ws i j).2)/B)
theorem QcM (B x:Nat) (ys ws:List Nat) (i:Nat):∀j,(Qbw B x ys ws i j).1.length=ws.length
 | 0=>rfl
 | j+1=>by rw[Qbw,QCZ,QcM]
theorem Qv2 {B:Nat} {l:List Nat} (h:∀x∈l,x<B) (i v:Nat) (hv:v<B):∀x∈l.set i v,x<B:=by
 intro x hx
 rcases List.mem_or_eq_of_mem_set hx with hx|rfl
 ·exact h x hx
 ·exact hv
theorem Qid {B:Nat} (hB:0<B) {l:List Nat} (h:∀x∈l,x<B) (i:Nat):l.getD i 0<B:=by
 rw[QCu]
 rcases QDq i l.length with hi|hi
 ·rw[QCv hi]
  exact h _ (QDn hi)
 ·rw[QDr hi]
  exact hB
theorem QzZ {B x y w c:Nat} (hx:x<B) (hy:y<B) (hw:w<B) (hc:c<B):(x*y+w+c)/B<B:=by
 refine QDm ?_
 have h1:x*y≤(B-1)*(B-1):=Nat.mul_le_mul (by omega) (by omega)
 have h2:(B-1)*(B-1)+(B-1)+(B-1)<B*B:=by
  obtain⟨k,rfl⟩:∃k,B=k+1:=⟨B-1,by omega⟩
  rw[Nat.add_sub_cancel,QEA,QDI]
  omega
 omega
theorem QhS {B:Nat} (x:Nat) (ys ws:List Nat) (i:Nat) (hx:x<B) (hy:∀y∈ys,y<B) (hw:∀y∈ws,y<B):∀j,(∀ y∈(Qbw B x ys ws i j).1,y<B)∧(Qbw B x ys ws i j).2<B
 | 0=>⟨hw,by rw[Qbw];omega⟩
 | j+1=>by
   have hB:0<B:=by omega
   obtain⟨h1,h2⟩:=QhS x ys ws i hx hy hw j
   exact⟨Qv2 h1 _ _ (QCU _ hB),QzZ hx (Qid hB hy j) (Qid hB h1 _) h2⟩
theorem QiE (B x:Nat) (ys ws:List Nat) (i k:Nat):∀j,i+j≤k→(Qbw B x ys ws i j).1[k]?=ws[k]?
 | 0,_=>rfl
 | j+1,h=>by rw[Qbw,List.getElem?_set_ne (by omega),QiE B x ys ws i k j (by omega)]
theorem QeG (B:Nat) (l:List Nat) (k:Nat) (h:k<l.length):val B (l.take (k+1))=val B (l.take k)+B^k*l.getD k 0:=by
 rw[QCY h,Qhc,QCP,QDG (by omega),QCu,QCv h]
 simp[val]
theorem Ql0 {B:Nat} (x:Nat) (ys ws:List Nat) (i:Nat):∀j,j≤ys.length→i+j≤ws.length→
 val B (Qbw B x ys ws i j).1+B^(i+j)*(Qbw B x ys ws i j).2=val B ws+B^i*(x*val B (ys.take j))
 | 0,_,_=>by simp[Qbw,val]
 | j+1,h1,h2=>by
   have ih:=Ql0 (B:=B) x ys ws i j (by omega) (by omega)
   have hs:=QmG B (Qbw B x ys ws i j).1 (i+j) ((x*ys.getD j 0+(Qbw B x ys ws i j).1.getD (i+j) 0+(Qbw B x ys ws i j).2)%B) (by rw[QcM];omega)
   have hd:=QDx (x*ys.getD j 0+(Qbw B x ys ws i j).1.getD (i+j) 0+(Qbw B x ys ws i j).2) B
   rw[Qbw,QeG B ys j (by omega)]
   simp only
   generalize (Qbw B x ys ws i j).1.getD (i+j) 0=w at *
   generalize (Qbw B x ys ws i j).2=c at *
   generalize ys.getD j 0=y at *
   generalize (x*y+w+c)/B=q at *
   generalize (x*y+w+c)%B=r at *
   generalize val B ((Qbw B x ys ws i j).1.set (i+j) r)=V at *
   generalize val B (Qbw B x ys ws i j).1=U at *
   generalize val B (ys.take j)=Y at *
   generalize val B ws=W at *
   have e1:B^(i+(j+1))=B^(i+j)*B:=by rw[←Nat.add_assoc,QDv]
   have e2:B^i*(x*(Y+B^j*y))=B^i*(x*Y)+B^(i+j)*(x*y):=by
    rw[QDO,QDI,QDI]
    congr 1
    rw[QDV,QEw x]
   have e3:B^(i+j)*(B*q+r)=B^(i+j)*(x*y+w+c):=by rw[hd]
   rw[e1,e2,QDV]
   rw[QDI,QDI,QDI]at e3
   generalize B^(i+j)*(B*q)=A1 at *
   generalize B^(i+j)*r=A2 at *
   generalize B^(i+j)*(x*y)=A3 at *
   generalize B^(i+j)*w=A4 at *
   generalize B^(i+j)*c=A5 at *
   generalize B^i*(x*Y)=A6 at *
   omega
def Qb2 (B:Nat) (xs ys:List Nat) (n:Nat):Nat→List Nat
 | 0=>QCn n 0
 | i+1=>(Qbw B (xs.getD i 0) ys (Qb2 B xs ys n i) i ys.length).1.set (i+ys.length) (Qbw B (xs.getD i 0) ys (Qb2 B xs ys n i) i ys.length).2
theorem Qce (B:Nat) (xs ys:List Nat) (n:Nat):∀i,(Qb2 B xs ys n i).length=n
 | 0=>by simp[Qb2]
 | i+1=>by rw[Qb2,QCZ,QcM,Qce]
theorem Qe7 {B:Nat} (hB:0<B) (xs ys:List Nat) (n:Nat) (hx:∀x∈xs,x<B) (hy:∀y∈ys,y<B):∀i,∀w∈Qb2 B xs ys n i,w<B
 | 0,w,h=>by
   have:=List.eq_of_mem_replicate h
   omega
 | i+1,w,h=>by
   have:=QhS (xs.getD i 0) ys (Qb2 B xs ys n i) i (Qid hB hx i) hy (Qe7 hB xs ys n hx hy i) ys.length
   exact Qv2 this.1 _ _ this.2 w h
theorem QjJ (B:Nat) (xs ys:List Nat) (n k:Nat):∀i,i+ys.length≤k→k<n→(Qb2 B xs ys n i)[k]?=some 0
 | 0,_,hk=>by rw[Qb2,QD4,if_pos hk]
 | i+1,h,hk=>by rw[Qb2,List.getElem?_set_ne (by omega),QiE _ _ _ _ _ _ _ (by omega),QjJ B xs ys n k i (by omega) hk]
theorem QgU {B:Nat} (xs ys:List Nat) (n:Nat):∀i,i≤xs.length→i+ys.length≤n→val B (Qb2 B xs ys n i)=val B (xs.take i)*val B ys
 | 0,_,_=>by simp[Qb2,Qli,val]
 | i+1,h1,h2=>by
   have ih:=QgU (B:=B) xs ys n i (by omega) (by omega)
   have hr:=Ql0 (B:=B) (xs.getD i 0) ys (Qb2 B xs ys n i) i ys.length (QCx _) (by rw[Qce];omega)
   have hf:=QiE B (xs.getD i 0) ys (Qb2 B xs ys n i) i (i+ys.length) ys.length (QCx _)
   rw[QjJ B xs ys n _ i (QCx _) (by omega)]at hf
   have hs:=QmG B (Qbw B (xs.getD i 0) ys (Qb2 B xs ys n i) i ys.length).1 (i+ys.length) (Qbw B (xs.getD i 0) ys (Qb2 B xs ys n i) i ys.length).2 (by rw[QcM,Qce];omega)
   have hf':(Qbw B (xs.getD i 0) ys (Qb2 B xs ys n i) i ys.length).1.getD (i+ys.length) 0=0:=by rw[QCu,hf];rfl
   rw[hf',Nat.mul_zero,QDP,hr,ih,List.take_length]at hs
   rw[Qb2,hs,QeG B xs i (by omega),QEA,QDV]
end Go.Proofs.YtdkpcdgckgaklaaGreat
