/-
  Lemmas for the last text of this claim (part 6 of 20).
-/
import Derived.ArgAppend
import Derived.BigQuiet
import Derived.BigRegion
import Derived.ChangeOld
import Derived.Deep.RegionWith
import Derived.DeepKeys4
import Derived.JoinedCond
import Derived.LaidMore
import Derived.Laws.Append
import Derived.Laws.BytesArg
import Derived.Laws.CopyOwn
import Derived.Laws.Externs
import Derived.Laws.IdiomStrings
import Derived.Laws.Tables
import Derived.Lib.AppendStr
import Derived.Lib.AppendZerosOnto
import Derived.Lib.Mul64
import Derived.Lib.SlBytesConst
import Derived.LoopN
import Derived.Maps.OwnSet
import Derived.OpenShut
import Derived.OrdersHeld
import Derived.ProofKit
import Derived.Shelf.Spec.BitsCarry
import Derived.ShutString
import Derived.Test.YticcbmhcgmhohaaGreatProg
import Derived.Test.YticcbmhcgmhohaaGreatRows
import Derived.WalkKit
import Derived.WalkLawsBesides
import Derived.WalkSpells
open List renaming replicate → QCC, getElem?_cons_succ → QCD, cons_append → QCI, getElem?_eq_getElem → QCJ, getD_eq_getElem?_getD → QCK, set_cons_zero → QCN, set_cons_succ → QCO, getElem?_append_right → QCR, append_assoc → QCU, mem_cons → QCZ, length_take → QC5, set_append_right → QDc, take_succ_eq_append_getElem → QDd, length_set → QDl, length_cons → QDp, getElem?_drop → QDE, drop_of_length_le → QDM, drop_eq_getElem_cons → QDP, getElem?_set_ne → QDS, getElem?_eq_none → QDV, replicate_succ → QDW, getElem_mem → QD0, getElem?_replicate → QEj
open Nat renaming le_refl → QCP, mod_eq_of_lt → QC1, zero_add → QC4, mod_lt → QC8, div_div_eq_div_mul → QDt, div_eq_of_lt → QDy, div_add_mod → QDA, pow_succ → QDF, div_lt_of_lt_mul → QDI, lt_or_ge → QDJ, min_eq_left → QDK, mul_assoc → QDR, mul_add → QDT, pow_add → QD2, mod_mod → QD4, add_zero → QD8, add_mul_div_left → QEa, mul_le_mul_left → QEg, mul_one → QEq, pow_succ' → QEx, zero_mul → QEA, add_comm → QEB, pow_pos → QEF, mul_left_comm → QEP, add_mul → QEX, add_mod → QEY
set_option linter.all false
namespace Go.Proofs.YticcbmhcgmhohaaGreat
def val (B:Nat):List Nat→Nat
 | []=>0
 | x :: l=>x+B*val B l
def dig (B:Nat):Nat→Nat→List Nat
 | 0,_=>[]
 | k+1,n=>n%B :: dig B k (n/B)
theorem QaI (B:Nat):∀k n,(dig B k n).length=k
 | 0,_=>rfl
 | k+1,n=>by rw[dig,QDp,QaI B k]
theorem Qd2 (B:Nat):∀k n,val B (dig B k n)=n%B^k
 | 0,n=>by simp[dig,val,Nat.mod_one]
 | k+1,n=>by rw[dig,val,Qd2 B k,QEx,Nat.mod_mul]
theorem QdY {B:Nat} (hB:0<B):∀k n,∀x∈dig B k n,x<B
 | 0,_,x,h=>by cases h
 | k+1,n,x,h=>by
   rcases QCZ.1 h with rfl|h
   ·exact QC8 _ hB
   ·exact QdY hB k _ x h
theorem QkI {B:Nat}:∀l:List Nat,(∀ x∈l,x<B)→dig B l.length (val B l)=l
 | [],_=>rfl
 | x :: l,h=>by
   have hx:x<B:=h x (by simp)
   rw[QDp,val,dig,Nat.add_mul_mod_self_left,QC1 hx,QEa _ _ (by omega),QDy hx,QC4,QkI l (fun y hy=>h y (by simp[hy]))]
theorem Qwp {B:Nat}:∀l:List Nat,(∀ x∈l,x<B)→val B l<B^l.length
 | [],_=>by simp[val]
 | x :: l,h=>by
   have hx:x<B:=h x (by simp)
   have:=Qwp l (fun y hy=>h y (by simp[hy]))
   rw[val,QDp,QEx]
   have h2:B*(val B l+1)≤B*B^l.length:=QEg B this
   rw[QDT,QEq]at h2
   omega
theorem QfS (B:Nat):∀k n i,i<k→(dig B k n)[i]?=some (n/B^i%B)
 | 0,_,_,h=>by omega
 | k+1,n,0,_=>by simp[dig]
 | k+1,n,i+1,h=>by
   rw[dig,QCD,QfS B k _ i (by omega),QDt,←QEx]
theorem Qdm (B k n i:Nat) (h:i<k):(dig B k n).getD i 0=n/B^i%B:=by
 rw[QCK,QfS B k n i h]
 rfl
theorem Qfs (B:Nat):∀k n,dig B (k+1) n=dig B k n++[n/B^k%B]
 | 0,n=>by simp[dig]
 | k+1,n=>by
   rw[dig,Qfs B k (n/B),dig,QCI,QDt,←QEx]
theorem QgE (B:Nat):∀l m:List Nat,val B (l++m)=val B l+B^l.length*val B m
 | [],m=>by simp[val]
 | x :: l,m=>by
   rw[QCI,val,QgE B l m,val,QDp,QEx,QDT,QDR,Nat.add_assoc]
theorem QnX (B:Nat):∀(l:List Nat) (i v:Nat),i<l.length→val B (l.set i v)+B^i*l.getD i 0=val B l+B^i*v
 | [],_,_,h=>by simp at h
 | x :: l,0,v,_=>by simp[val];omega
 | x :: l,i+1,v,h=>by
   have ih:=QnX B l i v (by simpa using h)
   have e1:B*(val B (l.set i v)+B^i*l.getD i 0)=B*(val B l+B^i*v):=by rw[ih]
   rw[QCO,val,val,List.getD_cons_succ,QEx,QDR,QDR]
   rw[QDT,QDT]at e1
   omega
theorem Qmi (B:Nat):∀n,val B (QCC n 0)=0
 | 0=>rfl
 | n+1=>by rw[QDW,val,Qmi B n,Nat.mul_zero]
theorem QfR {B:Nat}:∀k n,dig B k (n%B^k)=dig B k n
 | 0,_=>rfl
 | k+1,n=>by
   rw[dig,dig,QEx,Nat.mod_mul_right_mod,Nat.mod_mul_right_div_self,QfR k]
theorem Qsd {B k n m:Nat} (hn:n<B^k) (hm:m<B^k) (h:dig B k n=dig B k m):n=m:=by
 have:=Qd2 B k n
 rw[h,Qd2,QC1 hn,QC1 hm]at this
 exact this.symm
def carr (B a b c k:Nat):Nat:=(a%B^k+b%B^k+c)/B^k
theorem Qlw (B a b c:Nat):carr B a b c 0=c:=by simp[carr,Nat.mod_one]
theorem QbZ (B a k:Nat):a%B^(k+1)=a%B^k+B^k*(a/B^k%B):=by rw[QDF,Nat.mod_mul]
theorem QiF {B:Nat} (hB:0<B) (a b c k:Nat):(a/B^k%B+b/B^k%B+carr B a b c k)/B=carr B a b c (k+1):=by
 have hp:0<B^k:=QEF hB
 rw[carr,carr,QbZ,QbZ,QDF,←QDt]
 congr 1
 have e:a%B^k+B^k*(a/B^k%B)+(b%B^k+B^k*(b/B^k%B))+c=(a%B^k+b%B^k+c)+B^k*(a/B^k%B+b/B^k%B):=by rw[QDT];omega
 rw[e,QEa _ _ hp,QEB]
theorem Qnt {B:Nat} (hB:0<B) (a b c k:Nat):(a/B^k%B+b/B^k%B+carr B a b c k)%B=(a+b+c)/B^k%B:=by
 have hp:0<B^k:=QEF hB
 have ea:=QDA a (B^k)
 have eb:=QDA b (B^k)
 have e:a+b+c=(a%B^k+b%B^k+c)+B^k*(a/B^k+b/B^k):=by rw[QDT];omega
 rw[e,QEa _ _ hp,←carr,QEY,QEY (a/B^k%B),QD4,QD4,←QEY (a/B^k),←QEY,QEB]
theorem QnO {B:Nat} (hB:0<B) (a b c k:Nat) (hc:c≤1):carr B a b c k≤1:=by
 have hp:0<B^k:=QEF hB
 rw[carr]
 refine Nat.le_of_lt_succ (QDI ?_)
 have:=QC8 a hp
 have:=QC8 b hp
 omega
theorem QuV {B:Nat} (a b c k:Nat) (ha:a<B^k) (hb:b<B^k):carr B a b c k=(a+b+c)/B^k:=by rw[carr,QC1 ha,QC1 hb]
def owed (B a b k:Nat):Nat:=if a%B^k<b%B^k then 1 else 0
theorem Ql5 (B a b:Nat):owed B a b 0=0:=by simp[owed,Nat.mod_one]
theorem QjZ (B a b k:Nat):owed B a b k≤1:=by
 unfold owed
 split<;>omega
theorem QkY {B:Nat} (hB:0<B) (a b k:Nat):owed B a b (k+1)=if a/B^k%B<b/B^k%B+owed B a b k then 1 else 0:=by
 have hp:0<B^k:=QEF hB
 rw[owed,owed,QbZ,QbZ]
 have ha:=QC8 a hp
 have hb:=QC8 b hp
 generalize a%B^k=x at *
 generalize b%B^k=y at *
 generalize a/B^k%B=p at *
 generalize b/B^k%B=q at *
 generalize B^k=M at *
 have e:∀p q:Nat,p+1≤q→M*p+M≤M*q:=fun p q h=>by
  have:=QEg M h
  rwa [QDT,QEq]at this
 rcases Nat.lt_trichotomy p q with h|h|h
 ·have:=e p q h
  rw[if_pos (by omega),if_pos (by split<;>omega)]
 ·subst h
  by_cases hxy:x<y
  ·rw[if_pos (by omega),if_pos (by rw[if_pos hxy];omega)]
  ·rw[if_neg (by omega),if_neg (by rw[if_neg hxy];omega)]
 ·have:=e q p h
  rw[if_neg (by omega),if_neg (by split<;>omega)]
theorem Qu2 (a b M N qa ra qb rb w:Nat) (ea:M*qa+ra=a) (eb:M*qb+rb=b) (hb:rb<M) (ha:ra<M) (hq:qb+1≤N) (hw:w=if ra<rb then 1 else 0):
 a+M*N-b=(ra+w*M-rb)+M*(qa+N-qb-w)∧ra+w*M-rb<M:=by
 obtain⟨t,rfl⟩:∃t,N=qb+1+t:=⟨N-qb-1,by omega⟩
 subst ea
 subst eb
 subst hw
 by_cases h:ra<rb
 ·rw[if_pos h,show qa+(qb+1+t)-qb-1=qa+t by omega]
  simp only[QDT,QEq,Nat.one_mul]
  omega
 ·rw[if_neg h,show qa+(qb+1+t)-qb-0=qa+1+t by omega]
  simp only[QDT,QEq,QEA]
  omega
theorem Qn0 {B:Nat} (hB:0<B) (a b k n:Nat) (hk:k<n) (hb:b<B^n):(a/B^k%B+B-b/B^k%B-owed B a b k)%B=(a+B^n-b)/B^k%B:=by
 have hp:0<B^k:=QEF hB
 obtain⟨m,rfl⟩:∃m,n=k+(m+1):=⟨n-k-1,by omega⟩
 have hbk:b/B^k<B^(m+1):=by
  rw[QD2]at hb
  exact QDI hb
 obtain⟨key,hr⟩:=Qu2 a b (B^k) (B^(m+1)) (a/B^k) (a%B^k) (b/B^k) (b%B^k) (owed B a b k) (QDA a _) (QDA b _) (QC8 b hp) (QC8 a hp) hbk rfl
 rw[←QD2]at key
 rw[key,QEa _ _ hp,QDy hr,QC4]
 have hq:b/B^k%B<B:=QC8 _ hB
 have e3:=QDA (a/B^k) B
 have e4:=QDA (b/B^k) B
 have hle:b/B^k/B<B^m:=QDI (by rw[QEx]at hbk;exact hbk)
 have hol:=QjZ B a b k
 have key2:a/B^k+B^(m+1)-b/B^k-owed B a b k=(a/B^k%B+B-b/B^k%B-owed B a b k)+B*(a/B^k/B+B^m-b/B^k/B-1):=by
  rw[QEx,Nat.mul_sub,Nat.mul_sub,QDT,QEq]
  have e1:B*(b/B^k/B)+B≤B*B^m:=by
   have:=QEg B hle
   rwa [Nat.succ_eq_add_one,QDT,QEq]at this
  omega
 rw[key2,Nat.add_mul_mod_self_left]
theorem QoJ {B:Nat} (a b k:Nat) (ha:a<B^k) (hb:b<B^k):owed B a b k=if a<b then 1 else 0:=by rw[owed,QC1 ha,QC1 hb]
def Qbu {α:Type} (S A:List α) (k:Nat):List α:=S.take k++A.drop k
theorem Qaw {α:Type} (S A:List α) (k:Nat) (h:S.length=A.length):(Qbu S A k).length=A.length:=by
 simp[Qbu,h]
 omega
theorem Qbh {α:Type} (S A:List α):Qbu S A 0=A:=by simp[Qbu]
theorem QbP {α:Type} (S A:List α) (k:Nat) (h:S.length=k) (h2:A.length=k):Qbu S A k=S:=by simp[Qbu,←h,QDM,h2]
theorem Qec {α:Type} (S A:List α) (k j:Nat) (h:S.length=A.length) (hk:k≤j) (hj:j<A.length):(Qbu S A k)[j]?=A[j]?:=by
 rw[Qbu,QCR (by simp;omega),QDE]
 congr 1
 simp
 omega
theorem QaN {α:Type} (S A:List α) (k:Nat) (v:α) (h:S.length=A.length) (hk:k<A.length) (hv:S[k]?=some v):(Qbu S A k).set k v=Qbu S A (k+1):=by
 rw[Qbu,Qbu,QDc _ _ (by simp;omega),List.take_add_one,hv,QCU]
 congr 1
 rw[QDP hk]
 have:k-(S.take k).length=0:=by simp;omega
 rw[this,QCN]
 rfl
def Qbo (B x:Nat) (ys ws:List Nat) (i:Nat):Nat→List Nat×Nat
 | 0=>(ws,0)
 | j+1=>((Qbo B x ys ws i j).1.set (i+j) ((x*ys.getD j 0+(Qbo B x ys ws i j).1.getD (i+j) 0+(Qbo B x ys ws i j).2)%B),
    (x*ys.getD j 0+(Qbo B x ys ws i j).1.getD (i+j) 0+(Qbo B x ys ws i j).2)/B)
theorem QcF (B x:Nat) (ys ws:List Nat) (i:Nat):∀j,(Qbo B x ys ws i j).1.length=ws.length
 | 0=>rfl
 | j+1=>by rw[Qbo,QDl,QcF]
theorem Qv6 {B:Nat} {l:List Nat} (h:∀x∈l,x<B) (i v:Nat) (hv:v<B):∀x∈l.set i v,x<B:=by
 intro x hx
 rcases List.mem_or_eq_of_mem_set hx with hx|rfl
 ·exact h x hx
 ·exact hv
theorem QiI {B:Nat} (hB:0<B) {l:List Nat} (h:∀x∈l,x<B) (i:Nat):l.getD i 0<B:=by
 rw[QCK]
 rcases QDJ i l.length with hi|hi
 ·rw[QCJ hi]
  exact h _ (QD0 hi)
 ·rw[QDV hi]
  exact hB
theorem QzR {B x y w c:Nat} (hx:x<B) (hy:y<B) (hw:w<B) (hc:c<B):(x*y+w+c)/B<B:=by
 refine QDI ?_
 have h1:x*y≤(B-1)*(B-1):=Nat.mul_le_mul (by omega) (by omega)
 have h2:(B-1)*(B-1)+(B-1)+(B-1)<B*B:=by
  obtain⟨k,rfl⟩:∃k,B=k+1:=⟨B-1,by omega⟩
  rw[Nat.add_sub_cancel,QEX,QDT]
  omega
 omega
theorem Qhx {B:Nat} (x:Nat) (ys ws:List Nat) (i:Nat) (hx:x<B) (hy:∀y∈ys,y<B) (hw:∀y∈ws,y<B):∀j,(∀ y∈(Qbo B x ys ws i j).1,y<B)∧(Qbo B x ys ws i j).2<B
 | 0=>⟨hw,by rw[Qbo];omega⟩
 | j+1=>by
   have hB:0<B:=by omega
   obtain⟨h1,h2⟩:=Qhx x ys ws i hx hy hw j
   exact⟨Qv6 h1 _ _ (QC8 _ hB),QzR hx (QiI hB hy j) (QiI hB h1 _) h2⟩
theorem Qii (B x:Nat) (ys ws:List Nat) (i k:Nat):∀j,i+j≤k→(Qbo B x ys ws i j).1[k]?=ws[k]?
 | 0,_=>rfl
 | j+1,h=>by rw[Qbo,QDS (by omega),Qii B x ys ws i k j (by omega)]
theorem Qew (B:Nat) (l:List Nat) (k:Nat) (h:k<l.length):val B (l.take (k+1))=val B (l.take k)+B^k*l.getD k 0:=by
 rw[QDd h,QgE,QC5,QDK (by omega),QCK,QCJ h]
 simp[val]
theorem Qk5 {B:Nat} (x:Nat) (ys ws:List Nat) (i:Nat):∀j,j≤ys.length→i+j≤ws.length→
 val B (Qbo B x ys ws i j).1+B^(i+j)*(Qbo B x ys ws i j).2=val B ws+B^i*(x*val B (ys.take j))
 | 0,_,_=>by simp[Qbo,val]
 | j+1,h1,h2=>by
   have ih:=Qk5 (B:=B) x ys ws i j (by omega) (by omega)
   have hs:=QnX B (Qbo B x ys ws i j).1 (i+j) ((x*ys.getD j 0+(Qbo B x ys ws i j).1.getD (i+j) 0+(Qbo B x ys ws i j).2)%B) (by rw[QcF];omega)
   have hd:=QDA (x*ys.getD j 0+(Qbo B x ys ws i j).1.getD (i+j) 0+(Qbo B x ys ws i j).2) B
   rw[Qbo,Qew B ys j (by omega)]
   simp only
   generalize (Qbo B x ys ws i j).1.getD (i+j) 0=w at *
   generalize (Qbo B x ys ws i j).2=c at *
   generalize ys.getD j 0=y at *
   generalize (x*y+w+c)/B=q at *
   generalize (x*y+w+c)%B=r at *
   generalize val B ((Qbo B x ys ws i j).1.set (i+j) r)=V at *
   generalize val B (Qbo B x ys ws i j).1=U at *
   generalize val B (ys.take j)=Y at *
   generalize val B ws=W at *
   have e1:B^(i+(j+1))=B^(i+j)*B:=by rw[←Nat.add_assoc,QDF]
   have e2:B^i*(x*(Y+B^j*y))=B^i*(x*Y)+B^(i+j)*(x*y):=by
    rw[QD2,QDT,QDT]
    congr 1
    rw[QDR,QEP x]
   have e3:B^(i+j)*(B*q+r)=B^(i+j)*(x*y+w+c):=by rw[hd]
   rw[e1,e2,QDR]
   rw[QDT,QDT,QDT]at e3
   generalize B^(i+j)*(B*q)=A1 at *
   generalize B^(i+j)*r=A2 at *
   generalize B^(i+j)*(x*y)=A3 at *
   generalize B^(i+j)*w=A4 at *
   generalize B^(i+j)*c=A5 at *
   generalize B^i*(x*Y)=A6 at *
   omega
def QbM (B:Nat) (xs ys:List Nat) (n:Nat):Nat→List Nat
 | 0=>QCC n 0
 | i+1=>(Qbo B (xs.getD i 0) ys (QbM B xs ys n i) i ys.length).1.set (i+ys.length) (Qbo B (xs.getD i 0) ys (QbM B xs ys n i) i ys.length).2
theorem Qb0 (B:Nat) (xs ys:List Nat) (n:Nat):∀i,(QbM B xs ys n i).length=n
 | 0=>by simp[QbM]
 | i+1=>by rw[QbM,QDl,QcF,Qb0]
theorem Qe7 {B:Nat} (hB:0<B) (xs ys:List Nat) (n:Nat) (hx:∀x∈xs,x<B) (hy:∀y∈ys,y<B):∀i,∀w∈QbM B xs ys n i,w<B
 | 0,w,h=>by
   have:=List.eq_of_mem_replicate h
   omega
 | i+1,w,h=>by
   have:=Qhx (xs.getD i 0) ys (QbM B xs ys n i) i (QiI hB hx i) hy (Qe7 hB xs ys n hx hy i) ys.length
   exact Qv6 this.1 _ _ this.2 w h
theorem Qjc (B:Nat) (xs ys:List Nat) (n k:Nat):∀i,i+ys.length≤k→k<n→(QbM B xs ys n i)[k]?=some 0
 | 0,_,hk=>by rw[QbM,QEj,if_pos hk]
 | i+1,h,hk=>by rw[QbM,QDS (by omega),Qii _ _ _ _ _ _ _ (by omega),Qjc B xs ys n k i (by omega) hk]
theorem QgY {B:Nat} (xs ys:List Nat) (n:Nat):∀i,i≤xs.length→i+ys.length≤n→val B (QbM B xs ys n i)=val B (xs.take i)*val B ys
 | 0,_,_=>by simp[QbM,Qmi,val]
 | i+1,h1,h2=>by
   have ih:=QgY (B:=B) xs ys n i (by omega) (by omega)
   have hr:=Qk5 (B:=B) (xs.getD i 0) ys (QbM B xs ys n i) i ys.length (QCP _) (by rw[Qb0];omega)
   have hf:=Qii B (xs.getD i 0) ys (QbM B xs ys n i) i (i+ys.length) ys.length (QCP _)
   rw[Qjc B xs ys n _ i (QCP _) (by omega)]at hf
   have hs:=QnX B (Qbo B (xs.getD i 0) ys (QbM B xs ys n i) i ys.length).1 (i+ys.length) (Qbo B (xs.getD i 0) ys (QbM B xs ys n i) i ys.length).2 (by rw[QcF,Qb0];omega)
   have hf':(Qbo B (xs.getD i 0) ys (QbM B xs ys n i) i ys.length).1.getD (i+ys.length) 0=0:=by rw[QCK,hf];rfl
   rw[hf',Nat.mul_zero,QD8,hr,ih,List.take_length]at hs
   rw[QbM,hs,Qew B xs i (by omega),QEX,QDR]
end Go.Proofs.YticcbmhcgmhohaaGreat
