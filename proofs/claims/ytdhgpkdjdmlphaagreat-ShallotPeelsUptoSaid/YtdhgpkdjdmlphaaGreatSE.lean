/-
  Lemmas for the last text of this claim (part 5 of 20).
-/
import Derived.ArgAppend
import Derived.BigQuiet
import Derived.BigRegion
import Derived.ChangeOld
import Derived.Deep.RegionWith
import Derived.DeepKeys4
import Derived.JoinedCond
import Derived.LaidMore
import Derived.Laws.BytesArg
import Derived.Laws.CopyOwn
import Derived.Laws.Externs
import Derived.Laws.IdiomStrings
import Derived.Laws.Tables
import Derived.Lib.AppendStr
import Derived.Lib.AppendZerosOnto
import Derived.Lib.Mul64
import Derived.Lib.SlBytesConst
import Derived.LoopN
import Derived.Maps.OwnSet
import Derived.OpenShut
import Derived.OrdersHeld
import Derived.ProofKit
import Derived.Shelf.Spec.BitsCarry
import Derived.ShutString
import Derived.Test.YtdhgpkdjdmlphaaGreatProg
import Derived.Test.YtdhgpkdjdmlphaaGreatRows
import Derived.WalkKit
import Derived.WalkLawsBesides
import Derived.WalkSpells
open List renaming replicate → QCC, getElem?_cons_succ → QCD, getElem?_eq_getElem → QCH, cons_append → QCJ, getD_eq_getElem?_getD → QCK, set_cons_zero → QCP, set_cons_succ → QCQ, getElem?_append_right → QCR, append_assoc → QCU, mem_cons → QCV, length_take → QC5, take_succ_eq_append_getElem → QDd, set_append_right → QDe, length_set → QDl, length_cons → QDq, drop_eq_getElem_cons → QDL, getElem?_drop → QDN, drop_of_length_le → QDP, getElem_mem → QDS, getElem?_eq_none → QDW, getElem?_set_ne → QD1, replicate_succ → QD6, getElem?_replicate → QEi
open Nat renaming le_refl → QCN, mod_eq_of_lt → QC1, zero_add → QC6, mod_lt → QC8, div_div_eq_div_mul → QDs, div_eq_of_lt → QDw, div_add_mod → QDx, pow_succ → QDA, div_lt_of_lt_mul → QDD, lt_or_ge → QDF, min_eq_left → QDG, mul_assoc → QDQ, mul_add → QDR, pow_add → QD3, mod_mod → QD4, add_mul_div_left → QD9, mul_le_mul_left → QEe, add_zero → QEm, mul_one → QEq, pow_succ' → QEv, pow_pos → QEB, add_comm → QEF, mul_left_comm → QEK, zero_mul → QER, add_mul → QEU, add_mod → QEV
set_option linter.all false
namespace Go.Proofs.YtdhgpkdjdmlphaaGreat
def val (B:Nat):List Nat→Nat
 | []=>0
 | x :: l=>x+B*val B l
def dig (B:Nat):Nat→Nat→List Nat
 | 0,_=>[]
 | k+1,n=>n%B :: dig B k (n/B)
theorem QaL (B:Nat):∀k n,(dig B k n).length=k
 | 0,_=>rfl
 | k+1,n=>by rw[dig,QDq,QaL B k]
theorem Qei (B:Nat):∀k n,val B (dig B k n)=n%B^k
 | 0,n=>by simp[dig,val,Nat.mod_one]
 | k+1,n=>by rw[dig,val,Qei B k,QEv,Nat.mod_mul]
theorem QdR {B:Nat} (hB:0<B):∀k n,∀x∈dig B k n,x<B
 | 0,_,x,h=>by cases h
 | k+1,n,x,h=>by
   rcases QCV.1 h with rfl|h
   ·exact QC8 _ hB
   ·exact QdR hB k _ x h
theorem Qkf {B:Nat}:∀l:List Nat,(∀ x∈l,x<B)→dig B l.length (val B l)=l
 | [],_=>rfl
 | x :: l,h=>by
   have hx:x<B:=h x (by simp)
   rw[QDq,val,dig,Nat.add_mul_mod_self_left,QC1 hx,QD9 _ _ (by omega),QDw hx,QC6,Qkf l (fun y hy=>h y (by simp[hy]))]
theorem Qv9 {B:Nat}:∀l:List Nat,(∀ x∈l,x<B)→val B l<B^l.length
 | [],_=>by simp[val]
 | x :: l,h=>by
   have hx:x<B:=h x (by simp)
   have:=Qv9 l (fun y hy=>h y (by simp[hy]))
   rw[val,QDq,QEv]
   have h2:B*(val B l+1)≤B*B^l.length:=QEe B this
   rw[QDR,QEq]at h2
   omega
theorem Qf7 (B:Nat):∀k n i,i<k→(dig B k n)[i]?=some (n/B^i%B)
 | 0,_,_,h=>by omega
 | k+1,n,0,_=>by simp[dig]
 | k+1,n,i+1,h=>by
   rw[dig,QCD,Qf7 B k _ i (by omega),QDs,←QEv]
theorem Qdv (B k n i:Nat) (h:i<k):(dig B k n).getD i 0=n/B^i%B:=by
 rw[QCK,Qf7 B k n i h]
 rfl
theorem QfD (B:Nat):∀k n,dig B (k+1) n=dig B k n++[n/B^k%B]
 | 0,n=>by simp[dig]
 | k+1,n=>by
   rw[dig,QfD B k (n/B),dig,QCJ,QDs,←QEv]
theorem QgZ (B:Nat):∀l m:List Nat,val B (l++m)=val B l+B^l.length*val B m
 | [],m=>by simp[val]
 | x :: l,m=>by
   rw[QCJ,val,QgZ B l m,val,QDq,QEv,QDR,QDQ,Nat.add_assoc]
theorem Qmu (B:Nat):∀(l:List Nat) (i v:Nat),i<l.length→val B (l.set i v)+B^i*l.getD i 0=val B l+B^i*v
 | [],_,_,h=>by simp at h
 | x :: l,0,v,_=>by simp[val];omega
 | x :: l,i+1,v,h=>by
   have ih:=Qmu B l i v (by simpa using h)
   have e1:B*(val B (l.set i v)+B^i*l.getD i 0)=B*(val B l+B^i*v):=by rw[ih]
   rw[QCQ,val,val,List.getD_cons_succ,QEv,QDQ,QDQ]
   rw[QDR,QDR]at e1
   omega
theorem Qk5 (B:Nat):∀n,val B (QCC n 0)=0
 | 0=>rfl
 | n+1=>by rw[QD6,val,Qk5 B n,Nat.mul_zero]
theorem QfW {B:Nat}:∀k n,dig B k (n%B^k)=dig B k n
 | 0,_=>rfl
 | k+1,n=>by
   rw[dig,dig,QEv,Nat.mod_mul_right_mod,Nat.mod_mul_right_div_self,QfW k]
theorem QrI {B k n m:Nat} (hn:n<B^k) (hm:m<B^k) (h:dig B k n=dig B k m):n=m:=by
 have:=Qei B k n
 rw[h,Qei,QC1 hn,QC1 hm]at this
 exact this.symm
def carr (B a b c k:Nat):Nat:=(a%B^k+b%B^k+c)/B^k
theorem Qlq (B a b c:Nat):carr B a b c 0=c:=by simp[carr,Nat.mod_one]
theorem Qb1 (B a k:Nat):a%B^(k+1)=a%B^k+B^k*(a/B^k%B):=by rw[QDA,Nat.mod_mul]
theorem QiV {B:Nat} (hB:0<B) (a b c k:Nat):(a/B^k%B+b/B^k%B+carr B a b c k)/B=carr B a b c (k+1):=by
 have hp:0<B^k:=QEB hB
 rw[carr,carr,Qb1,Qb1,QDA,←QDs]
 congr 1
 have e:a%B^k+B^k*(a/B^k%B)+(b%B^k+B^k*(b/B^k%B))+c=(a%B^k+b%B^k+c)+B^k*(a/B^k%B+b/B^k%B):=by rw[QDR];omega
 rw[e,QD9 _ _ hp,QEF]
theorem QmZ {B:Nat} (hB:0<B) (a b c k:Nat):(a/B^k%B+b/B^k%B+carr B a b c k)%B=(a+b+c)/B^k%B:=by
 have hp:0<B^k:=QEB hB
 have ea:=QDx a (B^k)
 have eb:=QDx b (B^k)
 have e:a+b+c=(a%B^k+b%B^k+c)+B^k*(a/B^k+b/B^k):=by rw[QDR];omega
 rw[e,QD9 _ _ hp,←carr,QEV,QEV (a/B^k%B),QD4,QD4,←QEV (a/B^k),←QEV,QEF]
theorem Qng {B:Nat} (hB:0<B) (a b c k:Nat) (hc:c≤1):carr B a b c k≤1:=by
 have hp:0<B^k:=QEB hB
 rw[carr]
 refine Nat.le_of_lt_succ (QDD ?_)
 have:=QC8 a hp
 have:=QC8 b hp
 omega
theorem Qvd {B:Nat} (a b c k:Nat) (ha:a<B^k) (hb:b<B^k):carr B a b c k=(a+b+c)/B^k:=by rw[carr,QC1 ha,QC1 hb]
def owed (B a b k:Nat):Nat:=if a%B^k<b%B^k then 1 else 0
theorem Qlx (B a b:Nat):owed B a b 0=0:=by simp[owed,Nat.mod_one]
theorem QkQ (B a b k:Nat):owed B a b k≤1:=by
 unfold owed
 split<;>omega
theorem Qmf {B:Nat} (hB:0<B) (a b k:Nat):owed B a b (k+1)=if a/B^k%B<b/B^k%B+owed B a b k then 1 else 0:=by
 have hp:0<B^k:=QEB hB
 rw[owed,owed,Qb1,Qb1]
 have ha:=QC8 a hp
 have hb:=QC8 b hp
 generalize a%B^k=x at *
 generalize b%B^k=y at *
 generalize a/B^k%B=p at *
 generalize b/B^k%B=q at *
 generalize B^k=M at *
 have e:∀p q:Nat,p+1≤q→M*p+M≤M*q:=fun p q h=>by
  have:=QEe M h
  rwa [QDR,QEq]at this
 rcases Nat.lt_trichotomy p q with h|h|h
 ·have:=e p q h
  rw[if_pos (by omega),if_pos (by split<;>omega)]
 ·subst h
  by_cases hxy:x<y
  ·rw[if_pos (by omega),if_pos (by rw[if_pos hxy];omega)]
  ·rw[if_neg (by omega),if_neg (by rw[if_neg hxy];omega)]
 ·have:=e q p h
  rw[if_neg (by omega),if_neg (by split<;>omega)]
theorem QuA (a b M N qa ra qb rb w:Nat) (ea:M*qa+ra=a) (eb:M*qb+rb=b) (hb:rb<M) (ha:ra<M) (hq:qb+1≤N) (hw:w=if ra<rb then 1 else 0):
 a+M*N-b=(ra+w*M-rb)+M*(qa+N-qb-w)∧ra+w*M-rb<M:=by
 obtain⟨t,rfl⟩:∃t,N=qb+1+t:=⟨N-qb-1,by omega⟩
 subst ea
 subst eb
 subst hw
 by_cases h:ra<rb
 ·rw[if_pos h,show qa+(qb+1+t)-qb-1=qa+t by omega]
  simp only[QDR,QEq,Nat.one_mul]
  omega
 ·rw[if_neg h,show qa+(qb+1+t)-qb-0=qa+1+t by omega]
  simp only[QDR,QEq,QER]
  omega
theorem Qn1 {B:Nat} (hB:0<B) (a b k n:Nat) (hk:k<n) (hb:b<B^n):(a/B^k%B+B-b/B^k%B-owed B a b k)%B=(a+B^n-b)/B^k%B:=by
 have hp:0<B^k:=QEB hB
 obtain⟨m,rfl⟩:∃m,n=k+(m+1):=⟨n-k-1,by omega⟩
 have hbk:b/B^k<B^(m+1):=by
  rw[QD3]at hb
  exact QDD hb
 obtain⟨key,hr⟩:=QuA a b (B^k) (B^(m+1)) (a/B^k) (a%B^k) (b/B^k) (b%B^k) (owed B a b k) (QDx a _) (QDx b _) (QC8 b hp) (QC8 a hp) hbk rfl
 rw[←QD3]at key
 rw[key,QD9 _ _ hp,QDw hr,QC6]
 have hq:b/B^k%B<B:=QC8 _ hB
 have e3:=QDx (a/B^k) B
 have e4:=QDx (b/B^k) B
 have hle:b/B^k/B<B^m:=QDD (by rw[QEv]at hbk;exact hbk)
 have hol:=QkQ B a b k
 have key2:a/B^k+B^(m+1)-b/B^k-owed B a b k=(a/B^k%B+B-b/B^k%B-owed B a b k)+B*(a/B^k/B+B^m-b/B^k/B-1):=by
  rw[QEv,Nat.mul_sub,Nat.mul_sub,QDR,QEq]
  have e1:B*(b/B^k/B)+B≤B*B^m:=by
   have:=QEe B hle
   rwa [Nat.succ_eq_add_one,QDR,QEq]at this
  omega
 rw[key2,Nat.add_mul_mod_self_left]
theorem Qoo {B:Nat} (a b k:Nat) (ha:a<B^k) (hb:b<B^k):owed B a b k=if a<b then 1 else 0:=by rw[owed,QC1 ha,QC1 hb]
def Qby {α:Type} (S A:List α) (k:Nat):List α:=S.take k++A.drop k
theorem Qau {α:Type} (S A:List α) (k:Nat) (h:S.length=A.length):(Qby S A k).length=A.length:=by
 simp[Qby,h]
 omega
theorem Qbm {α:Type} (S A:List α):Qby S A 0=A:=by simp[Qby]
theorem QbT {α:Type} (S A:List α) (k:Nat) (h:S.length=k) (h2:A.length=k):Qby S A k=S:=by simp[Qby,←h,QDP,h2]
theorem Qeo {α:Type} (S A:List α) (k j:Nat) (h:S.length=A.length) (hk:k≤j) (hj:j<A.length):(Qby S A k)[j]?=A[j]?:=by
 rw[Qby,QCR (by simp;omega),QDN]
 congr 1
 simp
 omega
theorem QaQ {α:Type} (S A:List α) (k:Nat) (v:α) (h:S.length=A.length) (hk:k<A.length) (hv:S[k]?=some v):(Qby S A k).set k v=Qby S A (k+1):=by
 rw[Qby,Qby,QDe _ _ (by simp;omega),List.take_add_one,hv,QCU]
 congr 1
 rw[QDL hk]
 have:k-(S.take k).length=0:=by simp;omega
 rw[this,QCP]
 rfl
def Qbs (B x:Nat) (ys ws:List Nat) (i:Nat):Nat→List Nat×Nat
 | 0=>(ws,0)
 | j+1=>((Qbs B x ys ws i j).1.set (i+j) ((x*ys.getD j 0+(Qbs B x ys ws i j).1.getD (i+j) 0+(Qbs B x ys ws i j).2)%B),
    (x*ys.getD j 0+(Qbs B x ys ws i j).1.getD (i+j) 0+(Qbs B x ys ws i j).2)/B)
theorem QcO (B x:Nat) (ys ws:List Nat) (i:Nat):∀j,(Qbs B x ys ws i j).1.length=ws.length
 | 0=>rfl
 | j+1=>by rw[Qbs,QDl,QcO]
theorem QvK {B:Nat} {l:List Nat} (h:∀x∈l,x<B) (i v:Nat) (hv:v<B):∀x∈l.set i v,x<B:=by
 intro x hx
 rcases List.mem_or_eq_of_mem_set hx with hx|rfl
 ·exact h x hx
 ·exact hv
theorem QiM {B:Nat} (hB:0<B) {l:List Nat} (h:∀x∈l,x<B) (i:Nat):l.getD i 0<B:=by
 rw[QCK]
 rcases QDF i l.length with hi|hi
 ·rw[QCH hi]
  exact h _ (QDS hi)
 ·rw[QDW hi]
  exact hB
theorem Qzl {B x y w c:Nat} (hx:x<B) (hy:y<B) (hw:w<B) (hc:c<B):(x*y+w+c)/B<B:=by
 refine QDD ?_
 have h1:x*y≤(B-1)*(B-1):=Nat.mul_le_mul (by omega) (by omega)
 have h2:(B-1)*(B-1)+(B-1)+(B-1)<B*B:=by
  obtain⟨k,rfl⟩:∃k,B=k+1:=⟨B-1,by omega⟩
  rw[Nat.add_sub_cancel,QEU,QDR]
  omega
 omega
theorem QhB {B:Nat} (x:Nat) (ys ws:List Nat) (i:Nat) (hx:x<B) (hy:∀y∈ys,y<B) (hw:∀y∈ws,y<B):∀j,(∀ y∈(Qbs B x ys ws i j).1,y<B)∧(Qbs B x ys ws i j).2<B
 | 0=>⟨hw,by rw[Qbs];omega⟩
 | j+1=>by
   have hB:0<B:=by omega
   obtain⟨h1,h2⟩:=QhB x ys ws i hx hy hw j
   exact⟨QvK h1 _ _ (QC8 _ hB),Qzl hx (QiM hB hy j) (QiM hB h1 _) h2⟩
theorem Qix (B x:Nat) (ys ws:List Nat) (i k:Nat):∀j,i+j≤k→(Qbs B x ys ws i j).1[k]?=ws[k]?
 | 0,_=>rfl
 | j+1,h=>by rw[Qbs,QD1 (by omega),Qix B x ys ws i k j (by omega)]
theorem QeS (B:Nat) (l:List Nat) (k:Nat) (h:k<l.length):val B (l.take (k+1))=val B (l.take k)+B^k*l.getD k 0:=by
 rw[QDd h,QgZ,QC5,QDG (by omega),QCK,QCH h]
 simp[val]
theorem QlS {B:Nat} (x:Nat) (ys ws:List Nat) (i:Nat):∀j,j≤ys.length→i+j≤ws.length→
 val B (Qbs B x ys ws i j).1+B^(i+j)*(Qbs B x ys ws i j).2=val B ws+B^i*(x*val B (ys.take j))
 | 0,_,_=>by simp[Qbs,val]
 | j+1,h1,h2=>by
   have ih:=QlS (B:=B) x ys ws i j (by omega) (by omega)
   have hs:=Qmu B (Qbs B x ys ws i j).1 (i+j) ((x*ys.getD j 0+(Qbs B x ys ws i j).1.getD (i+j) 0+(Qbs B x ys ws i j).2)%B) (by rw[QcO];omega)
   have hd:=QDx (x*ys.getD j 0+(Qbs B x ys ws i j).1.getD (i+j) 0+(Qbs B x ys ws i j).2) B
   rw[Qbs,QeS B ys j (by omega)]
   simp only
   generalize (Qbs B x ys ws i j).1.getD (i+j) 0=w at *
   generalize (Qbs B x ys ws i j).2=c at *
   generalize ys.getD j 0=y at *
   generalize (x*y+w+c)/B=q at *
   generalize (x*y+w+c)%B=r at *
   generalize val B ((Qbs B x ys ws i j).1.set (i+j) r)=V at *
   generalize val B (Qbs B x ys ws i j).1=U at *
   generalize val B (ys.take j)=Y at *
   generalize val B ws=W at *
   have e1:B^(i+(j+1))=B^(i+j)*B:=by rw[←Nat.add_assoc,QDA]
   have e2:B^i*(x*(Y+B^j*y))=B^i*(x*Y)+B^(i+j)*(x*y):=by
    rw[QD3,QDR,QDR]
    congr 1
    rw[QDQ,QEK x]
   have e3:B^(i+j)*(B*q+r)=B^(i+j)*(x*y+w+c):=by rw[hd]
   rw[e1,e2,QDQ]
   rw[QDR,QDR,QDR]at e3
   generalize B^(i+j)*(B*q)=A1 at *
   generalize B^(i+j)*r=A2 at *
   generalize B^(i+j)*(x*y)=A3 at *
   generalize B^(i+j)*w=A4 at *
   generalize B^(i+j)*c=A5 at *
   generalize B^i*(x*Y)=A6 at *
   omega
def QbP (B:Nat) (xs ys:List Nat) (n:Nat):Nat→List Nat
 | 0=>QCC n 0
 | i+1=>(Qbs B (xs.getD i 0) ys (QbP B xs ys n i) i ys.length).1.set (i+ys.length) (Qbs B (xs.getD i 0) ys (QbP B xs ys n i) i ys.length).2
theorem Qb4 (B:Nat) (xs ys:List Nat) (n:Nat):∀i,(QbP B xs ys n i).length=n
 | 0=>by simp[QbP]
 | i+1=>by rw[QbP,QDl,QcO,Qb4]
theorem Qfe {B:Nat} (hB:0<B) (xs ys:List Nat) (n:Nat) (hx:∀x∈xs,x<B) (hy:∀y∈ys,y<B):∀i,∀w∈QbP B xs ys n i,w<B
 | 0,w,h=>by
   have:=List.eq_of_mem_replicate h
   omega
 | i+1,w,h=>by
   have:=QhB (xs.getD i 0) ys (QbP B xs ys n i) i (QiM hB hx i) hy (Qfe hB xs ys n hx hy i) ys.length
   exact QvK this.1 _ _ this.2 w h
theorem Qjq (B:Nat) (xs ys:List Nat) (n k:Nat):∀i,i+ys.length≤k→k<n→(QbP B xs ys n i)[k]?=some 0
 | 0,_,hk=>by rw[QbP,QEi,if_pos hk]
 | i+1,h,hk=>by rw[QbP,QD1 (by omega),Qix _ _ _ _ _ _ _ (by omega),Qjq B xs ys n k i (by omega) hk]
theorem Qg6 {B:Nat} (xs ys:List Nat) (n:Nat):∀i,i≤xs.length→i+ys.length≤n→val B (QbP B xs ys n i)=val B (xs.take i)*val B ys
 | 0,_,_=>by simp[QbP,Qk5,val]
 | i+1,h1,h2=>by
   have ih:=Qg6 (B:=B) xs ys n i (by omega) (by omega)
   have hr:=QlS (B:=B) (xs.getD i 0) ys (QbP B xs ys n i) i ys.length (QCN _) (by rw[Qb4];omega)
   have hf:=Qix B (xs.getD i 0) ys (QbP B xs ys n i) i (i+ys.length) ys.length (QCN _)
   rw[Qjq B xs ys n _ i (QCN _) (by omega)]at hf
   have hs:=Qmu B (Qbs B (xs.getD i 0) ys (QbP B xs ys n i) i ys.length).1 (i+ys.length) (Qbs B (xs.getD i 0) ys (QbP B xs ys n i) i ys.length).2 (by rw[QcO,Qb4];omega)
   have hf':(Qbs B (xs.getD i 0) ys (QbP B xs ys n i) i ys.length).1.getD (i+ys.length) 0=0:=by rw[QCK,hf];rfl
   rw[hf',Nat.mul_zero,QEm,hr,ih,List.take_length]at hs
   rw[QbP,hs,QeS B xs i (by omega),QEU,QDQ]
end Go.Proofs.YtdhgpkdjdmlphaaGreat
