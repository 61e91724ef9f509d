/-
  Lemmas for the last text of this claim (part 5 of 20).
-/
import Derived.ArgAppend
import Derived.BigQuiet
import Derived.BigRegion
import Derived.ChangeOld
import Derived.Deep.RegionWith
import Derived.DeepKeys4
import Derived.JoinedCond
import Derived.LaidMore
import Derived.Laws.BytesArg
import Derived.Laws.CopyOwn
import Derived.Laws.Externs
import Derived.Laws.IdiomStrings
import Derived.Laws.Tables
import Derived.Lib.AppendStr
import Derived.Lib.AppendZerosOnto
import Derived.Lib.Mul64
import Derived.Lib.SlBytesConst
import Derived.LoopN
import Derived.Maps.OwnSet
import Derived.OpenShut
import Derived.OrdersHeld
import Derived.ProofKit
import Derived.Shelf.Spec.BitsCarry
import Derived.ShutString
import Derived.Test.YtdhgpkdjdmlphaaGreatProg
import Derived.Test.YtdhgpkdjdmlphaaGreatRows
import Derived.WalkKit
import Derived.WalkLawsBesides
import Derived.WalkSpells
open List renaming replicate → QCA, getElem?_cons_succ → QCB, cons_append → QCF, getElem?_eq_getElem → QCH, getD_eq_getElem?_getD → QCI, set_cons_zero → QCN, set_cons_succ → QCO, getElem?_append_right → QCQ, append_assoc → QCR, mem_cons → QCX, length_take → QC1, take_succ_eq_append_getElem → QC8, set_append_right → QDb, length_set → QDi, length_cons → QDu, drop_of_length_le → QDL, getElem?_drop → QDP, getElem?_eq_none → QDQ, getElem?_set_ne → QDV, getElem_mem → QD2, replicate_succ → QD7, getElem?_replicate → QEe, drop_eq_getElem_cons → QEp
open Nat renaming le_refl → QCL, mod_eq_of_lt → QCZ, mod_lt → QC4, zero_add → QC6, div_eq_of_lt → QDo, div_div_eq_div_mul → QDp, min_eq_left → QDv, div_add_mod → QDw, div_lt_of_lt_mul → QDz, lt_or_ge → QDC, pow_succ → QDF, mul_add → QDM, mul_assoc → QDS, pow_add → QDX, mod_mod → QDZ, add_mul_div_left → QD3, add_zero → QD9, mul_le_mul_left → QEa, mul_one → QEs, pow_succ' → QEx, pow_pos → QEA, add_comm → QEE, mul_left_comm → QEH, zero_mul → QEO, add_mul → QER, add_mod → QES
set_option linter.all false
namespace Go.Proofs.YtdhgpkdjdmlphaaGreat
def val (B:Nat):List Nat→Nat
 | []=>0
 | x :: l=>x+B*val B l
def dig (B:Nat):Nat→Nat→List Nat
 | 0,_=>[]
 | k+1,n=>n%B :: dig B k (n/B)
theorem QaM (B:Nat):∀k n,(dig B k n).length=k
 | 0,_=>rfl
 | k+1,n=>by rw[dig,QDu,QaM B k]
theorem Qei (B:Nat):∀k n,val B (dig B k n)=n%B^k
 | 0,n=>by simp[dig,val,Nat.mod_one]
 | k+1,n=>by rw[dig,val,Qei B k,QEx,Nat.mod_mul]
theorem QdX {B:Nat} (hB:0<B):∀k n,∀x∈dig B k n,x<B
 | 0,_,x,h=>by cases h
 | k+1,n,x,h=>by
   rcases QCX.1 h with rfl|h
   ·exact QC4 _ hB
   ·exact QdX hB k _ x h
theorem Qky {B:Nat}:∀l:List Nat,(∀ x∈l,x<B)→dig B l.length (val B l)=l
 | [],_=>rfl
 | x :: l,h=>by
   have hx:x<B:=h x (by simp)
   rw[QDu,val,dig,Nat.add_mul_mod_self_left,QCZ hx,QD3 _ _ (by omega),QDo hx,QC6,Qky l (fun y hy=>h y (by simp[hy]))]
theorem Qws {B:Nat}:∀l:List Nat,(∀ x∈l,x<B)→val B l<B^l.length
 | [],_=>by simp[val]
 | x :: l,h=>by
   have hx:x<B:=h x (by simp)
   have:=Qws l (fun y hy=>h y (by simp[hy]))
   rw[val,QDu,QEx]
   have h2:B*(val B l+1)≤B*B^l.length:=QEa B this
   rw[QDM,QEs]at h2
   omega
theorem Qgb (B:Nat):∀k n i,i<k→(dig B k n)[i]?=some (n/B^i%B)
 | 0,_,_,h=>by omega
 | k+1,n,0,_=>by simp[dig]
 | k+1,n,i+1,h=>by
   rw[dig,QCB,Qgb B k _ i (by omega),QDp,←QEx]
theorem Qdx (B k n i:Nat) (h:i<k):(dig B k n).getD i 0=n/B^i%B:=by
 rw[QCI,Qgb B k n i h]
 rfl
theorem Qfv (B:Nat):∀k n,dig B (k+1) n=dig B k n++[n/B^k%B]
 | 0,n=>by simp[dig]
 | k+1,n=>by
   rw[dig,Qfv B k (n/B),dig,QCF,QDp,←QEx]
theorem QgS (B:Nat):∀l m:List Nat,val B (l++m)=val B l+B^l.length*val B m
 | [],m=>by simp[val]
 | x :: l,m=>by
   rw[QCF,val,QgS B l m,val,QDu,QEx,QDM,QDS,Nat.add_assoc]
theorem Qnb (B:Nat):∀(l:List Nat) (i v:Nat),i<l.length→val B (l.set i v)+B^i*l.getD i 0=val B l+B^i*v
 | [],_,_,h=>by simp at h
 | x :: l,0,v,_=>by simp[val];omega
 | x :: l,i+1,v,h=>by
   have ih:=Qnb B l i v (by simpa using h)
   have e1:B*(val B (l.set i v)+B^i*l.getD i 0)=B*(val B l+B^i*v):=by rw[ih]
   rw[QCO,val,val,List.getD_cons_succ,QEx,QDS,QDS]
   rw[QDM,QDM]at e1
   omega
theorem Qlu (B:Nat):∀n,val B (QCA n 0)=0
 | 0=>rfl
 | n+1=>by rw[QD7,val,Qlu B n,Nat.mul_zero]
theorem Qgd {B:Nat}:∀k n,dig B k (n%B^k)=dig B k n
 | 0,_=>rfl
 | k+1,n=>by
   rw[dig,dig,QEx,Nat.mod_mul_right_mod,Nat.mod_mul_right_div_self,Qgd k]
theorem QrM {B k n m:Nat} (hn:n<B^k) (hm:m<B^k) (h:dig B k n=dig B k m):n=m:=by
 have:=Qei B k n
 rw[h,Qei,QCZ hn,QCZ hm]at this
 exact this.symm
def carr (B a b c k:Nat):Nat:=(a%B^k+b%B^k+c)/B^k
theorem Qln (B a b c:Nat):carr B a b c 0=c:=by simp[carr,Nat.mod_one]
theorem Qb1 (B a k:Nat):a%B^(k+1)=a%B^k+B^k*(a/B^k%B):=by rw[QDF,Nat.mod_mul]
theorem Qik {B:Nat} (hB:0<B) (a b c k:Nat):(a/B^k%B+b/B^k%B+carr B a b c k)/B=carr B a b c (k+1):=by
 have hp:0<B^k:=QEA hB
 rw[carr,carr,Qb1,Qb1,QDF,←QDp]
 congr 1
 have e:a%B^k+B^k*(a/B^k%B)+(b%B^k+B^k*(b/B^k%B))+c=(a%B^k+b%B^k+c)+B^k*(a/B^k%B+b/B^k%B):=by rw[QDM];omega
 rw[e,QD3 _ _ hp,QEE]
theorem QnJ {B:Nat} (hB:0<B) (a b c k:Nat):(a/B^k%B+b/B^k%B+carr B a b c k)%B=(a+b+c)/B^k%B:=by
 have hp:0<B^k:=QEA hB
 have ea:=QDw a (B^k)
 have eb:=QDw b (B^k)
 have e:a+b+c=(a%B^k+b%B^k+c)+B^k*(a/B^k+b/B^k):=by rw[QDM];omega
 rw[e,QD3 _ _ hp,←carr,QES,QES (a/B^k%B),QDZ,QDZ,←QES (a/B^k),←QES,QEE]
theorem QnY {B:Nat} (hB:0<B) (a b c k:Nat) (hc:c≤1):carr B a b c k≤1:=by
 have hp:0<B^k:=QEA hB
 rw[carr]
 refine Nat.le_of_lt_succ (QDz ?_)
 have:=QC4 a hp
 have:=QC4 b hp
 omega
theorem QvC {B:Nat} (a b c k:Nat) (ha:a<B^k) (hb:b<B^k):carr B a b c k=(a+b+c)/B^k:=by rw[carr,QCZ ha,QCZ hb]
def owed (B a b k:Nat):Nat:=if a%B^k<b%B^k then 1 else 0
theorem Qlt (B a b:Nat):owed B a b 0=0:=by simp[owed,Nat.mod_one]
theorem Qko (B a b k:Nat):owed B a b k≤1:=by
 unfold owed
 split<;>omega
theorem QmF {B:Nat} (hB:0<B) (a b k:Nat):owed B a b (k+1)=if a/B^k%B<b/B^k%B+owed B a b k then 1 else 0:=by
 have hp:0<B^k:=QEA hB
 rw[owed,owed,Qb1,Qb1]
 have ha:=QC4 a hp
 have hb:=QC4 b hp
 generalize a%B^k=x at *
 generalize b%B^k=y at *
 generalize a/B^k%B=p at *
 generalize b/B^k%B=q at *
 generalize B^k=M at *
 have e:∀p q:Nat,p+1≤q→M*p+M≤M*q:=fun p q h=>by
  have:=QEa M h
  rwa [QDM,QEs]at this
 rcases Nat.lt_trichotomy p q with h|h|h
 ·have:=e p q h
  rw[if_pos (by omega),if_pos (by split<;>omega)]
 ·subst h
  by_cases hxy:x<y
  ·rw[if_pos (by omega),if_pos (by rw[if_pos hxy];omega)]
  ·rw[if_neg (by omega),if_neg (by rw[if_neg hxy];omega)]
 ·have:=e q p h
  rw[if_neg (by omega),if_neg (by split<;>omega)]
theorem QtQ (a b M N qa ra qb rb w:Nat) (ea:M*qa+ra=a) (eb:M*qb+rb=b) (hb:rb<M) (ha:ra<M) (hq:qb+1≤N) (hw:w=if ra<rb then 1 else 0):
 a+M*N-b=(ra+w*M-rb)+M*(qa+N-qb-w)∧ra+w*M-rb<M:=by
 obtain⟨t,rfl⟩:∃t,N=qb+1+t:=⟨N-qb-1,by omega⟩
 subst ea
 subst eb
 subst hw
 by_cases h:ra<rb
 ·rw[if_pos h,show qa+(qb+1+t)-qb-1=qa+t by omega]
  simp only[QDM,QEs,Nat.one_mul]
  omega
 ·rw[if_neg h,show qa+(qb+1+t)-qb-0=qa+1+t by omega]
  simp only[QDM,QEs,QEO]
  omega
theorem Qoj {B:Nat} (hB:0<B) (a b k n:Nat) (hk:k<n) (hb:b<B^n):(a/B^k%B+B-b/B^k%B-owed B a b k)%B=(a+B^n-b)/B^k%B:=by
 have hp:0<B^k:=QEA hB
 obtain⟨m,rfl⟩:∃m,n=k+(m+1):=⟨n-k-1,by omega⟩
 have hbk:b/B^k<B^(m+1):=by
  rw[QDX]at hb
  exact QDz hb
 obtain⟨key,hr⟩:=QtQ a b (B^k) (B^(m+1)) (a/B^k) (a%B^k) (b/B^k) (b%B^k) (owed B a b k) (QDw a _) (QDw b _) (QC4 b hp) (QC4 a hp) hbk rfl
 rw[←QDX]at key
 rw[key,QD3 _ _ hp,QDo hr,QC6]
 have hq:b/B^k%B<B:=QC4 _ hB
 have e3:=QDw (a/B^k) B
 have e4:=QDw (b/B^k) B
 have hle:b/B^k/B<B^m:=QDz (by rw[QEx]at hbk;exact hbk)
 have hol:=Qko B a b k
 have key2:a/B^k+B^(m+1)-b/B^k-owed B a b k=(a/B^k%B+B-b/B^k%B-owed B a b k)+B*(a/B^k/B+B^m-b/B^k/B-1):=by
  rw[QEx,Nat.mul_sub,Nat.mul_sub,QDM,QEs]
  have e1:B*(b/B^k/B)+B≤B*B^m:=by
   have:=QEa B hle
   rwa [Nat.succ_eq_add_one,QDM,QEs]at this
  omega
 rw[key2,Nat.add_mul_mod_self_left]
theorem Qox {B:Nat} (a b k:Nat) (ha:a<B^k) (hb:b<B^k):owed B a b k=if a<b then 1 else 0:=by rw[owed,QCZ ha,QCZ hb]
def Qby {α:Type} (S A:List α) (k:Nat):List α:=S.take k++A.drop k
theorem Qaw {α:Type} (S A:List α) (k:Nat) (h:S.length=A.length):(Qby S A k).length=A.length:=by
 simp[Qby,h]
 omega
theorem Qbj {α:Type} (S A:List α):Qby S A 0=A:=by simp[Qby]
theorem QbV {α:Type} (S A:List α) (k:Nat) (h:S.length=k) (h2:A.length=k):Qby S A k=S:=by simp[Qby,←h,QDL,h2]
theorem Qej {α:Type} (S A:List α) (k j:Nat) (h:S.length=A.length) (hk:k≤j) (hj:j<A.length):(Qby S A k)[j]?=A[j]?:=by
 rw[Qby,QCQ (by simp;omega),QDP]
 congr 1
 simp
 omega
theorem QaR {α:Type} (S A:List α) (k:Nat) (v:α) (h:S.length=A.length) (hk:k<A.length) (hv:S[k]?=some v):(Qby S A k).set k v=Qby S A (k+1):=by
 rw[Qby,Qby,QDb _ _ (by simp;omega),List.take_add_one,hv,QCR]
 congr 1
 rw[QEp hk]
 have:k-(S.take k).length=0:=by simp;omega
 rw[this,QCN]
 rfl
def Qbp (B x:Nat) (ys ws:List Nat) (i:Nat):Nat→List Nat×Nat
 | 0=>(ws,0)
 | j+1=>((Qbp B x ys ws i j).1.set (i+j) ((x*ys.getD j 0+(Qbp B x ys ws i j).1.getD (i+j) 0+(Qbp B x ys ws i j).2)%B),
    (x*ys.getD j 0+(Qbp B x ys ws i j).1.getD (i+j) 0+(Qbp B x ys ws i j).2)/B)
theorem QcE (B x:Nat) (ys ws:List Nat) (i:Nat):∀j,(Qbp B x ys ws i j).1.length=ws.length
 | 0=>rfl
 | j+1=>by rw[Qbp,QDi,QcE]
theorem QvU {B:Nat} {l:List Nat} (h:∀x∈l,x<B) (i v:Nat) (hv:v<B):∀x∈l.set i v,x<B:=by
 intro x hx
 rcases List.mem_or_eq_of_mem_set hx with hx|rfl
 ·exact h x hx
 ·exact hv
theorem QiO {B:Nat} (hB:0<B) {l:List Nat} (h:∀x∈l,x<B) (i:Nat):l.getD i 0<B:=by
 rw[QCI]
 rcases QDC i l.length with hi|hi
 ·rw[QCH hi]
  exact h _ (QD2 hi)
 ·rw[QDQ hi]
  exact hB
theorem Qzj {B x y w c:Nat} (hx:x<B) (hy:y<B) (hw:w<B) (hc:c<B):(x*y+w+c)/B<B:=by
 refine QDz ?_
 have h1:x*y≤(B-1)*(B-1):=Nat.mul_le_mul (by omega) (by omega)
 have h2:(B-1)*(B-1)+(B-1)+(B-1)<B*B:=by
  obtain⟨k,rfl⟩:∃k,B=k+1:=⟨B-1,by omega⟩
  rw[Nat.add_sub_cancel,QER,QDM]
  omega
 omega
theorem QhO {B:Nat} (x:Nat) (ys ws:List Nat) (i:Nat) (hx:x<B) (hy:∀y∈ys,y<B) (hw:∀y∈ws,y<B):∀j,(∀ y∈(Qbp B x ys ws i j).1,y<B)∧(Qbp B x ys ws i j).2<B
 | 0=>⟨hw,by rw[Qbp];omega⟩
 | j+1=>by
   have hB:0<B:=by omega
   obtain⟨h1,h2⟩:=QhO x ys ws i hx hy hw j
   exact⟨QvU h1 _ _ (QC4 _ hB),Qzj hx (QiO hB hy j) (QiO hB h1 _) h2⟩
theorem QiZ (B x:Nat) (ys ws:List Nat) (i k:Nat):∀j,i+j≤k→(Qbp B x ys ws i j).1[k]?=ws[k]?
 | 0,_=>rfl
 | j+1,h=>by rw[Qbp,QDV (by omega),QiZ B x ys ws i k j (by omega)]
theorem QeL (B:Nat) (l:List Nat) (k:Nat) (h:k<l.length):val B (l.take (k+1))=val B (l.take k)+B^k*l.getD k 0:=by
 rw[QC8 h,QgS,QC1,QDv (by omega),QCI,QCH h]
 simp[val]
theorem QlN {B:Nat} (x:Nat) (ys ws:List Nat) (i:Nat):∀j,j≤ys.length→i+j≤ws.length→
 val B (Qbp B x ys ws i j).1+B^(i+j)*(Qbp B x ys ws i j).2=val B ws+B^i*(x*val B (ys.take j))
 | 0,_,_=>by simp[Qbp,val]
 | j+1,h1,h2=>by
   have ih:=QlN (B:=B) x ys ws i j (by omega) (by omega)
   have hs:=Qnb B (Qbp B x ys ws i j).1 (i+j) ((x*ys.getD j 0+(Qbp B x ys ws i j).1.getD (i+j) 0+(Qbp B x ys ws i j).2)%B) (by rw[QcE];omega)
   have hd:=QDw (x*ys.getD j 0+(Qbp B x ys ws i j).1.getD (i+j) 0+(Qbp B x ys ws i j).2) B
   rw[Qbp,QeL B ys j (by omega)]
   simp only
   generalize (Qbp B x ys ws i j).1.getD (i+j) 0=w at *
   generalize (Qbp B x ys ws i j).2=c at *
   generalize ys.getD j 0=y at *
   generalize (x*y+w+c)/B=q at *
   generalize (x*y+w+c)%B=r at *
   generalize val B ((Qbp B x ys ws i j).1.set (i+j) r)=V at *
   generalize val B (Qbp B x ys ws i j).1=U at *
   generalize val B (ys.take j)=Y at *
   generalize val B ws=W at *
   have e1:B^(i+(j+1))=B^(i+j)*B:=by rw[←Nat.add_assoc,QDF]
   have e2:B^i*(x*(Y+B^j*y))=B^i*(x*Y)+B^(i+j)*(x*y):=by
    rw[QDX,QDM,QDM]
    congr 1
    rw[QDS,QEH x]
   have e3:B^(i+j)*(B*q+r)=B^(i+j)*(x*y+w+c):=by rw[hd]
   rw[e1,e2,QDS]
   rw[QDM,QDM,QDM]at e3
   generalize B^(i+j)*(B*q)=A1 at *
   generalize B^(i+j)*r=A2 at *
   generalize B^(i+j)*(x*y)=A3 at *
   generalize B^(i+j)*w=A4 at *
   generalize B^(i+j)*c=A5 at *
   generalize B^i*(x*Y)=A6 at *
   omega
def QbN (B:Nat) (xs ys:List Nat) (n:Nat):Nat→List Nat
 | 0=>QCA n 0
 | i+1=>(Qbp B (xs.getD i 0) ys (QbN B xs ys n i) i ys.length).1.set (i+ys.length) (Qbp B (xs.getD i 0) ys (QbN B xs ys n i) i ys.length).2
theorem Qb2 (B:Nat) (xs ys:List Nat) (n:Nat):∀i,(QbN B xs ys n i).length=n
 | 0=>by simp[QbN]
 | i+1=>by rw[QbN,QDi,QcE,Qb2]
theorem Qe9 {B:Nat} (hB:0<B) (xs ys:List Nat) (n:Nat) (hx:∀x∈xs,x<B) (hy:∀y∈ys,y<B):∀i,∀w∈QbN B xs ys n i,w<B
 | 0,w,h=>by
   have:=List.eq_of_mem_replicate h
   omega
 | i+1,w,h=>by
   have:=QhO (xs.getD i 0) ys (QbN B xs ys n i) i (QiO hB hx i) hy (Qe9 hB xs ys n hx hy i) ys.length
   exact QvU this.1 _ _ this.2 w h
theorem Qj8 (B:Nat) (xs ys:List Nat) (n k:Nat):∀i,i+ys.length≤k→k<n→(QbN B xs ys n i)[k]?=some 0
 | 0,_,hk=>by rw[QbN,QEe,if_pos hk]
 | i+1,h,hk=>by rw[QbN,QDV (by omega),QiZ _ _ _ _ _ _ _ (by omega),Qj8 B xs ys n k i (by omega) hk]
theorem Qhb {B:Nat} (xs ys:List Nat) (n:Nat):∀i,i≤xs.length→i+ys.length≤n→val B (QbN B xs ys n i)=val B (xs.take i)*val B ys
 | 0,_,_=>by simp[QbN,Qlu,val]
 | i+1,h1,h2=>by
   have ih:=Qhb (B:=B) xs ys n i (by omega) (by omega)
   have hr:=QlN (B:=B) (xs.getD i 0) ys (QbN B xs ys n i) i ys.length (QCL _) (by rw[Qb2];omega)
   have hf:=QiZ B (xs.getD i 0) ys (QbN B xs ys n i) i (i+ys.length) ys.length (QCL _)
   rw[Qj8 B xs ys n _ i (QCL _) (by omega)]at hf
   have hs:=Qnb B (Qbp B (xs.getD i 0) ys (QbN B xs ys n i) i ys.length).1 (i+ys.length) (Qbp B (xs.getD i 0) ys (QbN B xs ys n i) i ys.length).2 (by rw[QcE,Qb2];omega)
   have hf':(Qbp B (xs.getD i 0) ys (QbN B xs ys n i) i ys.length).1.getD (i+ys.length) 0=0:=by rw[QCI,hf];rfl
   rw[hf',Nat.mul_zero,QD9,hr,ih,List.take_length]at hs
   rw[QbN,hs,QeL B xs i (by omega),QER,QDS]
end Go.Proofs.YtdhgpkdjdmlphaaGreat
