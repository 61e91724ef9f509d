/-
  Lemmas for the last text of this claim (part 7 of 20).
-/
import Derived.ArgAppend
import Derived.BigQuiet
import Derived.BigRegion
import Derived.ChangeOld
import Derived.Deep.RegionWith
import Derived.DeepKeys4
import Derived.JoinedCond
import Derived.LaidMore
import Derived.Laws.CopyOwn
import Derived.Laws.Externs
import Derived.Laws.IdiomStrings
import Derived.Laws.Tables
import Derived.Lib.AppendStr
import Derived.Lib.AppendZerosOnto
import Derived.Lib.Mul64
import Derived.Lib.SlBytesConst
import Derived.LoopN
import Derived.Maps.OwnSet
import Derived.OpenShut
import Derived.OrdersHeld
import Derived.ProofKit
import Derived.Shelf.Spec.BitsCarry
import Derived.ShutString
import Derived.Test.YtcbdgnlcknllnaaGreatProg
import Derived.Test.YtcbdgnlcknllnaaGreatRows
import Derived.WalkKit
import Derived.WalkLawsBesides
import Derived.WalkSpells
import Derived.Test.YtcbdgnlcknllnaaGreatQC
import Derived.Test.YtcbdgnlcknllnaaGreatQF
open BitVec renaming toNat_ushiftRight → Qzy, toNat_shiftLeft → QzU
open Bool renaming eq_iff_iff → Qy7
open List renaming replicate → Qyl, getElem?_cons_succ → Qym, getElem?_cons_zero → Qyn, length_map → Qyo, getElem?_eq_getElem → Qyq, nil_append → Qyr, cons_append → Qys, getD_eq_getElem?_getD → Qyt, setIfInBounds_toArray → Qyu, set_cons_zero → Qyx, set_cons_succ → Qyy, take_of_length_le → QyA, getElem?_append_right → QyC, getElem?_map → QyF, mem_cons → QyI, append_assoc → QyK, take_succ_eq_append_getElem → QyR, length_take → QyW, length_set → QyY, range → Qy0, mem_map → Qy1, set_append_right → Qy3, length_cons → Qzd, drop_of_length_le → Qze, getElem_mem → Qzk, getElem?_eq_none → Qzo, replicate_succ → QzA, getElem?_drop → QzP, map_set → QAu
open Nat renaming le_refl → Qyv, zero_add → QyE, lt_of_lt_of_le → QyL, mod_eq_of_lt → QyS, mod_lt → QyV, mul_one → Qzb, le_mul_of_pos_right → Qzg, mul_add → Qzi, div_add_mod → Qzm, lt_or_ge → Qzn, div_eq_of_lt → Qzq, shiftRight_eq_div_pow → Qzs, mul_comm → Qzt, div_lt_of_lt_mul → Qzu, div_div_eq_div_mul → Qzv, lt_of_le_of_lt → Qzw, mul_assoc → Qzx, add_mul_div_left → QzG, pow_succ → QzH, min_eq_left → QzN, lt_trans → QzT, mul_le_mul_left → QzY, pow_succ' → QzZ, add_zero → Qz3, shiftLeft_eq → Qz7, pow_add → Qz8, mul_left_comm → QAd, pow_pos → QAl, mul_mod → QAm, add_mul → QAr, add_mod → QAs, mod_mod → QAw
open Option renaming toList_some → Qyp
open UInt32 renaming ofNat → QyU, toNat_ofNat' → QAe, toNat_inj → QAt
open UInt64 renaming ofNat → QyM, toNat_ofNat' → QyP, toNat_inj → Qz9
open UInt8 renaming ofNat → Qy2, toNat_inj → Qz2, toNat_ofNat' → QAj
set_option linter.unusedSimpArgs false
namespace Go.Proofs.YtcbdgnlcknllnaaGreat
def val (B:Nat):List Nat→Nat
 | []=>0
 | x :: l=>x+B*val B l
def dig (B:Nat):Nat→Nat→List Nat
 | 0,_=>[]
 | k+1,n=>n%B :: dig B k (n/B)
theorem QaG (B:Nat):∀k n,(dig B k n).length=k
 | 0,_=>rfl
 | k+1,n=>by rw[dig,Qzd,QaG B k]
theorem Qfr (B:Nat):∀k n,val B (dig B k n)=n%B^k
 | 0,n=>by simp[dig,val,Nat.mod_one]
 | k+1,n=>by rw[dig,val,Qfr B k,QzZ,Nat.mod_mul]
theorem Qeh {B:Nat} (hB:0<B):∀k n,∀x∈dig B k n,x<B
 | 0,_,x,h=>by cases h
 | k+1,n,x,h=>by
   rcases QyI.1 h with rfl|h
   ·exact QyV _ hB
   ·exact Qeh hB k _ x h
theorem Qp9 {B:Nat}:∀l:List Nat,(∀ x∈l,x<B)→dig B l.length (val B l)=l
 | [],_=>rfl
 | x :: l,h=>by
   have hx:x<B:=h x (by simp)
   rw[Qzd,val,dig,Nat.add_mul_mod_self_left,QyS hx,QzG _ _ (by omega),Qzq hx,QyE,Qp9 l (fun y hy=>h y (by simp[hy]))]
theorem QsK {B:Nat}:∀l:List Nat,(∀ x∈l,x<B)→val B l<B^l.length
 | [],_=>by simp[val]
 | x :: l,h=>by
   have hx:x<B:=h x (by simp)
   have:=QsK l (fun y hy=>h y (by simp[hy]))
   rw[val,Qzd,QzZ]
   have h2:B*(val B l+1)≤B*B^l.length:=QzY B this
   rw[Qzi,Qzb]at h2
   omega
theorem Qez (B:Nat):∀k n i,i<k→(dig B k n)[i]?=some (n/B^i%B)
 | 0,_,_,h=>by omega
 | k+1,n,0,_=>by simp[dig]
 | k+1,n,i+1,h=>by
   rw[dig,Qym,Qez B k _ i (by omega),Qzv,←QzZ]
theorem QfY (B k n i:Nat) (h:i<k):(dig B k n).getD i 0=n/B^i%B:=by
 rw[Qyt,Qez B k n i h]
 rfl
theorem QeI (B:Nat):∀k n,dig B (k+1) n=dig B k n++[n/B^k%B]
 | 0,n=>by simp[dig]
 | k+1,n=>by
   rw[dig,QeI B k (n/B),dig,Qys,Qzv,←QzZ]
theorem Qhm (B:Nat):∀l m:List Nat,val B (l++m)=val B l+B^l.length*val B m
 | [],m=>by simp[val]
 | x :: l,m=>by
   rw[Qys,val,Qhm B l m,val,Qzd,QzZ,Qzi,Qzx,Nat.add_assoc]
theorem Qk5 (B:Nat):∀(l:List Nat) (i v:Nat),i<l.length→val B (l.set i v)+B^i*l.getD i 0=val B l+B^i*v
 | [],_,_,h=>by simp at h
 | x :: l,0,v,_=>by simp[val];omega
 | x :: l,i+1,v,h=>by
   have ih:=Qk5 B l i v (by simpa using h)
   have e1:B*(val B (l.set i v)+B^i*l.getD i 0)=B*(val B l+B^i*v):=by rw[ih]
   rw[Qyy,val,val,List.getD_cons_succ,QzZ,Qzx,Qzx]
   rw[Qzi,Qzi]at e1
   omega
theorem Qi2 (B:Nat):∀n,val B (Qyl n 0)=0
 | 0=>rfl
 | n+1=>by rw[QzA,val,Qi2 B n,Nat.mul_zero]
theorem Qio {B:Nat}:∀k n,dig B k (n%B^k)=dig B k n
 | 0,_=>rfl
 | k+1,n=>by
   rw[dig,dig,QzZ,Nat.mod_mul_right_mod,Nat.mod_mul_right_div_self,Qio k]
theorem Qom {B k n m:Nat} (hn:n<B^k) (hm:m<B^k) (h:dig B k n=dig B k m):n=m:=by
 have:=Qfr B k n
 rw[h,Qfr,QyS hn,QyS hm]at this
 exact this.symm
def carr (B a b c k:Nat):Nat:=(a%B^k+b%B^k+c)/B^k
theorem Qpd (B a b c:Nat):carr B a b c 0=c:=by simp[carr,Nat.mod_one]
theorem QbN (B a k:Nat):a%B^(k+1)=a%B^k+B^k*(a/B^k%B):=by rw[QzH,Nat.mod_mul]
theorem QjL {B:Nat} (hB:0<B) (a b c k:Nat):(a/B^k%B+b/B^k%B+carr B a b c k)/B=carr B a b c (k+1):=by
 have hp:0<B^k:=QAl hB
 rw[carr,carr,QbN,QbN,QzH,←Qzv]
 congr 1
 have e:a%B^k+B^k*(a/B^k%B)+(b%B^k+B^k*(b/B^k%B))+c=(a%B^k+b%B^k+c)+B^k*(a/B^k%B+b/B^k%B):=by rw[Qzi];omega
 rw[e,QzG _ _ hp,Nat.add_comm]
theorem Qqf {B:Nat} (hB:0<B) (a b c k:Nat):(a/B^k%B+b/B^k%B+carr B a b c k)%B=(a+b+c)/B^k%B:=by
 have hp:0<B^k:=QAl hB
 have ea:=Qzm a (B^k)
 have eb:=Qzm b (B^k)
 have e:a+b+c=(a%B^k+b%B^k+c)+B^k*(a/B^k+b/B^k):=by rw[Qzi];omega
 rw[e,QzG _ _ hp,←carr,QAs,QAs (a/B^k%B),QAw,QAw,←QAs (a/B^k),←QAs,Nat.add_comm]
theorem Qn0 {B:Nat} (hB:0<B) (a b c k:Nat) (hc:c≤1):carr B a b c k≤1:=by
 have hp:0<B^k:=QAl hB
 rw[carr]
 refine Nat.le_of_lt_succ (Qzu ?_)
 have:=QyV a hp
 have:=QyV b hp
 omega
def owed (B a b k:Nat):Nat:=if a%B^k<b%B^k then 1 else 0
theorem QoU (B a b:Nat):owed B a b 0=0:=by simp[owed,Nat.mod_one]
theorem QpK (B a b k:Nat):owed B a b k≤1:=by
 unfold owed
 split<;>omega
theorem Qou {B:Nat} (hB:0<B) (a b k:Nat):owed B a b (k+1)=if a/B^k%B<b/B^k%B+owed B a b k then 1 else 0:=by
 have hp:0<B^k:=QAl hB
 rw[owed,owed,QbN,QbN]
 have ha:=QyV a hp
 have hb:=QyV b hp
 generalize a%B^k=x at *
 generalize b%B^k=y at *
 generalize a/B^k%B=p at *
 generalize b/B^k%B=q at *
 generalize B^k=M at *
 have e:∀p q:Nat,p+1≤q→M*p+M≤M*q:=fun p q h=>by
  have:=QzY M h
  rwa [Qzi,Qzb]at this
 rcases Nat.lt_trichotomy p q with h|h|h
 ·have:=e p q h
  rw[if_pos (by omega),if_pos (by split<;>omega)]
 ·subst h
  by_cases hxy:x<y
  ·rw[if_pos (by omega),if_pos (by rw[if_pos hxy];omega)]
  ·rw[if_neg (by omega),if_neg (by rw[if_neg hxy];omega)]
 ·have:=e q p h
  rw[if_neg (by omega),if_neg (by split<;>omega)]
theorem QqQ (a b M N qa ra qb rb w:Nat) (ea:M*qa+ra=a) (eb:M*qb+rb=b) (hb:rb<M) (ha:ra<M) (hq:qb+1≤N) (hw:w=if ra<rb then 1 else 0):
 a+M*N-b=(ra+w*M-rb)+M*(qa+N-qb-w)∧ra+w*M-rb<M:=by
 obtain⟨t,rfl⟩:∃t,N=qb+1+t:=⟨N-qb-1,by omega⟩
 subst ea
 subst eb
 subst hw
 by_cases h:ra<rb
 ·rw[if_pos h,show qa+(qb+1+t)-qb-1=qa+t by omega]
  simp only[Qzi,Qzb,Nat.one_mul]
  omega
 ·rw[if_neg h,show qa+(qb+1+t)-qb-0=qa+1+t by omega]
  simp only[Qzi,Qzb,Nat.zero_mul]
  omega
theorem QrX {B:Nat} (hB:0<B) (a b k n:Nat) (hk:k<n) (hb:b<B^n):(a/B^k%B+B-b/B^k%B-owed B a b k)%B=(a+B^n-b)/B^k%B:=by
 have hp:0<B^k:=QAl hB
 obtain⟨m,rfl⟩:∃m,n=k+(m+1):=⟨n-k-1,by omega⟩
 have hbk:b/B^k<B^(m+1):=by
  rw[Qz8]at hb
  exact Qzu hb
 obtain⟨key,hr⟩:=QqQ a b (B^k) (B^(m+1)) (a/B^k) (a%B^k) (b/B^k) (b%B^k) (owed B a b k) (Qzm a _) (Qzm b _) (QyV b hp) (QyV a hp) hbk rfl
 rw[←Qz8]at key
 rw[key,QzG _ _ hp,Qzq hr,QyE]
 have hq:b/B^k%B<B:=QyV _ hB
 have e3:=Qzm (a/B^k) B
 have e4:=Qzm (b/B^k) B
 have hle:b/B^k/B<B^m:=Qzu (by rw[QzZ]at hbk;exact hbk)
 have hol:=QpK B a b k
 have key2:a/B^k+B^(m+1)-b/B^k-owed B a b k=(a/B^k%B+B-b/B^k%B-owed B a b k)+B*(a/B^k/B+B^m-b/B^k/B-1):=by
  rw[QzZ,Nat.mul_sub,Nat.mul_sub,Qzi,Qzb]
  have e1:B*(b/B^k/B)+B≤B*B^m:=by
   have:=QzY B hle
   rwa [Nat.succ_eq_add_one,Qzi,Qzb]at this
  omega
 rw[key2,Nat.add_mul_mod_self_left]
def Qb1 {α:Type} (S A:List α) (k:Nat):List α:=S.take k++A.drop k
theorem Qbc {α:Type} (S A:List α) (k:Nat) (h:S.length=A.length):(Qb1 S A k).length=A.length:=by
 simp[Qb1,h]
 omega
theorem Qb6 {α:Type} (S A:List α):Qb1 S A 0=A:=by simp[Qb1]
theorem Qcu {α:Type} (S A:List α) (k:Nat) (h:S.length=k) (h2:A.length=k):Qb1 S A k=S:=by simp[Qb1,←h,Qze,h2]
theorem Qfh {α:Type} (S A:List α) (k j:Nat) (h:S.length=A.length) (hk:k≤j) (hj:j<A.length):(Qb1 S A k)[j]?=A[j]?:=by
 rw[Qb1,QyC (by simp;omega),QzP]
 congr 1
 simp
 omega
theorem QbI {α:Type} (S A:List α) (k:Nat) (v:α) (h:S.length=A.length) (hk:k<A.length) (hv:S[k]?=some v):(Qb1 S A k).set k v=Qb1 S A (k+1):=by
 rw[Qb1,Qb1,Qy3 _ _ (by simp;omega),List.take_add_one,hv,QyK]
 congr 1
 rw[List.drop_eq_getElem_cons hk]
 have:k-(S.take k).length=0:=by simp;omega
 rw[this,Qyx]
 rfl
def Qa9 (B x:Nat) (ys ws:List Nat) (i:Nat):Nat→List Nat×Nat
 | 0=>(ws,0)
 | j+1=>((Qa9 B x ys ws i j).1.set (i+j) ((x*ys.getD j 0+(Qa9 B x ys ws i j).1.getD (i+j) 0+(Qa9 B x ys ws i j).2)%B),
    (x*ys.getD j 0+(Qa9 B x ys ws i j).1.getD (i+j) 0+(Qa9 B x ys ws i j).2)/B)
theorem Qci (B x:Nat) (ys ws:List Nat) (i:Nat):∀j,(Qa9 B x ys ws i j).1.length=ws.length
 | 0=>rfl
 | j+1=>by rw[Qa9,QyY,Qci]
theorem QsM {B:Nat} {l:List Nat} (h:∀x∈l,x<B) (i v:Nat) (hv:v<B):∀x∈l.set i v,x<B:=by
 intro x hx
 rcases List.mem_or_eq_of_mem_set hx with hx|rfl
 ·exact h x hx
 ·exact hv
theorem Qin {B:Nat} (hB:0<B) {l:List Nat} (h:∀x∈l,x<B) (i:Nat):l.getD i 0<B:=by
 rw[Qyt]
 rcases Qzn i l.length with hi|hi
 ·rw[Qyq hi]
  exact h _ (Qzk hi)
 ·rw[Qzo hi]
  exact hB
theorem QvA {B x y w c:Nat} (hx:x<B) (hy:y<B) (hw:w<B) (hc:c<B):(x*y+w+c)/B<B:=by
 refine Qzu ?_
 have h1:x*y≤(B-1)*(B-1):=Nat.mul_le_mul (by omega) (by omega)
 have h2:(B-1)*(B-1)+(B-1)+(B-1)<B*B:=by
  obtain⟨k,rfl⟩:∃k,B=k+1:=⟨B-1,by omega⟩
  rw[Nat.add_sub_cancel,QAr,Qzi]
  omega
 omega
theorem QiK {B:Nat} (x:Nat) (ys ws:List Nat) (i:Nat) (hx:x<B) (hy:∀y∈ys,y<B) (hw:∀y∈ws,y<B):∀j,(∀ y∈(Qa9 B x ys ws i j).1,y<B)∧(Qa9 B x ys ws i j).2<B
 | 0=>⟨hw,by rw[Qa9];omega⟩
 | j+1=>by
   have hB:0<B:=by omega
   obtain⟨h1,h2⟩:=QiK x ys ws i hx hy hw j
   exact⟨QsM h1 _ _ (QyV _ hB),QvA hx (Qin hB hy j) (Qin hB h1 _) h2⟩
theorem QgL (B x:Nat) (ys ws:List Nat) (i k:Nat):∀j,i+j≤k→(Qa9 B x ys ws i j).1[k]?=ws[k]?
 | 0,_=>rfl
 | j+1,h=>by rw[Qa9,List.getElem?_set_ne (by omega),QgL B x ys ws i k j (by omega)]
theorem Qds (B:Nat) (l:List Nat) (k:Nat) (h:k<l.length):val B (l.take (k+1))=val B (l.take k)+B^k*l.getD k 0:=by
 rw[QyR h,Qhm,QyW,QzN (by omega),Qyt,Qyq h]
 simp[val]
theorem Qjf {B:Nat} (x:Nat) (ys ws:List Nat) (i:Nat):∀j,j≤ys.length→i+j≤ws.length→
 val B (Qa9 B x ys ws i j).1+B^(i+j)*(Qa9 B x ys ws i j).2=val B ws+B^i*(x*val B (ys.take j))
 | 0,_,_=>by simp[Qa9,val]
 | j+1,h1,h2=>by
   have ih:=Qjf (B:=B) x ys ws i j (by omega) (by omega)
   have hs:=Qk5 B (Qa9 B x ys ws i j).1 (i+j) ((x*ys.getD j 0+(Qa9 B x ys ws i j).1.getD (i+j) 0+(Qa9 B x ys ws i j).2)%B) (by rw[Qci];omega)
   have hd:=Qzm (x*ys.getD j 0+(Qa9 B x ys ws i j).1.getD (i+j) 0+(Qa9 B x ys ws i j).2) B
   rw[Qa9,Qds B ys j (by omega)]
   simp only
   generalize (Qa9 B x ys ws i j).1.getD (i+j) 0=w at *
   generalize (Qa9 B x ys ws i j).2=c at *
   generalize ys.getD j 0=y at *
   generalize (x*y+w+c)/B=q at *
   generalize (x*y+w+c)%B=r at *
   generalize val B ((Qa9 B x ys ws i j).1.set (i+j) r)=V at *
   generalize val B (Qa9 B x ys ws i j).1=U at *
   generalize val B (ys.take j)=Y at *
   generalize val B ws=W at *
   have e1:B^(i+(j+1))=B^(i+j)*B:=by rw[←Nat.add_assoc,QzH]
   have e2:B^i*(x*(Y+B^j*y))=B^i*(x*Y)+B^(i+j)*(x*y):=by
    rw[Qz8,Qzi,Qzi]
    congr 1
    rw[Qzx,QAd x]
   have e3:B^(i+j)*(B*q+r)=B^(i+j)*(x*y+w+c):=by rw[hd]
   rw[e1,e2,Qzx]
   rw[Qzi,Qzi,Qzi]at e3
   generalize B^(i+j)*(B*q)=A1 at *
   generalize B^(i+j)*r=A2 at *
   generalize B^(i+j)*(x*y)=A3 at *
   generalize B^(i+j)*w=A4 at *
   generalize B^(i+j)*c=A5 at *
   generalize B^i*(x*Y)=A6 at *
   omega
def Qbt (B:Nat) (xs ys:List Nat) (n:Nat):Nat→List Nat
 | 0=>Qyl n 0
 | i+1=>(Qa9 B (xs.getD i 0) ys (Qbt B xs ys n i) i ys.length).1.set (i+ys.length) (Qa9 B (xs.getD i 0) ys (Qbt B xs ys n i) i ys.length).2
theorem QbY (B:Nat) (xs ys:List Nat) (n:Nat):∀i,(Qbt B xs ys n i).length=n
 | 0=>by simp[Qbt]
 | i+1=>by rw[Qbt,QyY,Qci,QbY]
theorem QgA {B:Nat} (hB:0<B) (xs ys:List Nat) (n:Nat) (hx:∀x∈xs,x<B) (hy:∀y∈ys,y<B):∀i,∀w∈Qbt B xs ys n i,w<B
 | 0,w,h=>by
   have:=List.eq_of_mem_replicate h
   omega
 | i+1,w,h=>by
   have:=QiK (xs.getD i 0) ys (Qbt B xs ys n i) i (Qin hB hx i) hy (QgA hB xs ys n hx hy i) ys.length
   exact QsM this.1 _ _ this.2 w h
theorem Qhz (B:Nat) (xs ys:List Nat) (n k:Nat):∀i,i+ys.length≤k→k<n→(Qbt B xs ys n i)[k]?=some 0
 | 0,_,hk=>by rw[Qbt,List.getElem?_replicate,if_pos hk]
 | i+1,h,hk=>by rw[Qbt,List.getElem?_set_ne (by omega),QgL _ _ _ _ _ _ _ (by omega),Qhz B xs ys n k i (by omega) hk]
theorem QhD {B:Nat} (xs ys:List Nat) (n:Nat):∀i,i≤xs.length→i+ys.length≤n→val B (Qbt B xs ys n i)=val B (xs.take i)*val B ys
 | 0,_,_=>by simp[Qbt,Qi2,val]
 | i+1,h1,h2=>by
   have ih:=QhD (B:=B) xs ys n i (by omega) (by omega)
   have hr:=Qjf (B:=B) (xs.getD i 0) ys (Qbt B xs ys n i) i ys.length (Qyv _) (by rw[QbY];omega)
   have hf:=QgL B (xs.getD i 0) ys (Qbt B xs ys n i) i (i+ys.length) ys.length (Qyv _)
   rw[Qhz B xs ys n _ i (Qyv _) (by omega)]at hf
   have hs:=Qk5 B (Qa9 B (xs.getD i 0) ys (Qbt B xs ys n i) i ys.length).1 (i+ys.length) (Qa9 B (xs.getD i 0) ys (Qbt B xs ys n i) i ys.length).2 (by rw[Qci,QbY];omega)
   have hf':(Qa9 B (xs.getD i 0) ys (Qbt B xs ys n i) i ys.length).1.getD (i+ys.length) 0=0:=by rw[Qyt,hf];rfl
   rw[hf',Nat.mul_zero,Qz3,hr,ih,List.take_length]at hs
   rw[Qbt,hs,Qds B xs i (by omega),QAr,Qzx]
end Go.Proofs.YtcbdgnlcknllnaaGreat
namespace Go.Proofs.YtcbdgnlcknllnaaGreat
open Go.RowKit
def B64:Nat:=18446744073709551616
def B32:Nat:=4294967296
theorem QaA:0<B64:=by decide
theorem Qfv:0<B32:=by decide
def n64 (n:Nat):Value:=W64 (QyM n)
def n32 (n:Nat):Value:=W32 (QyU n)
def n8 (n:Nat):Value:=W8 (Qy2 n)
@[go_sem] theorem Qxu (n:Nat):(n%B64<B64)=True:=eq_true (QyV _ QaA)
@[go_sem] theorem QxL (n:Nat):(n%B32<B32)=True:=eq_true (QyV _ Qfv)
theorem QfQ {n:Nat} {x:UInt64} (h:x.toNat=n%B64):W64 x=n64 n:=by
 unfold B64 at h
 rw[n64]
 congr 1
 apply Qz9.1
 rw[QyP,h]
theorem Qr3 {n:Nat} {x:UInt32} (h:x.toNat=n%B32):W32 x=n32 n:=by
 unfold B32 at h
 rw[n32]
 congr 1
 apply QAt.1
 rw[QAe,h]
theorem n8_w {n:Nat} {x:UInt8} (h:x.toNat=n%256):W8 x=n8 n:=by
 rw[n8]
 congr 1
 apply Qz2.1
 rw[QAj,h]
theorem Qsy {n m:Nat} (h:n%B64=m%B64):n64 n=n64 m:=by
 rw[n64]
 apply QfQ
 rw[QyP,←h]
 rfl
theorem QxE (x:UInt64):W64 x=n64 x.toNat:=by rw[n64,UInt64.ofNat_toNat]
theorem tn64 {n:Nat} (h:n<B64):(QyM n).toNat=n:=by
 unfold B64 at h
 rw[QyP]
 exact QyS h
theorem tn32 {n:Nat} (h:n<B32):(QyU n).toNat=n:=by
 unfold B32 at h
 rw[QAe]
 exact QyS h
theorem Qd0 {n:Nat} (h:n<B64):n64 n= .int .u64 (n:Int):=by rw[n64,W64,tn64 h]
theorem Qu9 {n:Nat} (h:n<B32):n32 n= .int .u32 (n:Int):=by rw[n32,W32,tn32 h]
theorem Qfk (k:Int) (h0:0≤k) (h1:k<18446744073709551616):Value.int .u64 k=n64 k.toNat:=by
 rw[Qd0 (by unfold B64;omega)]
 congr 1
 omega
theorem QtS (k:Int) (h0:0≤k) (h1:k<4294967296):Value.int .u32 k=n32 k.toNat:=by
 rw[Qu9 (by unfold B32;omega)]
 congr 1
 omega
@[go_sem ↓] theorem Qu7 (x:Nat):(n64 x).cells= #[n64 x]:=rfl
@[go_sem ↓] theorem QvY (x:Nat):(n32 x).cells= #[n32 x]:=rfl
@[go_sem ↓] theorem Qwe (x:Nat):(n8 x).cells= #[n8 x]:=rfl
theorem Qte (l:List Nat):∀v∈l.map n64,v.oneCell'=true:=by
 intro v hv
 obtain⟨x,_,rfl⟩:=Qy1.1 hv
 rfl
@[go_sem] theorem QwY:(0<B64)=True:=eq_true QaA
@[go_sem] theorem QxP:(1<B64)=True:=eq_true (by decide)
@[go_sem] theorem Qwb:(0<B32)=True:=eq_true Qfv
@[go_sem] theorem QxU:(1<B32)=True:=eq_true (by decide)
section
variable (T:TypeId) (ox oy:Operand)
@[go_sem] theorem Qtk (op:BinOp) (x y:Nat):eqGuard op T ox oy (n64 x) (n64 y)=pure ():=QaL ..
@[go_sem] theorem Qr7 (op:BinOp) (x:Nat) (k:IntKind) (y:Int):eqGuard op T ox oy (n64 x) (.int k y)=pure ():=QaL ..
@[go_sem] theorem Qss (op:BinOp) (x:Nat) (k:IntKind) (y:Int):eqGuard op T ox oy (.int k y) (n64 x)=pure ():=QaL ..
@[go_sem] theorem Qtp (op:BinOp) (x y:Nat):eqGuard op T ox oy (n32 x) (n32 y)=pure ():=QaL ..
@[go_sem] theorem Qsu (op:BinOp) (x:Nat) (k:IntKind) (y:Int):eqGuard op T ox oy (n32 x) (.int k y)=pure ():=QaL ..
@[go_sem] theorem QsT (op:BinOp) (x:Nat) (k:IntKind) (y:Int):eqGuard op T ox oy (.int k y) (n32 x)=pure ():=QaL ..
@[go_sem] theorem QoT (x y:Nat):binOp .add T (n64 x) (n64 y)=pure (n64 (x+y)):=by
  rw[n64,n64,QkY,QfQ]
  rw[UInt64.toNat_add,QyP,QyP]
  unfold B64
  omega
@[go_sem] theorem Qwo (x:Nat) (k:Int) (h0:0≤k) (h1:k<18446744073709551616):binOp .add T (n64 x) (.int .u64 k)=pure (n64 (x+k.toNat)):=by rw[Qfk k h0 h1,QoT]
@[go_sem] theorem Qv6 (x:Nat) (k:Int) (h0:0≤k) (h1:k<18446744073709551616):binOp .add T (.int .u64 k) (n64 x)=pure (n64 (k.toNat+x)):=by rw[Qfk k h0 h1,QoT]
@[go_sem] theorem Qx1 (x y:Nat) (hx:x<B64) (hy:y≤x):binOp .sub T (n64 x) (n64 y)=pure (n64 (x-y)):=by
  rw[n64,n64,Qk6,QfQ]
  unfold B64 at hx
  rw[UInt64.toNat_sub,QyP,QyP]
  unfold B64
  omega
@[go_sem] theorem Qkl (x y:Nat):binOp .mul T (n64 x) (n64 y)=pure (n64 (x*y)):=by
  rw[n64,n64,Qko,QfQ]
  rw[UInt64.toNat_mul,QyP,QyP]
  exact (QAm x y B64).symm
@[go_sem] theorem QwP (x:Nat) (k:Int) (h0:0≤k) (h1:k<18446744073709551616):binOp .mul T (n64 x) (.int .u64 k)=pure (n64 (x*k.toNat)):=by rw[Qfk k h0 h1,Qkl]
@[go_sem] theorem QwB (x:Nat) (k:Int) (h0:0≤k) (h1:k<18446744073709551616):binOp .mul T (.int .u64 k) (n64 x)=pure (n64 (k.toNat*x)):=by rw[Qfk k h0 h1,Qkl]
theorem Qex (x:Nat) (k:Nat):x &&& (2^k-1)=x%2^k:=Nat.and_two_pow_sub_one_eq_mod x k
@[go_sem] theorem Qu1 (x:Nat):binOp .and T (n64 x) (.int .u64 9223372036854775807)=pure (n64 (x%9223372036854775808)):=by
  rw[n64,Qiq _ _ _ (by omega) (by omega),QfQ]
  rw[UInt64.toNat_and,QyP,QyP]
  have:=Qex (x%2^64) 63
  unfold B64
  simp only[Int.reduceToNat,Nat.reducePow,Nat.reduceSub,Nat.reduceMod]at this ⊢
  rw[this]
  omega
@[go_sem] theorem Qvr (x:Nat):binOp .and T (n64 x) (.int .u64 4294967295)=pure (n64 (x%4294967296)):=by
  rw[n64,Qiq _ _ _ (by omega) (by omega),QfQ]
  rw[UInt64.toNat_and,QyP,QyP]
  have:=Qex (x%2^64) 32
  unfold B64
  simp only[Int.reduceToNat,Nat.reducePow,Nat.reduceSub,Nat.reduceMod]at this ⊢
  rw[this]
  omega
@[go_sem] theorem QuJ (x:Nat):binOp .and T (n64 x) (.int .u64 1)=pure (n64 (x%2)):=by
  rw[n64,Qiq _ _ _ (by omega) (by omega),QfQ]
  rw[UInt64.toNat_and,QyP,QyP]
  have:=Qex (x%2^64) 1
  unfold B64
  simp only[Int.reduceToNat,Nat.reducePow,Nat.reduceSub,Nat.reduceMod]at this ⊢
  rw[this]
  omega
@[go_sem] theorem QtM (x:Nat) (hx:x<B64) (yk:IntKind) (k:Int) (h0:0≤k):binOp .shr T (n64 x) (.int yk k)=pure (n64 (x/2^k.toNat)):=by
  rw[n64,QiP _ _ _ _ h0,QfQ]
  rw[Qij]
  show (BitVec.toNat _)=_
  rw[Qzy]
  show (QyM x).toNat >>> _=_
  rw[tn64 hx,Qzs]
  have:x/2^k.toNat<B64:=Qzw (Nat.div_le_self _ _) hx
  rw[QyS this]
@[go_sem] theorem Qt3 (x:Nat) (hx:x<B64) (k:Int) (h0:0<k) (h1:k<18446744073709551616):binOp .rem T (n64 x) (.int .u64 k)=pure (n64 (x%k.toNat)):=by
  rw[n64,Qq1 _ _ _ (by omega) h1 (by rw[QyP];omega),QfQ]
  rw[UInt64.toNat_mod,tn64 hx,QyP,QyS (show k.toNat<2^64 by omega),QyS (Qzw (Nat.mod_le _ _) hx)]
@[go_sem] theorem QuC (x:Nat):binOp .rem T (n64 x) (.int .u64 4294967296)=pure (n64 (x%B32)):=by
  rw[Qsy (show x%B64=(x%B64)%B64 by rw[QAw]),Qt3 _ _ (QyV _ QaA) _ (by omega) (by omega)]
  congr 2
  unfold B64 B32
  simp only[Int.reduceToNat]
  omega
theorem Qs4 (x y:Nat) (hx:x<B64) (hy:y<B64):binOp .eql T (n64 x) (n64 y)=pure (.bool (x==y)):=by
 rw[n64,n64,QkV]
 congr 2
 rw[Qy7]
 simp only[beq_iff_eq,←Qz9,tn64 hx,tn64 hy]
@[go_sem] theorem Qv9 (x:Nat) (k:Int) (hx:x<B64) (h0:0≤k) (h1:k<18446744073709551616):binOp .eql T (n64 x) (.int .u64 k)=pure (.bool (x==k.toNat)):=by
  rw[Qfk k h0 h1,Qs4 _ _ _ hx (by unfold B64;omega)]
@[go_sem] theorem QwF (x:Nat) (k:Int) (hx:x<B64) (h0:0≤k) (h1:k<18446744073709551616):binOp .gtr T (n64 x) (.int .u64 k)=pure (.bool (decide (k.toNat<x))):=by
  rw[Qfk k h0 h1,n64,n64,Qj7]
  congr 2
  rw[Qy7]
  simp only[decide_eq_true_eq,UInt64.lt_iff_toNat_lt,tn64 hx]
  rw[tn64 (show k.toNat<B64 by unfold B64;omega)]
@[go_sem] theorem Qxk (x y:Nat) (hx:x<B64) (hy:y<B64):binOp .lss T (n64 x) (n64 y)=pure (.bool (decide (x<y))):=by
  rw[n64,n64,Qj1]
  congr 2
  rw[Qy7]
  simp only[decide_eq_true_eq,UInt64.lt_iff_toNat_lt,tn64 hx,tn64 hy]
end
section
variable {P:Program} (w:World) (S D:TypeId)
@[go_sem] theorem Qle (x:Nat) (hx:x<B32) (hs:(P.underlying S).isSome=true) (hd:P.underlying D=some (.int .u64)):(convert S D (n32 x)).run P w= .ok (n64 x) w:=by
  rw[n32,Qes _ _ _ _ hs hd,QfQ]
  rw[UInt32.toNat_toUInt64,tn32 hx,QyS (show x<B64 by unfold B32 at hx;unfold B64;omega)]
@[go_sem] theorem Qkr (x:Nat) (hs:(P.underlying S).isSome=true) (hd:P.underlying D=some (.int .u32)):(convert S D (n64 x)).run P w= .ok (n32 x) w:=by
  rw[n64,Qep _ _ _ _ hs hd,Qr3]
  rw[UInt64.toNat_toUInt32,QyP]
  unfold B32
  omega
@[go_sem] theorem Ql1 (x:Nat) (hs:(P.underlying S).isSome=true) (hd:P.underlying D=some (.int .u8)):(convert S D (n64 x)).run P w= .ok (n8 x) w:=by
  rw[n64,QeG _ _ _ _ hs hd,n8_w]
  rw[UInt64.toNat_toUInt8,QyP]
  omega
@[go_sem] theorem Qrr (P:Program) (w:World) (a:Addr) (m:Mode) (x:Nat):(store a (n64 x) m).run P w=stored P w a (n64 x) m:=run_store P w a _ m rfl
@[go_sem] theorem Qrk (P:Program) (w:World) (a:Addr) (m:Mode) (x:Nat):(store a (n32 x) m).run P w=stored P w a (n32 x) m:=run_store P w a _ m rfl
@[go_sem] theorem QsG (P:Program) (w:World) (a:Addr) (m:Mode) (x:Nat):(store a (n8 x) m).run P w=stored P w a (n8 x) m:=run_store P w a _ m rfl
end
def EL (n:Nat):List Value:=(dig B64 4 n).map n64
abbrev E (n:Nat):Value:=.agg (EL n).toArray
theorem Qai (n:Nat):(EL n).length=4:=by rw[EL,Qyo,QaG]
def lim (n i:Nat):Nat:=n/B64^i%B64
@[go_sem] theorem Qyg (n i:Nat):(lim n i<B64)=True:=eq_true (QyV _ QaA)
theorem QbP (n i:Nat) (h:i<4):(EL n)[i]?=some (n64 (lim n i)):=by rw[EL,QyF,Qez _ _ _ _ h];rfl
@[go_sem] theorem Qog (n i:Nat) (h:i<(EL n).length):(EL n)[i]=n64 (lim n i):=by
  have:=QbP n i (by rw[Qai]at h;exact h)
  rw[Qyq h]at this
  exact Option.some.inj this
theorem Qfq (x y c:Nat) (hx:x<B64) (hy:y<B64) (hc:c≤1) (w:World):
 (callFunc 172 #[n64 x,n64 y,n64 c]).run Tryz.prog w= .ok (.value (.tuple #[n64 ((x+y+c)%B64),n64 ((x+y+c)/B64)])) w:=by
 rw[Qd0 hx,Qd0 hy,Qd0 (show c<B64 by unfold B64;omega),run_callFunc_extern Tryz.func172 (by kernel_rfl) (by kernel_rfl) (by kernel_rfl) (e:=add64Entry) (by kernel_rfl),run_add64 _ _ _ (by omega) (by omega) (by omega) (by omega)]
 simp only[Result.andThen]
 rw[Qd0 (QyV _ QaA),Qd0 (show (x+y+c)/B64<B64 by unfold B64 at *;omega)]
 congr 5<;>(unfold B64;omega)
@[go_sem high] theorem run_add64 (x y c:Nat) (hx:x<B64) (hy:y<B64) (hc:c≤1) (w:World):
   (callFunc 172 #[n64 x,n64 y,n64 c]).run Tryz.prog w= .ok (.value (.tuple #[n64 ((x+y+c)%B64),n64 ((x+y+c)/B64)])) w:=Qfq x y c hx hy hc w
@[go_sem high] theorem Qut (x y:Nat) (hx:x<B64) (hy:y<B64) (w:World):
   (callFunc 172 #[n64 x,n64 y,.int .u64 0]).run Tryz.prog w= .ok (.value (.tuple #[n64 ((x+y)%B64),n64 ((x+y)/B64)])) w:=Qfq x y 0 hx hy (by omega) w
@[go_sem high] theorem QtI (x c:Nat) (hx:x<B64) (hc:c≤1) (w:World):
   (callFunc 172 #[n64 x,.int .u64 0,n64 c]).run Tryz.prog w= .ok (.value (.tuple #[n64 ((x+c)%B64),n64 ((x+c)/B64)])) w:=Qfq x 0 c hx QaA hc w
theorem QlS (n:Nat):∀v∈EL n,v.oneCell'=true:=Qte _
theorem Qje {B n:Nat} (h:n<B) (k:Nat) (hk:0<k):n/B^k%B=0:=by
 rw[Qzq (QyL h (Nat.le_pow (by omega))),Nat.zero_mod]
set_option maxHeartbeats 1000000 in
theorem QeZ (a n:Nat) (hn:n<B64) (w:World):
 Calls Tryz.prog 153 #[E a,n64 n] w fun e w'=>e= .returned (.tuple #[E (a+n),n64 ((a%B64^4+n)/B64^4)])∧Later w w':=by
 have hlS:=Qai (a+n)
 have hlA:=Qai a
 have hb:Blk ((w.alloc (.cells (EL a).toArray 228)).alloc (.cells (Qyl 4 (.int .u64 0)).toArray 228)) w.heap.size 228 (EL a):=(Blk.new _ _ _).later (Qaa _ _)
 have hr:Blk ((w.alloc (.cells (EL a).toArray 228)).alloc (.cells (Qyl 4 (.int .u64 0)).toArray 228)) (w.heap.size+1) 228 (Qyl 4 (.int .u64 0)):=Blk.new' _ _ _ (by simp)
 go_enter Tryz.func153,Tryz.ntmps153
 go_wp2_with (first
  | (refine Qag rfl rfl _ _ _ rfl _ _ _ _ hb rfl ?hl rfl (by kernel_rfl) ?_;(case hl=>omega);intro v w1 hv hb1 ho1;simp[go_sem]at hv;subst hv))
 have e0:(lim a 0+n)%B64=lim (a+n) 0:=by
  simp[lim]
 have e1:(lim a 0+n)/B64=carr B64 a n 0 1:=by
  simp[carr,lim,QyS hn]
 rw[e0,←Qb6 (EL (a+n)) (EL a),QbI _ _ _ _ (by omega) (by omega) (QbP (a+n) 0 (by omega))]at hb1
 have HE:=hid e1
 clear e0 e1
 have L1:Later w w1:=((Qaa _ _).trans (Qaa _ _)).only ho1 (Qyv _)
 have hr1:=hr.only ho1 (by omega)
 go_loopw [6,7] (fun c i wr=>∃k:Nat,1≤k∧k≤4∧i= .int .i64 k∧c=n64 (carr B64 a n 0 k)∧Blk wr w.heap.size 228 (Qb1 (EL (a+n)) (EL a) k)∧Blk wr (w.heap.size+1) 228 (Qyl 4 (.int .u64 0))∧Later w wr) (fun _ i _=>4-(intOf i).toNat)
 case atStart=>exact⟨1,by omega,by omega,rfl,by rw[HE.out],hb1,hr1,L1⟩
 case round=>
  clear hb hr hb1 hr1 L1 ho1 HE
  obtain⟨k,hk1,hk4,rfl,rfl,hb,hr,L⟩:=hrel
  by_cases hlt:k<4
  ·have hc:=Qn0 QaA a n 0 k (by omega)
   have S0:=hid (Qqf QaA a n 0 k)
   have S1:=hid (QjL QaA a n 0 k)
   have d0:=hb.cellD k (u:=n64 (lim a k)) (by rw[Qfh _ _ _ _ (by omega) (Qyv _) (by omega)];exact QbP a k hlt)
   generalize carr B64 a n 0 k=c at *
   go_wp2_with (first
    | (refine Qag rfl rfl _ _ _ rfl _ _ _ _ hb rfl ?hl rfl (by kernel_rfl) ?_;(case hl=>rw[Qbc _ _ _ (by omega)];omega);intro v w2 hv hb2 ho2;simp[go_sem]at hv;subst hv))
   go_roundw
   case rel=>
    have z:n/B64^k%B64=0:=Qje hn k hk1
    have e0:=S0.out
    have e1:=S1.out
    rw[z]at e0 e1
    rw[QbI _ _ _ _ (by omega) (by omega) (by rw[QbP (a+n) k hlt,lim,lim,←Qz3 (a+n),←e0,Qz3])]at hb2
    exact⟨k+1,by omega,by omega,by go_num,by rw[←e1];rfl,hb2,hr.only ho2 (by omega),L.only ho2 (Qyv _)⟩
   case measure=>simp[intOf];omega
  ·obtain rfl:k=4:=by omega
   have hcE:carr B64 a n 0 4=(a%B64^4+n)/B64^4:=by
    rw[carr,QyS (show n<B64^4 from QyL hn (Nat.le_pow (by omega)))]
    rfl
   rw[Qcu _ _ _ hlS hlA]at hb
   have HC:=hid hcE
   clear hcE
   go_wp2_with (first
    | (refine Qau rfl 228 _ rfl w.heap.size 0 (EL (a+n)) ?hc ?hx _ Tryz.underlying228 rfl ?hi ?_;(case hx=>rfl);(case hi=>rw[hlS];kernel_rfl);(case hc=>intro j v hv;rw[QyE];exact hb.cellD j hv))
    | (refine Qal rfl rfl 228 _ _ rfl (w.heap.size+1) 0 228 _ (EL (a+n)) hr ?hx ?hy ?hi ?hf ?h1 ?_;(case hx=>rfl);(case hy=>rfl);(case hi=>rw[hlS];kernel_rfl);(case hf=>simp[hlS]);(case h1=>exact QlS _);intro w9 hb9 ho9))
   rw[Qap _ _ (by simp[hlS])]at hb9
   exact bodyPost_ret (Qaf rfl _ _ _ _ (EL (a+n)) _ hb9 rfl Tryz.underlying228 rfl (by rw[hlS];kernel_rfl)) rfl ⟨by rw[←HC.out];rfl,L.only ho9 (by omega)⟩
def P25:Nat:=57896044618658097711785492504343953926634992332820282019728792003956564819949
def T255:Nat:=57896044618658097711785492504343953926634992332820282019728792003956564819968
def T256:Nat:=115792089237316195423570985008687907853269984665640564039457584007913129639936
theorem QcB:B64^4=T256:=by decide
theorem QbK:0<P25:=by decide
theorem QpQ (n:Nat) (hn:n<T256):∃u,u=n%T255+19*(n/T255)∧(u+19<T255→u=n%P25)∧(T255≤u+19→u+19<T256∧u+19-T255=n%P25):=by
 refine⟨_,rfl,?_,?_⟩<;>unfold T255 P25 at* <;>unfold T256 at* <;>omega
theorem lim3 (n:Nat) (hn:n<T256):lim n 3/9223372036854775808=n/T255:=by
 unfold lim B64 T255
 unfold T256 at hn
 omega
theorem QlD (n:Nat):(EL n).set 3 (n64 (lim n 3%9223372036854775808))=EL (n%T255):=by
 have h0:lim n 0=lim (n%T255) 0:=by unfold lim T255 B64;omega
 have h1:lim n 1=lim (n%T255) 1:=by unfold lim T255 B64;omega
 have h2:lim n 2=lim (n%T255) 2:=by unfold lim T255 B64;omega
 have h3:lim n 3%9223372036854775808=lim (n%T255) 3:=by unfold lim T255 B64;omega
 have e:∀m,EL m=[n64 (lim m 0),n64 (lim m 1),n64 (lim m 2),n64 (lim m 3)]:=by
  intro m
  apply List.ext_getElem (Qai m)
  intro i hi1 hi2
  rw[Qog]
  have:i=0∨i=1∨i=2∨i=3:=by rw[Qai]at hi1;omega
  rcases this with rfl|rfl|rfl|rfl<;>rfl
 rw[e,e,h0,h1,h2,h3]
 rfl
theorem Qft:(Tryz.prog.info? 228).map (·.size)=some 4:=by kernel_rfl
section
variable {ops:Array Oper} {rest:List Oper} {o:Oper} {a:Act} {w:World} {Q:Exit→Act→World→Prop}
theorem Qa6 (hgd:Region.wanted o (yielded ops a.tmps)=true) (x:Operand) (ho:o.op= .load 228 x) {g:Nat} {t:TypeId} {n:Nat} (hb:Blk w g t (EL n)) (hx:a.eval x= .pointer (some ⟨g,0,none⟩))
 (h:wpList Tryz.prog ops Q rest (a.put o.dst (E n)) w):wpList Tryz.prog ops Q (o :: rest) a w:=
 Qby hgd _ x ho g t _ hb hx _ Tryz.underlying228 rfl 4 Qft (Qai n) h
theorem Qav (hgd:o.guard=none) (hd:o.dst=none) (x y:Operand) (ho:o.op= .store 228 x y) {g:Nat} {t:TypeId} {l:List Value} {n:Nat} (hg:Blk w g t l) (hx:a.eval x= .pointer (some ⟨g,0,none⟩)) (hy:a.eval y=E n) (hl:l.length=4)
 (h:∀w',Blk w' g t (EL n)→Only g w w'→wpList Tryz.prog ops Q rest a w'):wpList Tryz.prog ops Q (o :: rest) a w:=
 Qae hgd hd _ x y ho g t l _ hg hx hy 4 Qft (Qai n) hl (QlS n) h
theorem Qfb {fn:Func} {p:Tmp} (hf:fn.results= #[.cell p 228]) {tmps:Array Value} {g:Nat} {t:TypeId} {n:Nat} (hg:Blk w g t (EL n)) (hp:tmps.getD p undef= .pointer (some ⟨g,0,none⟩)):
 (results fn tmps).run Tryz.prog w= .ok (E n) w:=QaK hf tmps w g t _ _ hg hp Tryz.underlying228 rfl (by rw[Qai];exact Qft)
theorem QbH {K:Act→Prop} (x:Operand) (ho:o.op= .load 228 x) {w0:World} {g:Nat} {t:TypeId} {n:Nat} (hb:Blk w0 g t (EL n)) (hx:a.eval x= .pointer (some ⟨g,0,none⟩)) (h:K (a.put o.dst (E n))):
 o.quiet Tryz.prog a (fun w'=>∃x,w'=grow w0 x) K:=
 QaQ _ x ho g 0 (EL n) (fun w' hw j v hv=>by obtain⟨y,rfl⟩:=hw;rw[QyE];exact (hb.later ⟨y,rfl⟩).cellD j hv) hx _ Tryz.underlying228 rfl (by rw[Qai];exact Qft) h
end
theorem Qn6 (a:Nat) (w:World):Calls Tryz.prog 153 #[E a,.int .u64 19] w fun e w'=>e= .returned (.tuple #[E (a+19),n64 ((a%B64^4+19)/B64^4)])∧Later w w':=QeZ a 19 (by decide) w
set_option maxHeartbeats 1000000 in
theorem QcW (n:Nat) (hn:n<T256) (w:World):
 Calls Tryz.prog 132 #[E n] w fun e w'=>e= .returned (E (n%P25))∧Later w w':=by
 obtain⟨u,hu,hu1,hu2⟩:=QpQ n hn
 have hl3:=lim3 n hn
 have hq:n/T255≤1:=by unfold T255;unfold T256 at hn;omega
 have hus:u<T256:=by unfold T255 at hu;unfold T256 at *;omega
 have hus':u+19<T256:=by unfold T255 at hu;unfold T256 at *;omega
 have hlu:=lim3 (u+19) hus'
 have HQ:=hid hl3
 have HU:=hid hu
 have HL:=hid hlu
 clear hl3 hu hlu
 have hlS:=Qai n
 have hb:Blk ((w.alloc (.cells (EL n).toArray 228)).alloc (.cells (Qyl 4 (.int .u64 0)).toArray 228)) w.heap.size 228 (EL n):=(Blk.new _ _ _).later (Qaa _ _)
 have hr:Blk ((w.alloc (.cells (EL n).toArray 228)).alloc (.cells (Qyl 4 (.int .u64 0)).toArray 228)) (w.heap.size+1) 228 (Qyl 4 (.int .u64 0)):=Blk.new' _ _ _ (by simp)
 have hcs:u+19<T255∧(u+19)/T255=0∨T255≤u+19∧(u+19)/T255=1:=by unfold T255;unfold T256 at hus';omega
 rcases hcs with ⟨hlt,hz⟩|⟨hge,hz⟩
 ·have hz':lim (u+19) 3/9223372036854775808=0:=HL.out.trans hz
  have hR:=hid (hu1 hlt)
  clear hz hu1 hu2
  go_enter Tryz.func132,Tryz.ntmps132
  go_wp2_with (first
   | (refine Qag rfl rfl _ _ _ rfl _ _ _ _ hb rfl ?hl rfl (by kernel_rfl) ?_;(case hl=>omega);intro v w1 hv hb1 ho1;simp[go_sem]at hv;subst hv
      rw[QlD]at hb1
      have hr1:=hr.only ho1 (by omega)
      have L1:Later w w1:=((Qaa _ _).trans (Qaa _ _)).only ho1 (Qyv _)
      clear hb hr ho1)
   | (refine Qa6 rfl _ rfl hb1 rfl ?_)
   | (go_at_call 153;(with_reducible refine (QeZ (n%T255) _ ?hb19 _).mono ?_);(case hb19=>rw[HQ.out];unfold B64;omega);rintro e w2 ⟨rfl,hl2⟩;rw[HQ.out,←HU.out]
      replace hb1:=hb1.later hl2
      have hr2:=hr1.later hl2
      have L2:=L1.trans hl2
      clear hr1 L1 hl2)
   | (refine Qav rfl rfl _ _ rfl hb1 rfl rfl (Qai _) ?_;intro w3 hb3 ho3
      have hr3:=hr2.only ho3 (by omega)
      have L3:=L2.only ho3 (Qyv _)
      clear hr2 L2 ho3 hb1)
   | (refine Qa6 rfl _ rfl hb3 rfl ?_)
   | (go_at_call 153;(with_reducible refine (Qn6 u _).mono ?_);rintro e w4 ⟨rfl,hl4⟩
      have hb4:=(hb3.later hl4).later (Qaa _ (.cells (Qyl 4 (.int .u64 0)).toArray 228))
      have hr4:=(hr3.later hl4).later (Qaa _ (.cells (Qyl 4 (.int .u64 0)).toArray 228))
      have L4:=(L3.trans hl4).alloc (.cells (Qyl 4 (.int .u64 0)).toArray 228)
      have hs4:=hr3.lt
      have hs5:=hl4.size
      have hn4:Blk (w4.alloc (.cells (Qyl 4 (.int .u64 0)).toArray 228)) w4.heap.size 228 (Qyl 4 (.int .u64 0)):=Blk.new _ _ _
      clear hr3 L3 hl4 hb3)
   | (refine Qav rfl rfl _ _ rfl hn4 rfl rfl rfl ?_;intro w5 hb5 ho5
      have hu5:=hb4.only ho5 (by omega)
      have hr5:=hr4.only ho5 (by omega)
      have L5:=L4.only ho5 (by omega)
      have d5:=hb5.cellD 3 (QbP _ 3 (by omega))
      clear hr4 L4 ho5 hb4)
   | (refine Qa6 rfl _ rfl hu5 rfl ?_)
   | (refine Qav rfl rfl _ _ rfl hr5 rfl rfl rfl ?_;intro w6 hb6 ho6))
  exact bodyPost_ret (Qfb rfl hb6 rfl) rfl ⟨by rw[hR.out],L5.only ho6 (by omega)⟩
 ·have hz':lim (u+19) 3/9223372036854775808=1:=HL.out.trans hz
  obtain⟨_,hu3⟩:=hu2 hge
  have hm:(u+19)%T255=n%P25:=by rw[←hu3];unfold T255 at *;unfold T256 at *;omega
  have hR:=hid hm
  clear hz hu1 hu2 hu3 hm
  go_enter Tryz.func132,Tryz.ntmps132
  go_wp2_with (first
   | (refine Qag rfl rfl _ _ _ rfl _ _ _ _ hb rfl ?hl rfl (by kernel_rfl) ?_;(case hl=>omega);intro v w1 hv hb1 ho1;simp[go_sem]at hv;subst hv
      rw[QlD]at hb1
      have hr1:=hr.only ho1 (by omega)
      have L1:Later w w1:=((Qaa _ _).trans (Qaa _ _)).only ho1 (Qyv _)
      clear hb hr ho1)
   | (refine Qa6 rfl _ rfl hb1 rfl ?_)
   | (go_at_call 153;(with_reducible refine (QeZ (n%T255) _ ?hb19 _).mono ?_);(case hb19=>rw[HQ.out];unfold B64;omega);rintro e w2 ⟨rfl,hl2⟩;rw[HQ.out,←HU.out]
      replace hb1:=hb1.later hl2
      have hr2:=hr1.later hl2
      have L2:=L1.trans hl2
      clear hr1 L1 hl2)
   | (refine Qav rfl rfl _ _ rfl hb1 rfl rfl (Qai _) ?_;intro w3 hb3 ho3
      have hr3:=hr2.only ho3 (by omega)
      have L3:=L2.only ho3 (Qyv _)
      clear hr2 L2 ho3 hb1)
   | (refine Qa6 rfl _ rfl hb3 rfl ?_)
   | (go_at_call 153;(with_reducible refine (Qn6 u _).mono ?_);rintro e w4 ⟨rfl,hl4⟩
      have hb4:=(hb3.later hl4).later (Qaa _ (.cells (Qyl 4 (.int .u64 0)).toArray 228))
      have hr4:=(hr3.later hl4).later (Qaa _ (.cells (Qyl 4 (.int .u64 0)).toArray 228))
      have L4:=(L3.trans hl4).alloc (.cells (Qyl 4 (.int .u64 0)).toArray 228)
      have hs4:=hr3.lt
      have hs5:=hl4.size
      have hn4:Blk (w4.alloc (.cells (Qyl 4 (.int .u64 0)).toArray 228)) w4.heap.size 228 (Qyl 4 (.int .u64 0)):=Blk.new _ _ _
      clear hr3 L3 hl4 hb3)
   | (refine Qav rfl rfl _ _ rfl hn4 rfl rfl rfl ?_;intro w5 hb5 ho5
      have hu5:=hb4.only ho5 (by omega)
      have hr5:=hr4.only ho5 (by omega)
      have L5:=L4.only ho5 (by omega)
      have d5:=hb5.cellD 3 (QbP _ 3 (by omega))
      clear hr4 L4 ho5 hb4)
   | (refine Qag rfl rfl _ _ _ rfl _ _ _ _ hb5 rfl ?hl rfl (by kernel_rfl) ?_;(case hl=>rw[Qai];omega);intro v w6 hv hb6 ho6;simp[go_sem]at hv;subst hv
      rw[QlD,hR.out]at hb6
      have hr6:=hr5.only ho6 (by omega)
      have L6:=L5.only ho6 (by omega))
   | (refine Qa6 rfl _ rfl hb6 rfl ?_)
   | (refine Qav rfl rfl _ _ rfl hr6 rfl rfl rfl ?_;intro w7 hb7 ho7))
  exact bodyPost_ret (Qfb rfl hb7 rfl) rfl ⟨rfl,L6.only ho7 (by omega)⟩
theorem Qp2 {a a' b b':Value} (h:a=a') (h':b=b'):Ending.returned (.tuple #[a,b])= .returned (.tuple #[a',b']):=by rw[h,h']
set_option maxHeartbeats 1000000 in
theorem Qp4 (x y:Nat) (hx:x<B64) (hy:y<B64) (w:World):
 Calls Tryz.prog 173 #[n64 x,n64 y] w fun e w'=>e= .returned (.tuple #[n64 (x*y/B64),n64 (x*y%B64)])∧w=w':=by
 have hB:B64=18446744073709551616:=rfl
 obtain⟨bd,bt,bw,hhi⟩:=Lib.mul64_hi x y hx hy
 rw[←hB]at hhi bd bt bw
 have HH:=hid hhi
 clear hhi hB
 go_enter Tryz.func173,Tryz.ntmps173
 go_wp2
 go_ret2
 exact⟨Qp2 (congrArg n64 HH.out) (Qsy (QAw (x*y) B64).symm),rfl⟩
theorem Qo3 (p m c:Nat):p/B64+(p%B64+m)/B64+((p+m)%B64+c)/B64=(p+m+c)/B64:=by
 unfold B64
 omega
set_option maxHeartbeats 1000000 in
theorem Qlo (x y m c:Nat) (hx:x<B64) (hy:y<B64) (hm:m<B64) (hc:c<B64) (w:World):
 Calls Tryz.prog 156 #[n64 x,n64 y,n64 m,n64 c] w fun e w'=>e= .returned (.tuple #[n64 ((x*y+m+c)%B64),n64 ((x*y+m+c)/B64)])∧w=w':=by
 have H2:=hid (Qo3 (x*y) m c)
 go_enter Tryz.func156,Tryz.ntmps156
 go_wp2_with (go_at_call 173;(with_reducible refine (Qp4 x y hx hy _).mono ?_);rintro e w' ⟨rfl,rfl⟩)
 go_ret2
 exact⟨Qp2 rfl (congrArg n64 H2.out),rfl⟩
set_option maxHeartbeats 1000000 in
theorem Qlv (a b:Nat) (hsum:a+b<T256) (w:World):
 Calls Tryz.prog 154 #[E a,E b] w fun e w'=>e= .returned (E ((a+b)%P25))∧Later w w':=by
 have hlS:=Qai (a+b)
 have hlA:=Qai a
 go_enter Tryz.func154,Tryz.ntmps154
 go_wp2
 go_loopw [5,7] (fun c i wr=>∃k:Nat,k≤4∧i= .int .i64 k∧c=n64 (carr B64 a b 0 k)∧Blk wr w.heap.size 228 (Qb1 (EL (a+b)) (EL a) k)∧Blk wr (w.heap.size+1) 228 (EL b)∧Blk wr (w.heap.size+1+1) 228 (Qyl 4 (.int .u64 0))∧Later w wr) (fun _ i _=>4-(intOf i).toNat)
 case atStart=>
  refine⟨0,by omega,rfl,by rw[Qpd];rfl,?_,?_,Blk.new' _ _ (Qyl 4 (Value.int .u64 0)) (by simp),((Qaa _ _).trans (Qaa _ _)).trans (Qaa _ _)⟩
  ·rw[Qb6]
   exact ((Blk.new _ _ _).later (Qaa _ _)).later (Qaa _ _)
  ·exact (Blk.new' _ _ _ (by simp)).later (Qaa _ _)
 case round=>
  obtain⟨k,hk4,rfl,rfl,h1,h2,h3,L⟩:=hrel
  by_cases hlt:k<4
  ·have hc:=Qn0 QaA a b 0 k (by omega)
   have S0:=hid (Qqf QaA a b 0 k)
   have S1:=hid (QjL QaA a b 0 k)
   have d0:=h1.cellD k (u:=n64 (lim a k)) (by rw[Qfh _ _ _ _ (by omega) (Qyv _) (by omega)];exact QbP a k hlt)
   have d1:=h2.cellD k (QbP b k hlt)
   generalize carr B64 a b 0 k=c at *
   go_wp2
   refine Qad [([0,1,2,3,4,5,6,7],8)] [9,10,11,12] [13,14] (by as_aux_lemma=>kernel_rfl) (by as_aux_lemma=>kernel_rfl) (by intro _ _ d _ _ h;cases d<;>exact h) ?_
   simp only[Qaj,pick,Qym,Qyn,Qyp,Qys,Qyr]
   repeat (go_big_quiet_step (fail))
   refine wpQuiet_nil ?_
   go_wp2
   try refine⟨by first|assumption|exact Qab _|exact Qaa _ _|exact Later.refl _,?_⟩
   try simp only[Qaj,pick,Qym,Qyn,Qyp,Qys,Qyr]
   repeat (go_big_quiet_step (fail))
   refine wpQuiet_nil ?_
   go_wp2_with (first
    | (refine Qag rfl rfl _ _ _ rfl _ _ _ _ h1.drew rfl ?hl rfl (by kernel_rfl) ?_;(case hl=>rw[Qbc _ _ _ (by omega)];omega);intro v w2 hv hb2 ho2;simp[go_sem]at hv;subst hv))
   go_roundw
   case rel=>
    rw[QbI _ _ _ _ (by omega) (by omega) (by rw[QbP (a+b) k hlt,lim,lim,lim,←Qz3 (a+b),←S0.out])]at hb2
    exact⟨k+1,by omega,by go_num,by rw[←S1.out];rfl,hb2,h2.drew.only ho2 (by omega),h3.drew.only ho2 (by omega),(L.trans (Qab _)).only ho2 (Qyv _)⟩
   case measure=>simp[intOf];omega
  ·obtain rfl:k=4:=by omega
   rw[Qcu _ _ _ hlS hlA]at h1
   go_wp2_with (first
    | (refine Qa6 rfl _ rfl h1 rfl ?_)
    | (go_at_call 132;(with_reducible refine (QcW (a+b) hsum _).mono ?_);rintro e w2 ⟨rfl,hl2⟩
       have h32:=h3.later hl2
       have L2:=L.trans hl2)
    | (refine Qav rfl rfl _ _ rfl h32 rfl rfl rfl ?_;intro w3 hb3 ho3))
   exact bodyPost_ret (Qfb rfl hb3 rfl) rfl ⟨rfl,L2.only ho3 (by omega)⟩
def mcar (B x a b k:Nat):Nat:=(x*(a%B^k)+b%B^k)/B^k
theorem Qpi (B x a b:Nat):mcar B x a b 0=0:=by simp[mcar,Nat.mod_one]
theorem Qo7 {B:Nat} (hB:0<B) (x a b k:Nat):(x*(a/B^k%B)+b/B^k%B+mcar B x a b k)/B=mcar B x a b (k+1):=by
 have hp:0<B^k:=QAl hB
 rw[mcar,mcar,QbN,QbN,QzH,←Qzv]
 congr 1
 have e:x*(a%B^k+B^k*(a/B^k%B))+(b%B^k+B^k*(b/B^k%B))=(x*(a%B^k)+b%B^k)+B^k*(x*(a/B^k%B)+b/B^k%B):=by
  rw[Qzi,Qzi,QAd x]
  omega
 rw[e,QzG _ _ hp,Nat.add_comm]
theorem mdig {B:Nat} (hB:0<B) (x a b k:Nat):(x*(a/B^k%B)+b/B^k%B+mcar B x a b k)%B=(x*a+b)/B^k%B:=by
 have hp:0<B^k:=QAl hB
 have ea:=Qzm a (B^k)
 have eb:=Qzm b (B^k)
 have e:x*a+b=(x*(a%B^k)+b%B^k)+B^k*(x*(a/B^k)+b/B^k):=by
  have:x*a=x*(a%B^k)+B^k*(x*(a/B^k)):=by
   rw[QAd,←Qzi,Nat.add_comm,ea]
  rw[Qzi]
  omega
 rw[e,QzG _ _ hp,←mcar,Nat.add_comm (mcar B x a b k),QAs,QAs (x*(a/B^k)+b/B^k),QAs (x*(a/B^k%B)),Nat.mul_mod_mod,QAw,←QAs (x*(a/B^k))]
theorem Quq {B x:Nat} (hx:x<B) (a b k:Nat):mcar B x a b k≤x:=by
 have hp:0<B^k:=QAl (by omega)
 rw[mcar]
 refine Nat.le_of_lt_succ (Qzu ?_)
 have h1:=QyV a hp
 have h2:=QyV b hp
 have h3:x*(a%B^k)≤x*(B^k-1):=QzY x (by omega)
 rw[Nat.mul_sub,Qzb]at h3
 have h4:x≤x*B^k:=Qzg x hp
 rw[Nat.succ_eq_add_one,Qzi,Qzb,Qzt (B^k)]
 omega
theorem Qqq (a b:Nat) (ha:a<T256) (hb:b<T256) (S c o c2:Nat) (hS:S=38*(a*b/T256)+a*b%T256) (hc:c=S/T256) (ho:o=S%T256) (h2:c2=(o+38*c)/T256):
 c≤38∧c2≤1∧(o+38*c)%T256+38*c2<T256∧((o+38*c)%T256+38*c2)%P25=a*b%P25:=by
 have h:a*b≤(T256-1)*(T256-1):=Nat.mul_le_mul (by omega) (by omega)
 generalize a*b=X at *
 have h3:X/T256<T256:=by
  refine Qzu (Qzw h ?_)
  decide
 have hd:=Qzm X T256
 have hm:=QyV X (show 0<T256 by decide)
 generalize X/T256=H at *
 generalize X%T256=L at *
 unfold T256 P25 at *
 omega
def WL (n:Nat):List Value:=(dig B64 8 n).map n64
theorem QsQ (n i:Nat) (h:i<8):(WL n)[i]?=some (n64 (lim n i)):=by rw[WL,QyF,Qez _ _ _ _ h];rfl
theorem QtB (a b:Nat) (ha:a<B64^4) (hb:b<B64^4):(Qbt B64 (dig B64 4 a) (dig B64 4 b) 8 4).map n64=WL (a*b):=by
 have hl:=QbY B64 (dig B64 4 a) (dig B64 4 b) 8 4
 have hlt:=QgA QaA (dig B64 4 a) (dig B64 4 b) 8 (Qeh QaA 4 a) (Qeh QaA 4 b) 4
 have hv:=QhD (B:=B64) (dig B64 4 a) (dig B64 4 b) 8 4 (by rw[QaG];omega) (by rw[QaG];omega)
 rw[QyA (by rw[QaG];omega),Qfr,Qfr,QyS ha,QyS hb]at hv
 have:=Qp9 _ hlt
 rw[hl,hv]at this
 rw[WL,this]
theorem Qvt (n i:Nat):lim n (i+4)=lim (n/T256) i:=by
 rw[lim,lim,←QcB,Qzv,←Qz8,Nat.add_comm]
theorem Qu0 (n i:Nat) (h:i<4):lim n i=lim (n%T256) i:=by
 rw[lim,lim,←QfY B64 4 n i h,←QfY B64 4 _ i h,←QcB,Qio]
theorem QnW (l:List Nat) (i v:Nat):(l.map n64).set i (n64 v)=(l.set i v).map n64:=by rw[QAu]
theorem Qul (l:List Nat) (i:Nat) (h:i<l.length):(l.map n64)[i]?=some (n64 (l.getD i 0)):=by
 rw[QyF,Qyt,Qyq h]
 rfl
theorem Qqc {n m:Nat} (h:n%T256=m%T256):EL n=EL m:=by
 rw[EL,EL,←Qio,←Qio (n:=m),QcB,h]
theorem Qsa {n m:Nat} (h:n%T256=m%T256):E n=E m:=by rw[E,E,Qqc h]
theorem Qus (x m c:Nat) (hx:x<B64) (hm:m<B64) (hc:c<B64) (w:World):
 Calls Tryz.prog 156 #[n64 x,.int .u64 38,n64 m,n64 c] w fun e w'=>e= .returned (.tuple #[n64 ((x*38+m+c)%B64),n64 ((x*38+m+c)/B64)])∧w=w':=Qlo x 38 m c hx (by decide) hm hc w
theorem QkF (B:Nat) (xs ys:List Nat) (n i x m:Nat) (hx:xs.getD i 0=x) (hm:ys.length=m):Qbt B xs ys n (i+1)=(Qa9 B x ys (Qbt B xs ys n i) i m).1.set (i+m) (Qa9 B x ys (Qbt B xs ys n i) i m).2:=by
 subst hx
 subst hm
 rfl
theorem Qm3 (B x:Nat) (ys ws:List Nat) (i j y:Nat) (hy:ys.getD j 0=y):Qa9 B x ys ws i (j+1)=((Qa9 B x ys ws i j).1.set (i+j) ((x*y+(Qa9 B x ys ws i j).1.getD (i+j) 0+(Qa9 B x ys ws i j).2)%B),
 (x*y+(Qa9 B x ys ws i j).1.getD (i+j) 0+(Qa9 B x ys ws i j).2)/B):=by
 subst hy
 rfl
set_option maxRecDepth 100000 in
set_option maxHeartbeats 4000000 in
theorem QcX (a b:Nat) (ha:a<T256) (hb:b<T256) (w:World):
 Calls Tryz.prog 137 #[E a,E b] w fun e w'=>e= .returned (E (a*b%P25))∧Later w w':=by
 have HP:=hid (QtB a b (by rw[QcB];exact ha) (by rw[QcB];exact hb))
 have hla:=fun i (h:i<4)=>QfY B64 4 a i h
 have hlb:=fun i (h:i<4)=>QfY B64 4 b i h
 have hal:=Qeh QaA 4 a
 have hbl:=Qeh QaA 4 b
 have hAl:=QaG B64 4 a
 have hBl:=QaG B64 4 b
 have ha0:Blk (((w.alloc (.cells (EL a).toArray 228)).alloc (.cells (EL b).toArray 228))) w.heap.size 228 (EL a):=(Blk.new _ _ _).later (Qaa _ _)
 have hb0:Blk (((w.alloc (.cells (EL a).toArray 228)).alloc (.cells (EL b).toArray 228))) (w.heap.size+1) 228 (EL b):=(Blk.new' _ _ _ (by simp))
 generalize hdA:dig B64 4 a=dA at *
 generalize hdB:dig B64 4 b=dB at *
 have HA:=hid hdA
 have HB:=hid hdB
 have HLA:=hid hla
 have HLB:=hid hlb
 have HAl:=hid hAl
 have HBl:=hid hBl
 clear hdA hdB hla hlb hAl hBl
 go_enter Tryz.func137,Tryz.ntmps137
 go_wp2
 go_loopw [12] (fun i wr=>∃k:Nat,k≤4∧i= .int .i64 k∧Blk wr w.heap.size 228 (EL a)∧Blk wr (w.heap.size+1) 228 (EL b)∧Blk wr (w.heap.size+1+1) 228 (Qyl 4 (.int .u64 0))∧Blk wr (w.heap.size+1+1+1) 282 ((Qbt B64 dA dB 8 k).map n64)∧Later w wr) (fun i _=>4-(intOf i).toNat)
 case atStart=>
  have L0:Later w ((w.alloc (.cells (EL a).toArray 228)).alloc (.cells (EL b).toArray 228)):=(Qaa _ _).trans (Qaa _ _)
  exact⟨0,by omega,rfl,(ha0.later (Qaa _ _)).later (Qaa _ _),(hb0.later (Qaa _ _)).later (Qaa _ _),(Blk.new' _ _ (Qyl 4 (Value.int .u64 0)) (by simp)).later (Qaa _ _),Blk.new' _ _ (Qyl 8 (Value.int .u64 0)) (by simp),(L0.alloc _).alloc _⟩
 case round=>
  clear ha0 hb0
  obtain⟨k,hk4,rfl,h1,h2,h3,h4,L⟩:=hrel
  by_cases hlt:k<4
  ·have hpl:=QbY B64 dA dB 8 k
   have hpt:=QgA QaA dA dB 8 hal hbl k
   have da:=h1.cellD k (QbP a k hlt)
   have HS:=hid (QkF B64 dA dB 8 k (lim a k) 4 (HLA.out k hlt) HBl.out)
   generalize Qbt B64 dA dB 8 k=ws at *
   have HPL:=hid hpl
   clear hpl
   have hkb:decide ((k:Int)<4)=true:=by simp;omega
   go_wp2
   go_loopw [7,15] (fun c i wr=>∃j:Nat,j≤4∧i= .int .i64 j∧c=n64 (Qa9 B64 (lim a k) dB ws k j).2∧Blk wr w.heap.size 228 (EL a)∧Blk wr (w.heap.size+1) 228 (EL b)∧Blk wr (w.heap.size+1+1) 228 (Qyl 4 (.int .u64 0))∧Blk wr (w.heap.size+1+1+1) 282 ((Qa9 B64 (lim a k) dB ws k j).1.map n64)∧Later w wr) (fun _ i _=>4-(intOf i).toNat)
   case atStart=>exact⟨0,by omega,rfl,rfl,h1,h2,h3,h4,L⟩
   case round=>
    clear h1 h2 h3 h4 L da
    obtain⟨j,hj4,rfl,rfl,h1,h2,h3,h4,L⟩:=hrel
    have hrl:=Qci B64 (lim a k) dB ws k j
    obtain⟨hrt,hct⟩:=QiK (B:=B64) (lim a k) dB ws k (QyV _ QaA) hbl hpt j
    by_cases hlj:j<4
    ·have da:=h1.cellD k (QbP a k hlt)
     have db:=h2.cellD j (QbP b j hlj)
     have dw:=h4.cellD (k+j) (Qul _ _ (by rw[hrl,HPL.out];omega))
     have hwl:=Qin QaA hrt (k+j)
     have HR:=hid (Qm3 B64 (lim a k) dB ws k j (lim b j) (HLB.out j hlj))
     generalize (Qa9 B64 (lim a k) dB ws k j).2=c at *
     generalize (Qa9 B64 (lim a k) dB ws k j).1.getD (k+j) 0=v at *
     generalize (Qa9 B64 (lim a k) dB ws k j).1=vs at *
     have HRL:=hid hrl
     clear hrl
     have hkj:IntKind.i64.wrap ((k:Int)+(j:Int))=((k+j:Nat):Int):=by rw[IntKind.wrap_i64];omega
     go_wp2_with fail
     refine Qad [([0,1,2,3,4,5,6,7,8,9,10,11,12,13,14],15)] [16,17,18,19] [20,21] (by as_aux_lemma=>kernel_rfl) (by as_aux_lemma=>kernel_rfl) (by intro _ _ d _ _ h;cases d<;>exact h) ?_
     simp only[Qaj,pick,Qym,Qyn,Qyp,Qys,Qyr]
     repeat (go_big_quiet_step (fail))
     refine wpQuiet_nil ?_
     go_wp2_with fail
     (with_reducible refine (Qlo (lim a k) (lim b j) v c (QyV _ QaA) (QyV _ QaA) hwl hct _).mono ?_)
     rintro e w2 ⟨rfl,rfl⟩
     go_wp2_with fail
     try refine⟨by first|assumption|exact Qab _|exact Qaa _ _|exact Later.refl _,?_⟩
     try simp only[Qaj,pick,Qym,Qyn,Qyp,Qys,Qyr]
     repeat (go_big_quiet_step (fail))
     refine wpQuiet_nil ?_
     go_wp2_with (first
      | (refine Qag rfl rfl _ _ _ rfl _ _ _ _ h4.drew rfl ?hl rfl (by kernel_rfl) ?_;(case hl=>rw[Qyo,HRL.out,HPL.out];omega);intro v w2 hv hb2 ho2;simp[go_sem]at hv;subst hv)
      | fail)
     go_roundw
     case rel=>
      rw[QnW]at hb2
      exact⟨j+1,by omega,by go_num,by rw[HR.out],h1.drew.only ho2 (by omega),h2.drew.only ho2 (by omega),h3.drew.only ho2 (by omega),by rw[HR.out];exact hb2,(L.trans (Qab _)).only ho2 (by omega)⟩
     case measure=>simp[intOf];omega
    ·obtain rfl:j=4:=by omega
     generalize hc4:(Qa9 B64 (lim a k) dB ws k 4).2=c at *
     generalize hv4:(Qa9 B64 (lim a k) dB ws k 4).1=vs at *
     have HRL:=hid hrl
     have HC4:=hid hc4
     have HV4:=hid hv4
     clear hrl hc4 hv4
     go_wp2_with (first
      | (refine Qag rfl rfl _ _ _ rfl _ _ _ _ h4 rfl ?hl rfl (by kernel_rfl) ?_;(case hl=>rw[Qyo,HRL.out,HPL.out];omega);intro v w2 hv hb2 ho2;simp[go_sem]at hv;subst hv)
      | fail)
     go_roundw
     case rel=>
      rw[QnW]at hb2
      exact⟨k+1,by omega,by go_num,h1.only ho2 (by omega),h2.only ho2 (by omega),h3.only ho2 (by omega),by rw[HS.out];exact hb2,L.only ho2 (by omega)⟩
     case measure=>simp[intOf];omega
  ·rw[show k=4 by omega,HP.out]at h4
   have hkf:decide ((k:Int)<4)=false:=by simp;omega
   have hX:a*b/T256<T256:=by
    refine Qzu (Qzw (Nat.mul_le_mul (Nat.le_sub_one_of_lt ha) (Nat.le_sub_one_of_lt hb)) ?_)
    decide
   obtain⟨hm1,hm2,hm3,hm4⟩:=Qqq a b ha hb _ _ _ _ rfl rfl rfl rfl
   have hlo:=fun i h=>Qu0 (a*b) i h
   have hhi:=fun i=>Qvt (a*b) i
   have hlm:=QyV (a*b) (show 0<T256 by decide)
   have HR:=hid hm4
   clear hm4
   generalize hRR:a*b%P25=R at *
   have HRR:=hid ((congrArg (· %P25) (Qzt b a)).trans hRR)
   clear hRR
   generalize hXX:a*b=X at *
   clear hXX HP HA HB HLA HLB HAl HBl hal hbl ha hb
   generalize X/T256=H at *
   generalize X%T256=Lo at *
   have HLO:=hid hlo
   have HHI:=hid hhi
   clear hlo hhi
   have hSl:=Qai (38*H+Lo)
   go_wp2_with fail
   have hn0:Blk (wr.alloc (.cells (Qyl 4 (Value.int .u64 0)).toArray 228)) wr.heap.size 228 (Qyl 4 (.int .u64 0)):=Blk.new _ _ _
   have hsz:=h4.lt
   go_loopw [10,44] (fun c i wx=>∃k:Nat,k≤4∧i= .int .i64 k∧c=n64 (mcar B64 38 H Lo k)∧Blk wx wr.heap.size 228 (Qb1 (EL (38*H+Lo)) (Qyl 4 (.int .u64 0)) k)∧Blk wx (w.heap.size+1+1) 228 (Qyl 4 (.int .u64 0))∧Blk wx (w.heap.size+1+1+1) 282 (WL X)∧Later w wx) (fun _ i _=>4-(intOf i).toNat)
   case atStart=>exact⟨0,by omega,rfl,by rw[Qpi];rfl,by rw[Qb6];exact hn0,h3.later (Qaa _ _),h4.later (Qaa _ _),L.trans (Qaa _ _)⟩
   case round=>
    clear h1 h2 h3 h4 L hn0
    obtain⟨k,hk4,rfl,rfl,h1,h3,h4,L⟩:=hrel
    by_cases hlt:k<4
    ·have hc:=Quq (show 38<B64 by decide) H Lo k
     have S0:=hid (mdig QaA 38 H Lo k)
     have S1:=hid (Qo7 QaA 38 H Lo k)
     have d0:=h4.cellD k (QsQ X k (by omega))
     have d1:=h4.cellD (k+4) (QsQ X (k+4) (by omega))
     rw[HLO.out k hlt]at d0
     rw[HHI.out k]at d1
     generalize mcar B64 38 H Lo k=c at *
     have hkj:IntKind.i64.wrap ((k:Int)+4)=((k+4:Nat):Int):=by rw[IntKind.wrap_i64];omega
     go_wp2_with fail
     refine Qad [([0,1,2,3,4,5,6,7,8],9)] [10,11,12,13] [14,15] (by as_aux_lemma=>kernel_rfl) (by as_aux_lemma=>kernel_rfl) (by intro _ _ d _ _ h;cases d<;>exact h) ?_
     simp only[Qaj,pick,Qym,Qyn,Qyp,Qys,Qyr]
     repeat (go_big_quiet_step (fail))
     refine wpQuiet_nil ?_
     go_wp2_with fail
     (with_reducible refine (Qus (lim H k) (lim Lo k) c (QyV _ QaA) (QyV _ QaA) (Qzw hc (by decide)) _).mono ?_)
     rintro e w2 ⟨rfl,rfl⟩
     go_wp2_with fail
     try refine⟨by first|assumption|exact Qab _|exact Qaa _ _|exact Later.refl _,?_⟩
     try simp only[Qaj,pick,Qym,Qyn,Qyp,Qys,Qyr]
     repeat (go_big_quiet_step (fail))
     refine wpQuiet_nil ?_
     go_wp2_with (first
      | (refine Qag rfl rfl _ _ _ rfl _ _ _ _ h1.drew rfl ?hl rfl (by kernel_rfl) ?_;(case hl=>rw[Qbc _ _ _ (by rw[hSl];rfl)];exact hlt);intro v w2 hv hb2 ho2;simp[go_sem]at hv;subst hv)
      | fail)
     go_roundw
     case rel=>
      have e0:=S0.out
      have e1:=S1.out
      rw[Qzt 38]at e0 e1
      rw[QbI _ _ _ _ (by rw[hSl];rfl) hlt (by rw[QbP _ k hlt,lim,lim,lim,←e0])]at hb2
      exact⟨k+1,by omega,by go_num,by rw[←e1];rfl,hb2,h3.drew.only ho2 (by omega),h4.drew.only ho2 (by omega),(L.trans (Qab _)).only ho2 (by omega)⟩
     case measure=>simp[intOf];omega
    ·obtain rfl:k=4:=by omega
     have hc4:mcar B64 38 H Lo 4=(38*H+Lo)/T256:=by rw[mcar,QcB,QyS hX,QyS hlm]
     rw[Qcu _ _ _ hSl rfl]at h1
     have HC4:=hid hc4
     clear hc4
     generalize hS:38*H+Lo=S at *
     have e2:(S%B64^4+38*(S/T256))/B64^4=(S%T256+38*(S/T256))/T256:=by rw[QcB]
     have HE:=hid e2
     clear e2
     have hp1:=QeZ S (38*(S/T256)) (by unfold B64;omega)
     rw[HE.out]at hp1
     generalize hcc:(S%T256+38*(S/T256))/T256=c2 at *
     have hp2:=QeZ (S+38*(S/T256)) (38*c2) (by unfold B64;omega)
     have hEq:E (S+38*(S/T256)+38*c2)=E ((S%T256+38*(S/T256))%T256+38*c2):=Qsa (by unfold T256;omega)
     have hn:=QcW _ hm3
     rw[HR.out]at hn
     have HQ:=hid hEq
     have HN:=hid hn
     have HP1:=hid hp1
     have HP2:=hid hp2
     clear hEq hn hp1 hp2
     generalize (S%T256+38*(S/T256))%T256+38*c2=fin at *
     generalize hcd:S/T256=c1 at *
     have hcd':n64 (mcar B64 38 H Lo 4)=n64 c1:=by rw[HC4.out]
     generalize mcar B64 38 H Lo 4=c0 at *
     obtain rfl:c0=c1:=HC4.out
     clear hcd' HC4 HE
     go_wp2_with (first
      | (refine Qa6 rfl _ rfl h1 rfl ?_)
      | (go_at_call 153;(with_reducible refine (HP1.out _).mono ?_);rintro e w2 ⟨rfl,hl2⟩
         have h12:=h1.later hl2
         have h32:=h3.later hl2
         have L2:=L.trans hl2
         clear HP1)
      | (refine Qav rfl rfl _ _ rfl h12 rfl rfl (Qai _) ?_;intro w3 hb3 ho3
         have h33:=h32.only ho3 (by omega)
         have L3:=L2.only ho3 (by omega)
         clear h32 h12 L2)
      | (refine Qa6 rfl _ rfl hb3 rfl ?_)
      | (go_at_call 153;(with_reducible refine (HP2.out _).mono ?_);rintro e w4 ⟨rfl,hl4⟩
         have h14:=hb3.later hl4
         have h34:=h33.later hl4
         have L4:=L3.trans hl4
         rw[HQ.out]
         clear HP2)
      | (refine Qav rfl rfl _ _ rfl h14 rfl rfl (Qai _) ?_;intro w5 hb5 ho5
         have h35:=h34.only ho5 (by omega)
         have L5:=L4.only ho5 (by omega)
         clear h34 h14 L4)
      | (refine Qa6 rfl _ rfl hb5 rfl ?_)
      | (go_at_call 132;(with_reducible refine (HN.out _).mono ?_);rintro e w6 ⟨rfl,hl6⟩
         have h36:=h35.later hl6
         have L6:=L5.trans hl6)
      | (refine Qav rfl rfl _ _ rfl h36 rfl rfl rfl ?_;intro w7 hb7 ho7)
      | fail)
     exact bodyPost_ret (Qfb rfl hb7 rfl) rfl ⟨by rw[Qzt a b];exact congrArg (fun t=>Ending.returned (E t)) HRR.out.symm,L6.only ho7 (by omega)⟩
theorem QrT {n:Nat} (h:n<B64):EL n=[n64 n,.int .u64 0,.int .u64 0,.int .u64 0]:=by
 have e:∀k,0<k→n/B64^k%B64=0:=fun k hk=>Qje h k hk
 have e1:dig B64 4 n=[n/B64^0%B64,n/B64^1%B64,n/B64^2%B64,n/B64^3%B64]:=by
  rw[QeI,QeI,QeI,QeI]
  rfl
 rw[EL,e1,e 1 (by omega),e 2 (by omega),e 3 (by omega),Nat.pow_zero,Nat.div_one,QyS h]
 rfl
@[go_sem] theorem QvI (n:Nat):(n%P25<T256)=True:=eq_true (QzT (QyV _ QbK) (by decide))
@[go_sem] theorem Qvk (n:Nat):(n%P25<P25)=True:=eq_true (QyV _ QbK)
def ofs (l:List Nat):List UInt64:=l.map QyM
theorem QhS (n:Nat):EL n=(ofs (dig B64 4 n)).map W64:=by rw[EL,ofs,List.map_map];rfl
theorem Qt4 {l m:List Nat} (hl:∀x∈l,x<B64) (hm:∀x∈m,x<B64) (h:ofs l=ofs m):l=m:=by
 have e:∀l:List Nat,(∀ x∈l,x<B64)→(ofs l).map UInt64.toNat=l:=by
  intro l hl
  rw[ofs,List.map_map]
  conv=>rhs;rw[←List.map_id l]
  apply List.map_congr_left
  intro x hx
  exact tn64 (hl x hx)
 rw[←e l hl,←e m hm,h]
theorem Qj4 {x y:Nat} (hx:x<T256) (hy:y<T256):(ofs (dig B64 4 x)==ofs (dig B64 4 y))=(x==y):=by
 rw[Qy7,beq_iff_eq,beq_iff_eq]
 refine⟨fun h=>?_,fun h=>by rw[h]⟩
 have:=Qt4 (Qeh QaA 4 x) (Qeh QaA 4 y) h
 exact Qom (k:=4) (B:=B64) (by rw[QcB];exact hx) (by rw[QcB];exact hy) this
theorem QpP:(Tryz.prog.info? 24).map (·.size)=some 1:=by kernel_rfl
theorem QxB:Tryz.prog.eqGuardType Tryz.prog.depth 228=false:=by kernel_rfl
@[go_sem high] theorem QvC (op:BinOp) (x y:Operand) (xs ys:Array Value) (w:World):(eqGuard op 228 x y (.agg xs) (.agg ys)).run Tryz.prog w= .ok () w:=run_eqGuard_agg w op _ x y xs ys QxB
@[go_sem high] theorem QuL (x y:Nat) (hx:x<T256) (hy:y<T256) (w:World):(binOp .eql 228 (E x) (E y)).run Tryz.prog w= .ok (.bool (x==y)) w:=by
  rw[run_eql_struct,QhS,QhS,QaS w 0 W64 9998 228 24 4 Tryz.underlying228 QpP Tryz.underlying24 rfl (Qf8 _ _ Tryz.underlying24) _ _ (by rw[ofs,Qyo,QaG]) (by rw[ofs,Qyo,QaG]),Qj4 hx hy]
  rfl
@[go_sem high] theorem QuY (x y:Nat) (hx:x<T256) (hy:y<T256) (w:World):(binOp .neq 228 (E x) (E y)).run Tryz.prog w= .ok (.bool (x != y)) w:=by
  rw[run_neq_struct,QhS,QhS,QaS w 0 W64 9998 228 24 4 Tryz.underlying228 QpP Tryz.underlying24 rfl (Qf8 _ _ Tryz.underlying24) _ _ (by rw[ofs,Qyo,QaG]) (by rw[ofs,Qyo,QaG]),Qj4 hx hy]
  rfl
theorem QxR:Tryz.prog.eqGuardType Tryz.prog.depth 227=false:=by kernel_rfl
@[go_sem high] theorem QuU (op:BinOp) (x y:Operand) (xs ys:Array Value) (w:World):(eqGuard op 227 x y (.agg xs) (.agg ys)).run Tryz.prog w= .ok () w:=run_eqGuard_agg w op _ x y xs ys QxR
@[go_sem high] theorem Qvw (x y:Nat) (hx:x<T256) (hy:y<T256) (w:World):(binOp .eql 227 (E x) (E y)).run Tryz.prog w= .ok (.bool (x==y)) w:=by
  rw[run_eql_struct,QhS,QhS,QaS w 0 W64 9998 227 24 4 Tryz.underlying227 QpP Tryz.underlying24 rfl (Qf8 _ _ Tryz.underlying24) _ _ (by rw[ofs,Qyo,QaG]) (by rw[ofs,Qyo,QaG]),Qj4 hx hy]
  rfl
set_option maxHeartbeats 1000000 in
theorem Qsr (n:Nat) (hn:n<B64) (w:World):
 Calls Tryz.prog 111 #[n64 n] w fun e w'=>e= .returned (E n)∧Later w w':=by
 have hs:=hid (QrT hn)
 go_enter Tryz.func111,Tryz.ntmps111
 go_wp2_with (first
  | (refine Qar rfl 228 _ rfl [n64 n,.int .u64 0,.int .u64 0,.int .u64 0] ?hb ?_;(case hb=>kernel_rfl);rw[←hs.out])
  | (refine Qav rfl rfl _ _ rfl (Blk.new w _ (Qyl 4 (.int .u64 0))) rfl rfl rfl ?_;intro w3 hb3 ho3))
 exact bodyPost_ret (Qfb rfl hb3 rfl) rfl ⟨rfl,(Qaa _ _).only ho3 (by omega)⟩
set_option maxHeartbeats 1000000 in
theorem Qfg (n:Nat) (hn:n<T256) (w:World):
 Calls Tryz.prog 135 #[E n] w fun e w'=>e= .returned (E (n*n%P25))∧Later w w':=by
 have hb:Blk ((w.alloc (.cells (EL n).toArray 228)).alloc (.cells (Qyl 4 (.int .u64 0)).toArray 228)) w.heap.size 228 (EL n):=(Blk.new _ _ _).later (Qaa _ _)
 have hr:Blk ((w.alloc (.cells (EL n).toArray 228)).alloc (.cells (Qyl 4 (.int .u64 0)).toArray 228)) (w.heap.size+1) 228 (Qyl 4 (.int .u64 0)):=Blk.new' _ _ _ (by simp)
 go_enter Tryz.func135,Tryz.ntmps135
 go_wp2_with (first
  | (refine Qa6 rfl _ rfl hb rfl ?_)
  | (go_at_call 137;(with_reducible refine (QcX n n hn hn _).mono ?_);rintro e w2 ⟨rfl,hl2⟩
     have hr2:=hr.later hl2
     have L2:Later w w2:=((Qaa _ _).trans (Qaa _ _)).trans hl2)
  | (refine Qav rfl rfl _ _ rfl hr2 rfl rfl rfl ?_;intro w3 hb3 ho3)
  | fail)
 exact bodyPost_ret (Qfb rfl hb3 rfl) rfl ⟨rfl,L2.only ho3 (by omega)⟩
theorem Qnd (x y b:Nat) (hx:x<B64) (hy:y<B64) (hb:b≤1) (w:World):
 (callFunc 155 #[n64 x,n64 y,n64 b]).run Tryz.prog w= .ok (.value (.tuple #[n64 ((x+B64-y-b)%B64),n64 (if x<y+b then 1 else 0)])) w:=by
 rw[Qd0 hx,Qd0 hy,Qd0 (show b<B64 by unfold B64;omega),run_callFunc_extern Tryz.func155 (by kernel_rfl) (by kernel_rfl) (by kernel_rfl) (e:=sub64Entry) (by kernel_rfl),run_sub64 _ _ _ hb]
 rw[Qd0 (QyV _ QaA),Qd0 (show (if x<y+b then 1 else 0)<B64 by split<;>decide)]
 rfl
set_option maxHeartbeats 2000000 in
theorem Qq4 (n m:Nat) (hn:n<T256) (hm:m<T256) (w:World):
 Calls Tryz.prog 134 #[E n,E m] w fun e w'=>e= .returned (E ((n+(P25-m%P25))%P25))∧Later w w':=by
 have hm1:m%P25<P25:=QyV _ QbK
 have hn1:n%P25<P25:=QyV _ QbK
 have hE:=hid (Qsa (n:=P25+B64^4-m%P25) (m:=P25-m%P25) (by rw[QcB];unfold T256 P25 at *;omega))
 have hadd:=hid (Qlv (n%P25) (P25-m%P25) (by unfold T256 P25 at *;omega))
 have hb0:Blk ((w.alloc (.cells (EL n).toArray 228)).alloc (.cells (EL m).toArray 228)) w.heap.size 228 (EL n):=(Blk.new _ _ _).later (Qaa _ _)
 have hc0:Blk ((w.alloc (.cells (EL n).toArray 228)).alloc (.cells (EL m).toArray 228)) (w.heap.size+1) 228 (EL m):=Blk.new' _ _ _ (by simp)
 have L0:Later w ((w.alloc (.cells (EL n).toArray 228)).alloc (.cells (EL m).toArray 228)):=(Qaa _ _).trans (Qaa _ _)
 go_enter Tryz.func134,Tryz.ntmps134
 go_wp2_with (first
  | (refine Qar rfl 228 _ rfl (EL P25) ?hb ?_;(case hb=>kernel_rfl))
  | (refine Qav (g:=w.heap.size+1+1+1) rfl rfl _ _ rfl (Blk.new' _ _ (Qyl 4 (.int .u64 0)) (by simp)) rfl rfl rfl ?_;intro w3 hb3 ho3
     have hn3:Blk w3 w.heap.size 228 (EL n):=((hb0.later (Qaa _ _)).later (Qaa _ _)).only ho3 (by omega)
     have hm3:Blk w3 (w.heap.size+1) 228 (EL m):=((hc0.later (Qaa _ _)).later (Qaa _ _)).only ho3 (by omega)
     have hr3:Blk w3 (w.heap.size+1+1) 228 (Qyl 4 (.int .u64 0)):=((Blk.new' _ _ (Qyl 4 (Value.int .u64 0)) (by simp)).later (Qaa _ _)).only ho3 (by omega)
     have L3:Later w w3:=((L0.alloc _).alloc _).only ho3 (by omega)
     clear hb0 hc0 L0 ho3)
  | (refine Qa6 rfl _ rfl hm3 rfl ?_)
  | (go_at_call 132;(with_reducible refine (QcW m hm _).mono ?_);rintro e w4 ⟨rfl,hl4⟩)
  | (refine Qav rfl rfl _ _ rfl (hm3.later hl4) rfl rfl (Qai _) ?_;intro w5 hb5 ho5
     have hn5:=(hn3.later hl4).only ho5 (by omega)
     have hr5:=(hr3.later hl4).only ho5 (by omega)
     have hp5:=(hb3.later hl4).only ho5 (by omega)
     have L5:=(L3.trans hl4).only ho5 (by omega)
     clear hn3 hm3 hr3 hb3 L3 hl4 ho5)
  | fail)
 have hlS:=Qai (P25+B64^4-m%P25)
 have hlA:=Qai P25
 have hm1':m%P25<B64^4:=QzT hm1 (by decide)
 have hbl:=hb5.lt
 generalize hMM:m%P25=M at *
 have HM:=hid hMM
 clear hMM
 go_loopw [6,11] (fun c i wr=>∃k:Nat,k≤4∧i= .int .i64 k∧c=n64 (owed B64 P25 M k)∧Blk wr (w.heap.size+1+1+1) 228 (Qb1 (EL (P25+B64^4-M)) (EL P25) k)∧Blk wr (w.heap.size+1) 228 (EL M)∧Blk wr w.heap.size 228 (EL n)∧Blk wr (w.heap.size+1+1) 228 (Qyl 4 (.int .u64 0))∧Later w wr) (fun _ i _=>4-(intOf i).toNat)
 case atStart=>exact⟨0,by omega,rfl,by rw[QoU];rfl,by rw[Qb6];exact hp5,hb5,hn5,hr5,L5⟩
 case round=>
  clear hb5 hp5 hn5 hr5 L5
  obtain⟨k,hk4,rfl,rfl,h1,h2,h0,h3,L⟩:=hrel
  by_cases hlt:k<4
  ·have hc:=QpK B64 P25 M k
   have S0:=hid (QrX QaA P25 M k 4 hlt hm1')
   have S1:=hid (Qou QaA P25 M k)
   have d0:=h1.cellD k (u:=n64 (lim P25 k)) (by rw[Qfh _ _ _ _ (by omega) (Qyv _) (by omega)];exact QbP P25 k hlt)
   have d1:=h2.cellD k (QbP M k hlt)
   generalize owed B64 P25 M k=c at *
   have hsub:∀w,(callFunc 155 #[n64 (lim P25 k),n64 (lim M k),n64 c]).run Tryz.prog w= .ok (.value (.tuple #[n64 ((lim P25 k+B64-lim M k-c)%B64),n64 (if lim P25 k<lim M k+c then 1 else 0)])) w:=fun w=>Qnd _ _ _ (QyV _ QaA) (QyV _ QaA) hc w
   obtain⟨X,hX⟩:∃X,X=(lim P25 k+B64-lim M k-c)%B64:=⟨_,rfl⟩
   obtain⟨Y,hY⟩:∃Y,Y=(if lim P25 k<lim M k+c then 1 else 0):=⟨_,rfl⟩
   rw[←hX,←hY]at hsub
   have HX:=hid hX
   have HY:=hid hY
   clear hX hY
   go_wp2_with fail
   refine Qad [([0,1,2,3,4,5,6,7],8)] [9,10,11,12] [13,14] (by as_aux_lemma=>kernel_rfl) (by as_aux_lemma=>kernel_rfl) (by intro _ _ d _ _ h;cases d<;>exact h) ?_
   simp only[Qaj,pick,Qym,Qyn,Qyp,Qys,Qyr]
   repeat (go_big_quiet_step (fail))
   refine wpQuiet_nil ?_
   go_wp2_with fail
   try refine⟨by first|assumption|exact Qab _|exact Qaa _ _|exact Later.refl _,?_⟩
   try simp only[Qaj,pick,Qym,Qyn,Qyp,Qys,Qyr]
   repeat (go_big_quiet_step (fail))
   refine wpQuiet_nil ?_
   go_wp2_with (first
    | (refine Qag rfl rfl _ _ _ rfl _ _ _ _ h1.drew rfl ?hl rfl (by kernel_rfl) ?_;(case hl=>rw[Qbc _ _ _ (by omega)];omega);intro v w2 hv hb2 ho2;simp[go_sem]at hv;subst hv)
    | fail)
   go_roundw
   case rel=>
    rw[QbI _ _ _ _ (by omega) (by omega) (by rw[QbP _ k hlt,HX.out,lim,lim,lim,S0.out])]at hb2
    exact⟨k+1,by omega,by go_num,by rw[S1.out,HY.out];rfl,hb2,h2.drew.only ho2 (by omega),h0.drew.only ho2 (by omega),h3.drew.only ho2 (by omega),(L.trans (Qab _)).only ho2 (by omega)⟩
   case measure=>simp[intOf];omega
  ·rw[show k=4 by omega,Qcu _ _ _ hlS hlA]at h1
   have h1':Blk wr (w.heap.size+1+1+1) 228 (EL (P25-M)):=by
    have e:EL (P25+B64^4-M)=EL (P25-M):=by rw[Qqc];rw[QcB];unfold T256 P25 at *;omega
    rwa [e]at h1
   have hkf:decide ((k:Int)<4)=false:=by simp;omega
   clear h1 hE
   go_wp2_with fail
   refine Qad [([0,2],1)] [] [3,4] (by as_aux_lemma=>kernel_rfl) (by as_aux_lemma=>kernel_rfl) (by intro _ _ d _ _ h;cases d<;>exact h) ?_
   simp only[Qaj,pick,Qym,Qyn,Qyp,Qys,Qyr]
   repeat (first|go_big_quiet_skip|(go_big_quiet_want;(first|refine QbH _ rfl h0.drew rfl ?_|refine QbH _ rfl h1'.drew rfl ?_);simp only[Act.put,Qyu,Qyy,Qyx];go_big_quiet_on)|(go_big_quiet_step (fail)))
   refine wpQuiet_nil ?_
   go_wp2_with fail
   (with_reducible refine (QcW n hn _).mono ?_);rintro e w2 ⟨rfl,hl2⟩
   go_wp2_with fail
   try refine⟨by first|assumption|exact Qab _|exact Qaa _ _|exact Later.refl _,?_⟩
   try simp only[Qaj,pick,Qym,Qyn,Qyp,Qys,Qyr]
   repeat (go_big_quiet_step (fail))
   refine wpQuiet_nil ?_
   go_wp2_with fail
   (with_reducible refine (hadd.out _).mono ?_);rintro e w3 ⟨rfl,hl3⟩
   have h33:=((h3.drew.later hl2)).later hl3
   have L3:=((L.trans (Qab _)).trans hl2).trans hl3
   go_wp2_with (refine Qav rfl rfl _ _ rfl h33 rfl rfl rfl ?_;intro w4 hb4 ho4)
   exact bodyPost_ret (Qfb rfl hb4 rfl) rfl ⟨by rw[HM.out],L3.only ho4 (by omega)⟩
def lem (n j:Nat):Nat:=n/B32^j%B32
@[go_sem] theorem Qyi (n i:Nat):(lem n i<B32)=True:=eq_true (QyV _ Qfv)
@[go_sem] theorem Qwr (n i:Nat):(lem n i<B64)=True:=eq_true (QzT (QyV _ Qfv) (by decide))
def NL (n:Nat):List Value:=(dig B32 8 n).map n32
abbrev NN (n:Nat):Value:=.agg (NL n).toArray
theorem Qon (n:Nat):(NL n).length=8:=by rw[NL,Qyo,QaG]
theorem Qv3 (n i:Nat) (h:i<8):(NL n)[i]?=some (n32 (lem n i)):=by rw[NL,QyF,Qez _ _ _ _ h];rfl
@[go_sem] theorem NL_at (n i:Nat) (h:i<(NL n).length):(NL n)[i]=n32 (lem n i):=by
  have:=Qv3 n i (by rw[Qon]at h;exact h)
  rw[Qyq h]at this
  exact Option.some.inj this
def VL (n:Nat):List Value:=(dig B32 17 n).map n64
theorem Qoc (n:Nat):(VL n).length=17:=by rw[VL,Qyo,QaG]
theorem QvR (n i:Nat) (h:i<17):(VL n)[i]?=some (n64 (lem n i)):=by rw[VL,QyF,Qez _ _ _ _ h];rfl
@[go_sem] theorem VL_at (n i:Nat) (h:i<(VL n).length):(VL n)[i]=n64 (lem n i):=by
  have:=QvR n i (by rw[Qoc]at h;exact h)
  rw[Qyq h]at this
  exact Option.some.inj this
theorem QvM:B32^8=T256:=by decide
section
variable {ops:Array Oper} {rest:List Oper} {o:Oper} {a:Act} {w:World} {Q:Exit→Act→World→Prop}
end
@[go_sem] theorem Qxv (T:TypeId) (x:Nat) (yk:IntKind) (k:Int) (h0:0≤k):binOp .shl T (n64 x) (.int yk k)=pure (n64 (x*2^k.toNat)):=by
  rw[n64,QiJ _ _ _ _ h0,QfQ]
  rw[Qg8]
  show (BitVec.toNat _)=_
  rw[QzU,Qz7]
  show (QyM x).toNat*_%2^64=_
  rw[QyP,Nat.mod_mul_mod]
  rfl
def decV:Option Value→Nat
 | some (.int _ x)=>x.toNat
 | _=>0
def lies (B k:Nat) (g:Nat) (w:World):Nat:=val B ((Qy0 k).map fun i=>decV (w.cell? ⟨g,i,none⟩))
end Go.Proofs.YtcbdgnlcknllnaaGreat
