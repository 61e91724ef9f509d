/-
  Lemmas for the last text of this claim (part 6 of 20).
-/
import Derived.ArgAppend
import Derived.BigQuiet
import Derived.BigRegion
import Derived.ChangeOld
import Derived.Deep.RegionWith
import Derived.DeepKeys4
import Derived.JoinedCond
import Derived.LaidMore
import Derived.Laws.BytesArg
import Derived.Laws.CopyOwn
import Derived.Laws.Externs
import Derived.Laws.IdiomStrings
import Derived.Laws.Tables
import Derived.Lib.AppendStr
import Derived.Lib.AppendZerosOnto
import Derived.Lib.Mul64
import Derived.Lib.SlBytesConst
import Derived.LoopN
import Derived.Maps.OwnSet
import Derived.OpenShut
import Derived.OrdersHeld
import Derived.ProofKit
import Derived.Shelf.Spec.BitsCarry
import Derived.ShutString
import Derived.Test.YtdhgpkdjdmlphaaGreatProg
import Derived.Test.YtdhgpkdjdmlphaaGreatRows
import Derived.WalkKit
import Derived.WalkLawsBesides
import Derived.WalkSpells
import Derived.Test.YtdhgpkdjdmlphaaGreatPC
import Derived.Test.YtdhgpkdjdmlphaaGreatPE
open BitVec renaming toNat_ushiftRight → Qzd
open Bool renaming eq_iff_iff → Qy7
open List renaming replicate → Qym, length_map → Qyn, getElem?_cons_succ → Qyo, getElem?_cons_zero → Qyp, getElem?_eq_getElem → Qyq, getD_eq_getElem?_getD → Qys, nil_append → Qyt, cons_append → Qyu, take_of_length_le → Qyx, getElem?_append_right → Qyz, mem_cons → QyA, setIfInBounds_toArray → QyD, append_assoc → QyE, getElem?_map → QyF, set_cons_zero → QyI, length_take → QyL, set_cons_succ → QyM, take_succ_eq_append_getElem → QyQ, set_append_right → QyW, length_set → Qy2, length_cons → Qy9, mem_map → Qzb, range → Qzc, drop_of_length_le → Qzm, getElem?_eq_none → Qzq, getElem?_set_ne → QzB, getElem?_drop → QzC, replicate_succ → QzE, getElem_mem → QzH, drop_eq_getElem_cons → QzT
open Nat renaming le_refl → Qyw, lt_of_lt_of_le → QyG, mod_eq_of_lt → QyN, mod_lt → QyS, zero_add → QyY, shiftRight_eq_div_pow → Qza, div_div_eq_div_mul → Qze, div_add_mod → Qzh, le_mul_of_pos_right → Qzi, mul_comm → Qzj, mul_add → Qzo, mul_assoc → Qzr, lt_or_ge → Qzs, div_eq_of_lt → Qzv, pow_succ → Qzx, div_lt_of_lt_mul → QzA, min_eq_left → QzD, mul_le_mul_left → QzF, add_mul_div_left → QzK, mul_mod → QzL, lt_of_le_of_lt → QzN, add_zero → QzO, lt_trans → QzP, pow_add → QzX, mul_one → QzY, pow_succ' → Qz0, zero_mul → Qz6, mod_mod → QAb, mul_left_comm → QAg, pow_pos → QAl, add_comm → QAm, add_mul → QAn, add_mod → QAo
open Option renaming toList_some → Qyr
open UInt32 renaming ofNat → QyX
open UInt64 renaming ofNat → QyO, toNat_ofNat' → QyR, toNat_inj → Qz9, toNat_toUInt8 → QAc
open UInt8 renaming ofNat → QyP, toNat_ofNat' → Qzl, toNat_inj → Qzp
set_option linter.all false
namespace Go.Proofs.YtdhgpkdjdmlphaaGreat
def val (B:Nat):List Nat→Nat
 | []=>0
 | x :: l=>x+B*val B l
def dig (B:Nat):Nat→Nat→List Nat
 | 0,_=>[]
 | k+1,n=>n%B :: dig B k (n/B)
theorem QaG (B:Nat):∀k n,(dig B k n).length=k
 | 0,_=>rfl
 | k+1,n=>by rw[dig,Qy9,QaG B k]
theorem QfO (B:Nat):∀k n,val B (dig B k n)=n%B^k
 | 0,n=>by simp[dig,val,Nat.mod_one]
 | k+1,n=>by rw[dig,val,QfO B k,Qz0,Nat.mod_mul]
theorem QeC {B:Nat} (hB:0<B):∀k n,∀x∈dig B k n,x<B
 | 0,_,x,h=>by cases h
 | k+1,n,x,h=>by
   rcases QyA.1 h with rfl|h
   ·exact QyS _ hB
   ·exact QeC hB k _ x h
theorem QkT {B:Nat}:∀l:List Nat,(∀ x∈l,x<B)→dig B l.length (val B l)=l
 | [],_=>rfl
 | x :: l,h=>by
   have hx:x<B:=h x (by simp)
   rw[Qy9,val,dig,Nat.add_mul_mod_self_left,QyN hx,QzK _ _ (by omega),Qzv hx,QyY,QkT l (fun y hy=>h y (by simp[hy]))]
theorem Qsa {B:Nat}:∀l:List Nat,(∀ x∈l,x<B)→val B l<B^l.length
 | [],_=>by simp[val]
 | x :: l,h=>by
   have hx:x<B:=h x (by simp)
   have:=Qsa l (fun y hy=>h y (by simp[hy]))
   rw[val,Qy9,Qz0]
   have h2:B*(val B l+1)≤B*B^l.length:=QzF B this
   rw[Qzo,QzY]at h2
   omega
theorem QeT (B:Nat):∀k n i,i<k→(dig B k n)[i]?=some (n/B^i%B)
 | 0,_,_,h=>by omega
 | k+1,n,0,_=>by simp[dig]
 | k+1,n,i+1,h=>by
   rw[dig,Qyo,QeT B k _ i (by omega),Qze,←Qz0]
theorem Qfd (B k n i:Nat) (h:i<k):(dig B k n).getD i 0=n/B^i%B:=by
 rw[Qys,QeT B k n i h]
 rfl
theorem Qe5 (B:Nat):∀k n,dig B (k+1) n=dig B k n++[n/B^k%B]
 | 0,n=>by simp[dig]
 | k+1,n=>by
   rw[dig,Qe5 B k (n/B),dig,Qyu,Qze,←Qz0]
theorem Qh6 (B:Nat):∀l m:List Nat,val B (l++m)=val B l+B^l.length*val B m
 | [],m=>by simp[val]
 | x :: l,m=>by
   rw[Qyu,val,Qh6 B l m,val,Qy9,Qz0,Qzo,Qzr,Nat.add_assoc]
theorem Qk5 (B:Nat):∀(l:List Nat) (i v:Nat),i<l.length→val B (l.set i v)+B^i*l.getD i 0=val B l+B^i*v
 | [],_,_,h=>by simp at h
 | x :: l,0,v,_=>by simp[val];omega
 | x :: l,i+1,v,h=>by
   have ih:=Qk5 B l i v (by simpa using h)
   have e1:B*(val B (l.set i v)+B^i*l.getD i 0)=B*(val B l+B^i*v):=by rw[ih]
   rw[QyM,val,val,List.getD_cons_succ,Qz0,Qzr,Qzr]
   rw[Qzo,Qzo]at e1
   omega
theorem QiW (B:Nat):∀n,val B (Qym n 0)=0
 | 0=>rfl
 | n+1=>by rw[QzE,val,QiW B n,Nat.mul_zero]
theorem QiL {B:Nat}:∀k n,dig B k (n%B^k)=dig B k n
 | 0,_=>rfl
 | k+1,n=>by
   rw[dig,dig,Qz0,Nat.mod_mul_right_mod,Nat.mod_mul_right_div_self,QiL k]
theorem QpL {B k n m:Nat} (hn:n<B^k) (hm:m<B^k) (h:dig B k n=dig B k m):n=m:=by
 have:=QfO B k n
 rw[h,QfO,QyN hn,QyN hm]at this
 exact this.symm
def carr (B a b c k:Nat):Nat:=(a%B^k+b%B^k+c)/B^k
theorem QoW (B a b c:Nat):carr B a b c 0=c:=by simp[carr,Nat.mod_one]
theorem QbW (B a k:Nat):a%B^(k+1)=a%B^k+B^k*(a/B^k%B):=by rw[Qzx,Nat.mod_mul]
theorem Qjd {B:Nat} (hB:0<B) (a b c k:Nat):(a/B^k%B+b/B^k%B+carr B a b c k)/B=carr B a b c (k+1):=by
 have hp:0<B^k:=QAl hB
 rw[carr,carr,QbW,QbW,Qzx,←Qze]
 congr 1
 have e:a%B^k+B^k*(a/B^k%B)+(b%B^k+B^k*(b/B^k%B))+c=(a%B^k+b%B^k+c)+B^k*(a/B^k%B+b/B^k%B):=by rw[Qzo];omega
 rw[e,QzK _ _ hp,QAm]
theorem Qo4 {B:Nat} (hB:0<B) (a b c k:Nat):(a/B^k%B+b/B^k%B+carr B a b c k)%B=(a+b+c)/B^k%B:=by
 have hp:0<B^k:=QAl hB
 have ea:=Qzh a (B^k)
 have eb:=Qzh b (B^k)
 have e:a+b+c=(a%B^k+b%B^k+c)+B^k*(a/B^k+b/B^k):=by rw[Qzo];omega
 rw[e,QzK _ _ hp,←carr,QAo,QAo (a/B^k%B),QAb,QAb,←QAo (a/B^k),←QAo,QAm]
theorem Qou {B:Nat} (hB:0<B) (a b c k:Nat) (hc:c≤1):carr B a b c k≤1:=by
 have hp:0<B^k:=QAl hB
 rw[carr]
 refine Nat.le_of_lt_succ (QzA ?_)
 have:=QyS a hp
 have:=QyS b hp
 omega
def owed (B a b k:Nat):Nat:=if a%B^k<b%B^k then 1 else 0
theorem Qok (B a b:Nat):owed B a b 0=0:=by simp[owed,Nat.mod_one]
theorem QoG (B a b k:Nat):owed B a b k≤1:=by
 unfold owed
 split<;>omega
theorem Qn8 {B:Nat} (hB:0<B) (a b k:Nat):owed B a b (k+1)=if a/B^k%B<b/B^k%B+owed B a b k then 1 else 0:=by
 have hp:0<B^k:=QAl hB
 rw[owed,owed,QbW,QbW]
 have ha:=QyS a hp
 have hb:=QyS b hp
 generalize a%B^k=x at *
 generalize b%B^k=y at *
 generalize a/B^k%B=p at *
 generalize b/B^k%B=q at *
 generalize B^k=M at *
 have e:∀p q:Nat,p+1≤q→M*p+M≤M*q:=fun p q h=>by
  have:=QzF M h
  rwa [Qzo,QzY]at this
 rcases Nat.lt_trichotomy p q with h|h|h
 ·have:=e p q h
  rw[if_pos (by omega),if_pos (by split<;>omega)]
 ·subst h
  by_cases hxy:x<y
  ·rw[if_pos (by omega),if_pos (by rw[if_pos hxy];omega)]
  ·rw[if_neg (by omega),if_neg (by rw[if_neg hxy];omega)]
 ·have:=e q p h
  rw[if_neg (by omega),if_neg (by split<;>omega)]
theorem Qqp (a b M N qa ra qb rb w:Nat) (ea:M*qa+ra=a) (eb:M*qb+rb=b) (hb:rb<M) (ha:ra<M) (hq:qb+1≤N) (hw:w=if ra<rb then 1 else 0):
 a+M*N-b=(ra+w*M-rb)+M*(qa+N-qb-w)∧ra+w*M-rb<M:=by
 obtain⟨t,rfl⟩:∃t,N=qb+1+t:=⟨N-qb-1,by omega⟩
 subst ea
 subst eb
 subst hw
 by_cases h:ra<rb
 ·rw[if_pos h,show qa+(qb+1+t)-qb-1=qa+t by omega]
  simp only[Qzo,QzY,Nat.one_mul]
  omega
 ·rw[if_neg h,show qa+(qb+1+t)-qb-0=qa+1+t by omega]
  simp only[Qzo,QzY,Qz6]
  omega
theorem Qq5 {B:Nat} (hB:0<B) (a b k n:Nat) (hk:k<n) (hb:b<B^n):(a/B^k%B+B-b/B^k%B-owed B a b k)%B=(a+B^n-b)/B^k%B:=by
 have hp:0<B^k:=QAl hB
 obtain⟨m,rfl⟩:∃m,n=k+(m+1):=⟨n-k-1,by omega⟩
 have hbk:b/B^k<B^(m+1):=by
  rw[QzX]at hb
  exact QzA hb
 obtain⟨key,hr⟩:=Qqp a b (B^k) (B^(m+1)) (a/B^k) (a%B^k) (b/B^k) (b%B^k) (owed B a b k) (Qzh a _) (Qzh b _) (QyS b hp) (QyS a hp) hbk rfl
 rw[←QzX]at key
 rw[key,QzK _ _ hp,Qzv hr,QyY]
 have hq:b/B^k%B<B:=QyS _ hB
 have e3:=Qzh (a/B^k) B
 have e4:=Qzh (b/B^k) B
 have hle:b/B^k/B<B^m:=QzA (by rw[Qz0]at hbk;exact hbk)
 have hol:=QoG B a b k
 have key2:a/B^k+B^(m+1)-b/B^k-owed B a b k=(a/B^k%B+B-b/B^k%B-owed B a b k)+B*(a/B^k/B+B^m-b/B^k/B-1):=by
  rw[Qz0,Nat.mul_sub,Nat.mul_sub,Qzo,QzY]
  have e1:B*(b/B^k/B)+B≤B*B^m:=by
   have:=QzF B hle
   rwa [Nat.succ_eq_add_one,Qzo,QzY]at this
  omega
 rw[key2,Nat.add_mul_mod_self_left]
def Qcb {α:Type} (S A:List α) (k:Nat):List α:=S.take k++A.drop k
theorem Qa9 {α:Type} (S A:List α) (k:Nat) (h:S.length=A.length):(Qcb S A k).length=A.length:=by
 simp[Qcb,h]
 omega
theorem Qch {α:Type} (S A:List α):Qcb S A 0=A:=by simp[Qcb]
theorem QcI {α:Type} (S A:List α) (k:Nat) (h:S.length=k) (h2:A.length=k):Qcb S A k=S:=by simp[Qcb,←h,Qzm,h2]
theorem QfJ {α:Type} (S A:List α) (k j:Nat) (h:S.length=A.length) (hk:k≤j) (hj:j<A.length):(Qcb S A k)[j]?=A[j]?:=by
 rw[Qcb,Qyz (by simp;omega),QzC]
 congr 1
 simp
 omega
theorem QbS {α:Type} (S A:List α) (k:Nat) (v:α) (h:S.length=A.length) (hk:k<A.length) (hv:S[k]?=some v):(Qcb S A k).set k v=Qcb S A (k+1):=by
 rw[Qcb,Qcb,QyW _ _ (by simp;omega),List.take_add_one,hv,QyE]
 congr 1
 rw[QzT hk]
 have:k-(S.take k).length=0:=by simp;omega
 rw[this,QyI]
 rfl
def Qa6 (B x:Nat) (ys ws:List Nat) (i:Nat):Nat→List Nat×Nat
 | 0=>(ws,0)
 | j+1=>((Qa6 B x ys ws i j).1.set (i+j) ((x*ys.getD j 0+(Qa6 B x ys ws i j).1.getD (i+j) 0+(Qa6 B x ys ws i j).2)%B),
    (x*ys.getD j 0+(Qa6 B x ys ws i j).1.getD (i+j) 0+(Qa6 B x ys ws i j).2)/B)
theorem Qco (B x:Nat) (ys ws:List Nat) (i:Nat):∀j,(Qa6 B x ys ws i j).1.length=ws.length
 | 0=>rfl
 | j+1=>by rw[Qa6,Qy2,Qco]
theorem Qsh {B:Nat} {l:List Nat} (h:∀x∈l,x<B) (i v:Nat) (hv:v<B):∀x∈l.set i v,x<B:=by
 intro x hx
 rcases List.mem_or_eq_of_mem_set hx with hx|rfl
 ·exact h x hx
 ·exact hv
theorem QiH {B:Nat} (hB:0<B) {l:List Nat} (h:∀x∈l,x<B) (i:Nat):l.getD i 0<B:=by
 rw[Qys]
 rcases Qzs i l.length with hi|hi
 ·rw[Qyq hi]
  exact h _ (QzH hi)
 ·rw[Qzq hi]
  exact hB
theorem Qu6 {B x y w c:Nat} (hx:x<B) (hy:y<B) (hw:w<B) (hc:c<B):(x*y+w+c)/B<B:=by
 refine QzA ?_
 have h1:x*y≤(B-1)*(B-1):=Nat.mul_le_mul (by omega) (by omega)
 have h2:(B-1)*(B-1)+(B-1)+(B-1)<B*B:=by
  obtain⟨k,rfl⟩:∃k,B=k+1:=⟨B-1,by omega⟩
  rw[Nat.add_sub_cancel,QAn,Qzo]
  omega
 omega
theorem QiM {B:Nat} (x:Nat) (ys ws:List Nat) (i:Nat) (hx:x<B) (hy:∀y∈ys,y<B) (hw:∀y∈ws,y<B):∀j,(∀ y∈(Qa6 B x ys ws i j).1,y<B)∧(Qa6 B x ys ws i j).2<B
 | 0=>⟨hw,by rw[Qa6];omega⟩
 | j+1=>by
   have hB:0<B:=by omega
   obtain⟨h1,h2⟩:=QiM x ys ws i hx hy hw j
   exact⟨Qsh h1 _ _ (QyS _ hB),Qu6 hx (QiH hB hy j) (QiH hB h1 _) h2⟩
theorem Qgt (B x:Nat) (ys ws:List Nat) (i k:Nat):∀j,i+j≤k→(Qa6 B x ys ws i j).1[k]?=ws[k]?
 | 0,_=>rfl
 | j+1,h=>by rw[Qa6,QzB (by omega),Qgt B x ys ws i k j (by omega)]
theorem QdJ (B:Nat) (l:List Nat) (k:Nat) (h:k<l.length):val B (l.take (k+1))=val B (l.take k)+B^k*l.getD k 0:=by
 rw[QyQ h,Qh6,QyL,QzD (by omega),Qys,Qyq h]
 simp[val]
theorem QjJ {B:Nat} (x:Nat) (ys ws:List Nat) (i:Nat):∀j,j≤ys.length→i+j≤ws.length→
 val B (Qa6 B x ys ws i j).1+B^(i+j)*(Qa6 B x ys ws i j).2=val B ws+B^i*(x*val B (ys.take j))
 | 0,_,_=>by simp[Qa6,val]
 | j+1,h1,h2=>by
   have ih:=QjJ (B:=B) x ys ws i j (by omega) (by omega)
   have hs:=Qk5 B (Qa6 B x ys ws i j).1 (i+j) ((x*ys.getD j 0+(Qa6 B x ys ws i j).1.getD (i+j) 0+(Qa6 B x ys ws i j).2)%B) (by rw[Qco];omega)
   have hd:=Qzh (x*ys.getD j 0+(Qa6 B x ys ws i j).1.getD (i+j) 0+(Qa6 B x ys ws i j).2) B
   rw[Qa6,QdJ B ys j (by omega)]
   simp only
   generalize (Qa6 B x ys ws i j).1.getD (i+j) 0=w at *
   generalize (Qa6 B x ys ws i j).2=c at *
   generalize ys.getD j 0=y at *
   generalize (x*y+w+c)/B=q at *
   generalize (x*y+w+c)%B=r at *
   generalize val B ((Qa6 B x ys ws i j).1.set (i+j) r)=V at *
   generalize val B (Qa6 B x ys ws i j).1=U at *
   generalize val B (ys.take j)=Y at *
   generalize val B ws=W at *
   have e1:B^(i+(j+1))=B^(i+j)*B:=by rw[←Nat.add_assoc,Qzx]
   have e2:B^i*(x*(Y+B^j*y))=B^i*(x*Y)+B^(i+j)*(x*y):=by
    rw[QzX,Qzo,Qzo]
    congr 1
    rw[Qzr,QAg x]
   have e3:B^(i+j)*(B*q+r)=B^(i+j)*(x*y+w+c):=by rw[hd]
   rw[e1,e2,Qzr]
   rw[Qzo,Qzo,Qzo]at e3
   generalize B^(i+j)*(B*q)=A1 at *
   generalize B^(i+j)*r=A2 at *
   generalize B^(i+j)*(x*y)=A3 at *
   generalize B^(i+j)*w=A4 at *
   generalize B^(i+j)*c=A5 at *
   generalize B^i*(x*Y)=A6 at *
   omega
def Qbx (B:Nat) (xs ys:List Nat) (n:Nat):Nat→List Nat
 | 0=>Qym n 0
 | i+1=>(Qa6 B (xs.getD i 0) ys (Qbx B xs ys n i) i ys.length).1.set (i+ys.length) (Qa6 B (xs.getD i 0) ys (Qbx B xs ys n i) i ys.length).2
theorem Qb0 (B:Nat) (xs ys:List Nat) (n:Nat):∀i,(Qbx B xs ys n i).length=n
 | 0=>by simp[Qbx]
 | i+1=>by rw[Qbx,Qy2,Qco,Qb0]
theorem Qg5 {B:Nat} (hB:0<B) (xs ys:List Nat) (n:Nat) (hx:∀x∈xs,x<B) (hy:∀y∈ys,y<B):∀i,∀w∈Qbx B xs ys n i,w<B
 | 0,w,h=>by
   have:=List.eq_of_mem_replicate h
   omega
 | i+1,w,h=>by
   have:=QiM (xs.getD i 0) ys (Qbx B xs ys n i) i (QiH hB hx i) hy (Qg5 hB xs ys n hx hy i) ys.length
   exact Qsh this.1 _ _ this.2 w h
theorem Qhy (B:Nat) (xs ys:List Nat) (n k:Nat):∀i,i+ys.length≤k→k<n→(Qbx B xs ys n i)[k]?=some 0
 | 0,_,hk=>by rw[Qbx,List.getElem?_replicate,if_pos hk]
 | i+1,h,hk=>by rw[Qbx,QzB (by omega),Qgt _ _ _ _ _ _ _ (by omega),Qhy B xs ys n k i (by omega) hk]
theorem QhJ {B:Nat} (xs ys:List Nat) (n:Nat):∀i,i≤xs.length→i+ys.length≤n→val B (Qbx B xs ys n i)=val B (xs.take i)*val B ys
 | 0,_,_=>by simp[Qbx,QiW,val]
 | i+1,h1,h2=>by
   have ih:=QhJ (B:=B) xs ys n i (by omega) (by omega)
   have hr:=QjJ (B:=B) (xs.getD i 0) ys (Qbx B xs ys n i) i ys.length (Qyw _) (by rw[Qb0];omega)
   have hf:=Qgt B (xs.getD i 0) ys (Qbx B xs ys n i) i (i+ys.length) ys.length (Qyw _)
   rw[Qhy B xs ys n _ i (Qyw _) (by omega)]at hf
   have hs:=Qk5 B (Qa6 B (xs.getD i 0) ys (Qbx B xs ys n i) i ys.length).1 (i+ys.length) (Qa6 B (xs.getD i 0) ys (Qbx B xs ys n i) i ys.length).2 (by rw[Qco,Qb0];omega)
   have hf':(Qa6 B (xs.getD i 0) ys (Qbx B xs ys n i) i ys.length).1.getD (i+ys.length) 0=0:=by rw[Qys,hf];rfl
   rw[hf',Nat.mul_zero,QzO,hr,ih,List.take_length]at hs
   rw[Qbx,hs,QdJ B xs i (by omega),QAn,Qzr]
end Go.Proofs.YtdhgpkdjdmlphaaGreat
namespace Go.Proofs.YtdhgpkdjdmlphaaGreat
open Go.RowKit
def B64:Nat:=18446744073709551616
def B32:Nat:=4294967296
theorem Qaz:0<B64:=by decide
theorem QfA:0<B32:=by decide
def n64 (n:Nat):Value:=W64 (QyO n)
def n32 (n:Nat):Value:=W32 (QyX n)
def n8 (n:Nat):Value:=W8 (QyP n)
@[go_sem] theorem Qxr (n:Nat):(n%B64<B64)=True:=eq_true (QyS _ Qaz)
@[go_sem] theorem Qxp (n:Nat):(n%B32<B32)=True:=eq_true (QyS _ QfA)
theorem Qgd {n:Nat} {x:UInt64} (h:x.toNat=n%B64):W64 x=n64 n:=by
 unfold B64 at h
 rw[n64]
 congr 1
 apply Qz9.1
 rw[QyR,h]
theorem QqW {n:Nat} {x:UInt32} (h:x.toNat=n%B32):W32 x=n32 n:=by
 unfold B32 at h
 rw[n32]
 congr 1
 apply UInt32.toNat_inj.1
 rw[UInt32.toNat_ofNat',h]
theorem n8_w {n:Nat} {x:UInt8} (h:x.toNat=n%256):W8 x=n8 n:=by
 rw[n8]
 congr 1
 apply Qzp.1
 rw[Qzl,h]
theorem Qsu {n m:Nat} (h:n%B64=m%B64):n64 n=n64 m:=by
 rw[n64]
 apply Qgd
 rw[QyR,←h]
 rfl
theorem QxI (x:UInt64):W64 x=n64 x.toNat:=by rw[n64,UInt64.ofNat_toNat]
theorem tn64 {n:Nat} (h:n<B64):(QyO n).toNat=n:=by
 unfold B64 at h
 rw[QyR]
 exact QyN h
theorem tn32 {n:Nat} (h:n<B32):(QyX n).toNat=n:=by
 unfold B32 at h
 rw[UInt32.toNat_ofNat']
 exact QyN h
theorem Qd3 {n:Nat} (h:n<B64):n64 n= .int .u64 (n:Int):=by rw[n64,W64,tn64 h]
theorem Qvm {n:Nat} (h:n<B32):n32 n= .int .u32 (n:Int):=by rw[n32,W32,tn32 h]
theorem QfI (k:Int) (h0:0≤k) (h1:k<18446744073709551616):Value.int .u64 k=n64 k.toNat:=by
 rw[Qd3 (by unfold B64;omega)]
 congr 1
 omega
theorem QsY (k:Int) (h0:0≤k) (h1:k<4294967296):Value.int .u32 k=n32 k.toNat:=by
 rw[Qvm (by unfold B32;omega)]
 congr 1
 omega
@[go_sem ↓] theorem QuY (x:Nat):(n64 x).cells= #[n64 x]:=rfl
@[go_sem ↓] theorem QvJ (x:Nat):(n32 x).cells= #[n32 x]:=rfl
@[go_sem ↓] theorem QwV (x:Nat):(n8 x).cells= #[n8 x]:=rfl
theorem Qs0 (l:List Nat):∀v∈l.map n64,v.oneCell'=true:=by
 intro v hv
 obtain⟨x,_,rfl⟩:=Qzb.1 hv
 rfl
@[go_sem] theorem Qwp:(0<B64)=True:=eq_true Qaz
@[go_sem] theorem QxO:(1<B64)=True:=eq_true (by decide)
@[go_sem] theorem Qws:(0<B32)=True:=eq_true QfA
@[go_sem] theorem Qx5:(1<B32)=True:=eq_true (by decide)
section
variable (T:TypeId) (ox oy:Operand)
@[go_sem] theorem QtR (op:BinOp) (x y:Nat):eqGuard op T ox oy (n64 x) (n64 y)=pure ():=QaL ..
@[go_sem] theorem Qr7 (op:BinOp) (x:Nat) (k:IntKind) (y:Int):eqGuard op T ox oy (n64 x) (.int k y)=pure ():=QaL ..
@[go_sem] theorem Qr1 (op:BinOp) (x:Nat) (k:IntKind) (y:Int):eqGuard op T ox oy (.int k y) (n64 x)=pure ():=QaL ..
@[go_sem] theorem Qs4 (op:BinOp) (x y:Nat):eqGuard op T ox oy (n32 x) (n32 y)=pure ():=QaL ..
@[go_sem] theorem Qr9 (op:BinOp) (x:Nat) (k:IntKind) (y:Int):eqGuard op T ox oy (n32 x) (.int k y)=pure ():=QaL ..
@[go_sem] theorem Qr0 (op:BinOp) (x:Nat) (k:IntKind) (y:Int):eqGuard op T ox oy (.int k y) (n32 x)=pure ():=QaL ..
@[go_sem] theorem QnM (x y:Nat):binOp .add T (n64 x) (n64 y)=pure (n64 (x+y)):=by
  rw[n64,n64,Qla,Qgd]
  rw[UInt64.toNat_add,QyR,QyR]
  unfold B64
  omega
@[go_sem] theorem QwO (x:Nat) (k:Int) (h0:0≤k) (h1:k<18446744073709551616):binOp .add T (n64 x) (.int .u64 k)=pure (n64 (x+k.toNat)):=by rw[QfI k h0 h1,QnM]
@[go_sem] theorem QwG (x:Nat) (k:Int) (h0:0≤k) (h1:k<18446744073709551616):binOp .add T (.int .u64 k) (n64 x)=pure (n64 (k.toNat+x)):=by rw[QfI k h0 h1,QnM]
@[go_sem] theorem Qx8 (x y:Nat) (hx:x<B64) (hy:y≤x):binOp .sub T (n64 x) (n64 y)=pure (n64 (x-y)):=by
  rw[n64,n64,Qlj,Qgd]
  unfold B64 at hx
  rw[UInt64.toNat_sub,QyR,QyR]
  unfold B64
  omega
@[go_sem] theorem Qkk (x y:Nat):binOp .mul T (n64 x) (n64 y)=pure (n64 (x*y)):=by
  rw[n64,n64,Qld,Qgd]
  rw[UInt64.toNat_mul,QyR,QyR]
  exact (QzL x y B64).symm
@[go_sem] theorem Qv1 (x:Nat) (k:Int) (h0:0≤k) (h1:k<18446744073709551616):binOp .mul T (n64 x) (.int .u64 k)=pure (n64 (x*k.toNat)):=by rw[QfI k h0 h1,Qkk]
@[go_sem] theorem QwY (x:Nat) (k:Int) (h0:0≤k) (h1:k<18446744073709551616):binOp .mul T (.int .u64 k) (n64 x)=pure (n64 (k.toNat*x)):=by rw[QfI k h0 h1,Qkk]
theorem QeV (x:Nat) (k:Nat):x &&& (2^k-1)=x%2^k:=Nat.and_two_pow_sub_one_eq_mod x k
@[go_sem] theorem QuH (x:Nat):binOp .and T (n64 x) (.int .u64 9223372036854775807)=pure (n64 (x%9223372036854775808)):=by
  rw[n64,Qik _ _ _ (by omega) (by omega),Qgd]
  rw[UInt64.toNat_and,QyR,QyR]
  have:=QeV (x%2^64) 63
  unfold B64
  simp only[Int.reduceToNat,Nat.reducePow,Nat.reduceSub,Nat.reduceMod]at this ⊢
  rw[this]
  omega
@[go_sem] theorem Qvr (x:Nat):binOp .and T (n64 x) (.int .u64 4294967295)=pure (n64 (x%4294967296)):=by
  rw[n64,Qik _ _ _ (by omega) (by omega),Qgd]
  rw[UInt64.toNat_and,QyR,QyR]
  have:=QeV (x%2^64) 32
  unfold B64
  simp only[Int.reduceToNat,Nat.reducePow,Nat.reduceSub,Nat.reduceMod]at this ⊢
  rw[this]
  omega
@[go_sem] theorem QvU (x:Nat):binOp .and T (n64 x) (.int .u64 1)=pure (n64 (x%2)):=by
  rw[n64,Qik _ _ _ (by omega) (by omega),Qgd]
  rw[UInt64.toNat_and,QyR,QyR]
  have:=QeV (x%2^64) 1
  unfold B64
  simp only[Int.reduceToNat,Nat.reducePow,Nat.reduceSub,Nat.reduceMod]at this ⊢
  rw[this]
  omega
@[go_sem] theorem Quf (x:Nat) (hx:x<B64) (yk:IntKind) (k:Int) (h0:0≤k):binOp .shr T (n64 x) (.int yk k)=pure (n64 (x/2^k.toNat)):=by
  rw[n64,Qip _ _ _ _ h0,Qgd]
  rw[QdU]
  show (BitVec.toNat _)=_
  rw[Qzd]
  show (QyO x).toNat >>> _=_
  rw[tn64 hx,Qza]
  have:x/2^k.toNat<B64:=QzN (Nat.div_le_self _ _) hx
  rw[QyN this]
@[go_sem] theorem Qth (x:Nat) (hx:x<B64) (k:Int) (h0:0<k) (h1:k<18446744073709551616):binOp .rem T (n64 x) (.int .u64 k)=pure (n64 (x%k.toNat)):=by
  rw[n64,Qrw _ _ _ (by omega) h1 (by rw[QyR];omega),Qgd]
  rw[UInt64.toNat_mod,tn64 hx,QyR,QyN (show k.toNat<2^64 by omega),QyN (QzN (Nat.mod_le _ _) hx)]
@[go_sem] theorem Qut (x:Nat):binOp .rem T (n64 x) (.int .u64 4294967296)=pure (n64 (x%B32)):=by
  rw[Qsu (show x%B64=(x%B64)%B64 by rw[QAb]),Qth _ _ (QyS _ Qaz) _ (by omega) (by omega)]
  congr 2
  unfold B64 B32
  simp only[Int.reduceToNat]
  omega
theorem QtQ (x y:Nat) (hx:x<B64) (hy:y<B64):binOp .eql T (n64 x) (n64 y)=pure (.bool (x==y)):=by
 rw[n64,n64,Qki]
 congr 2
 rw[Qy7]
 simp only[beq_iff_eq,←Qz9,tn64 hx,tn64 hy]
@[go_sem] theorem QwL (x:Nat) (k:Int) (hx:x<B64) (h0:0≤k) (h1:k<18446744073709551616):binOp .eql T (n64 x) (.int .u64 k)=pure (.bool (x==k.toNat)):=by
  rw[QfI k h0 h1,QtQ _ _ _ hx (by unfold B64;omega)]
@[go_sem] theorem QwH (x:Nat) (k:Int) (hx:x<B64) (h0:0≤k) (h1:k<18446744073709551616):binOp .gtr T (n64 x) (.int .u64 k)=pure (.bool (decide (k.toNat<x))):=by
  rw[QfI k h0 h1,n64,n64,Qli]
  congr 2
  rw[Qy7]
  simp only[decide_eq_true_eq,UInt64.lt_iff_toNat_lt,tn64 hx]
  rw[tn64 (show k.toNat<B64 by unfold B64;omega)]
@[go_sem] theorem Qw7 (x y:Nat) (hx:x<B64) (hy:y<B64):binOp .lss T (n64 x) (n64 y)=pure (.bool (decide (x<y))):=by
  rw[n64,n64,QkZ]
  congr 2
  rw[Qy7]
  simp only[decide_eq_true_eq,UInt64.lt_iff_toNat_lt,tn64 hx,tn64 hy]
end
section
variable {P:Program} (w:World) (S D:TypeId)
@[go_sem] theorem Qk3 (x:Nat) (hx:x<B32) (hs:(P.underlying S).isSome=true) (hd:P.underlying D=some (.int .u64)):(convert S D (n32 x)).run P w= .ok (n64 x) w:=by
  rw[n32,QeY _ _ _ _ hs hd,Qgd]
  rw[UInt32.toNat_toUInt64,tn32 hx,QyN (show x<B64 by unfold B32 at hx;unfold B64;omega)]
@[go_sem] theorem QkE (x:Nat) (hs:(P.underlying S).isSome=true) (hd:P.underlying D=some (.int .u32)):(convert S D (n64 x)).run P w= .ok (n32 x) w:=by
  rw[n64,QeW _ _ _ _ hs hd,QqW]
  rw[UInt64.toNat_toUInt32,QyR]
  unfold B32
  omega
@[go_sem] theorem QlU (x:Nat) (hs:(P.underlying S).isSome=true) (hd:P.underlying D=some (.int .u8)):(convert S D (n64 x)).run P w= .ok (n8 x) w:=by
  rw[n64,Qe1 _ _ _ _ hs hd,n8_w]
  rw[QAc,QyR]
  omega
@[go_sem] theorem QqV (P:Program) (w:World) (a:Addr) (m:Mode) (x:Nat):(store a (n64 x) m).run P w=stored P w a (n64 x) m:=run_store P w a _ m rfl
@[go_sem] theorem QqN (P:Program) (w:World) (a:Addr) (m:Mode) (x:Nat):(store a (n32 x) m).run P w=stored P w a (n32 x) m:=run_store P w a _ m rfl
@[go_sem] theorem Qsc (P:Program) (w:World) (a:Addr) (m:Mode) (x:Nat):(store a (n8 x) m).run P w=stored P w a (n8 x) m:=run_store P w a _ m rfl
end
def EL (n:Nat):List Value:=(dig B64 4 n).map n64
abbrev E (n:Nat):Value:=.agg (EL n).toArray
theorem Qag (n:Nat):(EL n).length=4:=by rw[EL,Qyn,QaG]
def lim (n i:Nat):Nat:=n/B64^i%B64
@[go_sem] theorem Qyi (n i:Nat):(lim n i<B64)=True:=eq_true (QyS _ Qaz)
theorem Qb1 (n i:Nat) (h:i<4):(EL n)[i]?=some (n64 (lim n i)):=by rw[EL,QyF,QeT _ _ _ _ h];rfl
@[go_sem] theorem Qoj (n i:Nat) (h:i<(EL n).length):(EL n)[i]=n64 (lim n i):=by
  have:=Qb1 n i (by rw[Qag]at h;exact h)
  rw[Qyq h]at this
  exact Option.some.inj this
theorem Qfr (x y c:Nat) (hx:x<B64) (hy:y<B64) (hc:c≤1) (w:World):
 (callFunc 176 #[n64 x,n64 y,n64 c]).run Tryz.prog w= .ok (.value (.tuple #[n64 ((x+y+c)%B64),n64 ((x+y+c)/B64)])) w:=by
 rw[Qd3 hx,Qd3 hy,Qd3 (show c<B64 by unfold B64;omega),run_callFunc_extern Tryz.func176 (by kernel_rfl) (by kernel_rfl) (by kernel_rfl) (e:=add64Entry) (by kernel_rfl),run_add64 _ _ _ (by omega) (by omega) (by omega) (by omega)]
 simp only[Result.andThen]
 rw[Qd3 (QyS _ Qaz),Qd3 (show (x+y+c)/B64<B64 by unfold B64 at *;omega)]
 congr 5<;>(unfold B64;omega)
@[go_sem high] theorem run_add64 (x y c:Nat) (hx:x<B64) (hy:y<B64) (hc:c≤1) (w:World):
   (callFunc 176 #[n64 x,n64 y,n64 c]).run Tryz.prog w= .ok (.value (.tuple #[n64 ((x+y+c)%B64),n64 ((x+y+c)/B64)])) w:=Qfr x y c hx hy hc w
@[go_sem high] theorem Qtp (x y:Nat) (hx:x<B64) (hy:y<B64) (w:World):
   (callFunc 176 #[n64 x,n64 y,.int .u64 0]).run Tryz.prog w= .ok (.value (.tuple #[n64 ((x+y)%B64),n64 ((x+y)/B64)])) w:=Qfr x y 0 hx hy (by omega) w
@[go_sem high] theorem Qtf (x c:Nat) (hx:x<B64) (hc:c≤1) (w:World):
   (callFunc 176 #[n64 x,.int .u64 0,n64 c]).run Tryz.prog w= .ok (.value (.tuple #[n64 ((x+c)%B64),n64 ((x+c)/B64)])) w:=Qfr x 0 c hx Qaz hc w
theorem Ql8 (n:Nat):∀v∈EL n,v.oneCell'=true:=Qs0 _
theorem Qjk {B n:Nat} (h:n<B) (k:Nat) (hk:0<k):n/B^k%B=0:=by
 rw[Qzv (QyG h (Nat.le_pow (by omega))),Nat.zero_mod]
set_option maxHeartbeats 1000000 in
theorem Qfe (a n:Nat) (hn:n<B64) (w:World):
 Calls Tryz.prog 154 #[E a,n64 n] w fun e w'=>e= .returned (.tuple #[E (a+n),n64 ((a%B64^4+n)/B64^4)])∧Later w w':=by
 have hlS:=Qag (a+n)
 have hlA:=Qag a
 have hb:Blk ((w.alloc (.cells (EL a).toArray 211)).alloc (.cells (Qym 4 (.int .u64 0)).toArray 211)) w.heap.size 211 (EL a):=(Blk.new _ _ _).later (Qaa _ _)
 have hr:Blk ((w.alloc (.cells (EL a).toArray 211)).alloc (.cells (Qym 4 (.int .u64 0)).toArray 211)) (w.heap.size+1) 211 (Qym 4 (.int .u64 0)):=Blk.new' _ _ _ (by simp)
 go_enter Tryz.func154,Tryz.ntmps154
 go_wp2_with (first
  | (refine Qae rfl rfl _ _ _ rfl _ _ _ _ hb rfl ?hl rfl (by kernel_rfl) ?_;(case hl=>omega);intro v w1 hv hb1 ho1;simp[go_sem]at hv;subst hv))
 have e0:(lim a 0+n)%B64=lim (a+n) 0:=by
  simp[lim]
 have e1:(lim a 0+n)/B64=carr B64 a n 0 1:=by
  simp[carr,lim,QyN hn]
 rw[e0,←Qch (EL (a+n)) (EL a),QbS _ _ _ _ (by omega) (by omega) (Qb1 (a+n) 0 (by omega))]at hb1
 have HE:=hid e1
 clear e0 e1
 have L1:Later w w1:=((Qaa _ _).trans (Qaa _ _)).only ho1 (Qyw _)
 have hr1:=hr.only ho1 (by omega)
 go_loopw [6,7] (fun c i wr=>∃k:Nat,1≤k∧k≤4∧i= .int .i64 k∧c=n64 (carr B64 a n 0 k)∧Blk wr w.heap.size 211 (Qcb (EL (a+n)) (EL a) k)∧Blk wr (w.heap.size+1) 211 (Qym 4 (.int .u64 0))∧Later w wr) (fun _ i _=>4-(intOf i).toNat)
 case atStart=>exact⟨1,by omega,by omega,rfl,by rw[HE.out],hb1,hr1,L1⟩
 case round=>
  clear hb hr hb1 hr1 L1 ho1 HE
  obtain⟨k,hk1,hk4,rfl,rfl,hb,hr,L⟩:=hrel
  by_cases hlt:k<4
  ·have hc:=Qou Qaz a n 0 k (by omega)
   have S0:=hid (Qo4 Qaz a n 0 k)
   have S1:=hid (Qjd Qaz a n 0 k)
   have d0:=hb.cellD k (u:=n64 (lim a k)) (by rw[QfJ _ _ _ _ (by omega) (Qyw _) (by omega)];exact Qb1 a k hlt)
   generalize carr B64 a n 0 k=c at *
   go_wp2_with (first
    | (refine Qae rfl rfl _ _ _ rfl _ _ _ _ hb rfl ?hl rfl (by kernel_rfl) ?_;(case hl=>rw[Qa9 _ _ _ (by omega)];omega);intro v w2 hv hb2 ho2;simp[go_sem]at hv;subst hv))
   go_roundw
   case rel=>
    have z:n/B64^k%B64=0:=Qjk hn k hk1
    have e0:=S0.out
    have e1:=S1.out
    rw[z]at e0 e1
    rw[QbS _ _ _ _ (by omega) (by omega) (by rw[Qb1 (a+n) k hlt,lim,lim,←QzO (a+n),←e0,QzO])]at hb2
    exact⟨k+1,by omega,by omega,by go_num,by rw[←e1];rfl,hb2,hr.only ho2 (by omega),L.only ho2 (Qyw _)⟩
   case measure=>simp[intOf];omega
  ·obtain rfl:k=4:=by omega
   have hcE:carr B64 a n 0 4=(a%B64^4+n)/B64^4:=by
    rw[carr,QyN (show n<B64^4 from QyG hn (Nat.le_pow (by omega)))]
    rfl
   rw[QcI _ _ _ hlS hlA]at hb
   have HC:=hid hcE
   clear hcE
   go_wp2_with (first
    | (refine Qau rfl 211 _ rfl w.heap.size 0 (EL (a+n)) ?hc ?hx _ Tryz.underlying211 rfl ?hi ?_;(case hx=>rfl);(case hi=>rw[hlS];kernel_rfl);(case hc=>intro j v hv;rw[QyY];exact hb.cellD j hv))
    | (refine Qai rfl rfl 211 _ _ rfl (w.heap.size+1) 0 211 _ (EL (a+n)) hr ?hx ?hy ?hi ?hf ?h1 ?_;(case hx=>rfl);(case hy=>rfl);(case hi=>rw[hlS];kernel_rfl);(case hf=>simp[hlS]);(case h1=>exact Ql8 _);intro w9 hb9 ho9))
   rw[Qam _ _ (by simp[hlS])]at hb9
   exact bodyPost_ret (Qah rfl _ _ _ _ (EL (a+n)) _ hb9 rfl Tryz.underlying211 rfl (by rw[hlS];kernel_rfl)) rfl ⟨by rw[←HC.out];rfl,L.only ho9 (by omega)⟩
def P25:Nat:=57896044618658097711785492504343953926634992332820282019728792003956564819949
def T255:Nat:=57896044618658097711785492504343953926634992332820282019728792003956564819968
def T256:Nat:=115792089237316195423570985008687907853269984665640564039457584007913129639936
theorem QcK:B64^4=T256:=by decide
theorem Qbw:0<P25:=by decide
theorem Qpg (n:Nat) (hn:n<T256):∃u,u=n%T255+19*(n/T255)∧(u+19<T255→u=n%P25)∧(T255≤u+19→u+19<T256∧u+19-T255=n%P25):=by
 refine⟨_,rfl,?_,?_⟩<;>unfold T255 P25 at* <;>unfold T256 at* <;>omega
theorem lim3 (n:Nat) (hn:n<T256):lim n 3/9223372036854775808=n/T255:=by
 unfold lim B64 T255
 unfold T256 at hn
 omega
theorem Ql9 (n:Nat):(EL n).set 3 (n64 (lim n 3%9223372036854775808))=EL (n%T255):=by
 have h0:lim n 0=lim (n%T255) 0:=by unfold lim T255 B64;omega
 have h1:lim n 1=lim (n%T255) 1:=by unfold lim T255 B64;omega
 have h2:lim n 2=lim (n%T255) 2:=by unfold lim T255 B64;omega
 have h3:lim n 3%9223372036854775808=lim (n%T255) 3:=by unfold lim T255 B64;omega
 have e:∀m,EL m=[n64 (lim m 0),n64 (lim m 1),n64 (lim m 2),n64 (lim m 3)]:=by
  intro m
  apply List.ext_getElem (Qag m)
  intro i hi1 hi2
  rw[Qoj]
  have:i=0∨i=1∨i=2∨i=3:=by rw[Qag]at hi1;omega
  rcases this with rfl|rfl|rfl|rfl<;>rfl
 rw[e,e,h0,h1,h2,h3]
 rfl
theorem Qfy:(Tryz.prog.info? 211).map (·.size)=some 4:=by kernel_rfl
section
variable {ops:Array Oper} {rest:List Oper} {o:Oper} {a:Act} {w:World} {Q:Exit→Act→World→Prop}
theorem Qa2 (hgd:Region.wanted o (yielded ops a.tmps)=true) (x:Operand) (ho:o.op= .load 211 x) {g:Nat} {t:TypeId} {n:Nat} (hb:Blk w g t (EL n)) (hx:a.eval x= .pointer (some ⟨g,0,none⟩))
 (h:wpList Tryz.prog ops Q rest (a.put o.dst (E n)) w):wpList Tryz.prog ops Q (o :: rest) a w:=
 QbD hgd _ x ho g t _ hb hx _ Tryz.underlying211 rfl 4 Qfy (Qag n) h
theorem Qas (hgd:o.guard=none) (hd:o.dst=none) (x y:Operand) (ho:o.op= .store 211 x y) {g:Nat} {t:TypeId} {l:List Value} {n:Nat} (hg:Blk w g t l) (hx:a.eval x= .pointer (some ⟨g,0,none⟩)) (hy:a.eval y=E n) (hl:l.length=4)
 (h:∀w',Blk w' g t (EL n)→Only g w w'→wpList Tryz.prog ops Q rest a w'):wpList Tryz.prog ops Q (o :: rest) a w:=
 Qa7 hgd hd _ x y ho g t l _ hg hx hy 4 Qfy (Qag n) hl (Ql8 n) h
theorem Qfx {fn:Func} {p:Tmp} (hf:fn.results= #[.cell p 211]) {tmps:Array Value} {g:Nat} {t:TypeId} {n:Nat} (hg:Blk w g t (EL n)) (hp:tmps.getD p undef= .pointer (some ⟨g,0,none⟩)):
 (results fn tmps).run Tryz.prog w= .ok (E n) w:=QaE hf tmps w g t _ _ hg hp Tryz.underlying211 rfl (by rw[Qag];exact Qfy)
theorem QbT {K:Act→Prop} (x:Operand) (ho:o.op= .load 211 x) {w0:World} {g:Nat} {t:TypeId} {n:Nat} (hb:Blk w0 g t (EL n)) (hx:a.eval x= .pointer (some ⟨g,0,none⟩)) (h:K (a.put o.dst (E n))):
 o.quiet Tryz.prog a (fun w'=>∃x,w'=grow w0 x) K:=
 Qbc _ x ho g 0 (EL n) (fun w' hw j v hv=>by obtain⟨y,rfl⟩:=hw;rw[QyY];exact (hb.later ⟨y,rfl⟩).cellD j hv) hx _ Tryz.underlying211 rfl (by rw[Qag];exact Qfy) h
end
theorem Qoa (a:Nat) (w:World):Calls Tryz.prog 154 #[E a,.int .u64 19] w fun e w'=>e= .returned (.tuple #[E (a+19),n64 ((a%B64^4+19)/B64^4)])∧Later w w':=Qfe a 19 (by decide) w
set_option maxHeartbeats 1000000 in
theorem Qc5 (n:Nat) (hn:n<T256) (w:World):
 Calls Tryz.prog 123 #[E n] w fun e w'=>e= .returned (E (n%P25))∧Later w w':=by
 obtain⟨u,hu,hu1,hu2⟩:=Qpg n hn
 have hl3:=lim3 n hn
 have hq:n/T255≤1:=by unfold T255;unfold T256 at hn;omega
 have hus:u<T256:=by unfold T255 at hu;unfold T256 at *;omega
 have hus':u+19<T256:=by unfold T255 at hu;unfold T256 at *;omega
 have hlu:=lim3 (u+19) hus'
 have HQ:=hid hl3
 have HU:=hid hu
 have HL:=hid hlu
 clear hl3 hu hlu
 have hlS:=Qag n
 have hb:Blk ((w.alloc (.cells (EL n).toArray 211)).alloc (.cells (Qym 4 (.int .u64 0)).toArray 211)) w.heap.size 211 (EL n):=(Blk.new _ _ _).later (Qaa _ _)
 have hr:Blk ((w.alloc (.cells (EL n).toArray 211)).alloc (.cells (Qym 4 (.int .u64 0)).toArray 211)) (w.heap.size+1) 211 (Qym 4 (.int .u64 0)):=Blk.new' _ _ _ (by simp)
 have hcs:u+19<T255∧(u+19)/T255=0∨T255≤u+19∧(u+19)/T255=1:=by unfold T255;unfold T256 at hus';omega
 rcases hcs with ⟨hlt,hz⟩|⟨hge,hz⟩
 ·have hz':lim (u+19) 3/9223372036854775808=0:=HL.out.trans hz
  have hR:=hid (hu1 hlt)
  clear hz hu1 hu2
  go_enter Tryz.func123,Tryz.ntmps123
  go_wp2_with (first
   | (refine Qae rfl rfl _ _ _ rfl _ _ _ _ hb rfl ?hl rfl (by kernel_rfl) ?_;(case hl=>omega);intro v w1 hv hb1 ho1;simp[go_sem]at hv;subst hv
      rw[Ql9]at hb1
      have hr1:=hr.only ho1 (by omega)
      have L1:Later w w1:=((Qaa _ _).trans (Qaa _ _)).only ho1 (Qyw _)
      clear hb hr ho1)
   | (refine Qa2 rfl _ rfl hb1 rfl ?_)
   | (go_at_call 154;(with_reducible refine (Qfe (n%T255) _ ?hb19 _).mono ?_);(case hb19=>rw[HQ.out];unfold B64;omega);rintro e w2 ⟨rfl,hl2⟩;rw[HQ.out,←HU.out]
      replace hb1:=hb1.later hl2
      have hr2:=hr1.later hl2
      have L2:=L1.trans hl2
      clear hr1 L1 hl2)
   | (refine Qas rfl rfl _ _ rfl hb1 rfl rfl (Qag _) ?_;intro w3 hb3 ho3
      have hr3:=hr2.only ho3 (by omega)
      have L3:=L2.only ho3 (Qyw _)
      clear hr2 L2 ho3 hb1)
   | (refine Qa2 rfl _ rfl hb3 rfl ?_)
   | (go_at_call 154;(with_reducible refine (Qoa u _).mono ?_);rintro e w4 ⟨rfl,hl4⟩
      have hb4:=(hb3.later hl4).later (Qaa _ (.cells (Qym 4 (.int .u64 0)).toArray 211))
      have hr4:=(hr3.later hl4).later (Qaa _ (.cells (Qym 4 (.int .u64 0)).toArray 211))
      have L4:=(L3.trans hl4).alloc (.cells (Qym 4 (.int .u64 0)).toArray 211)
      have hs4:=hr3.lt
      have hs5:=hl4.size
      have hn4:Blk (w4.alloc (.cells (Qym 4 (.int .u64 0)).toArray 211)) w4.heap.size 211 (Qym 4 (.int .u64 0)):=Blk.new _ _ _
      clear hr3 L3 hl4 hb3)
   | (refine Qas rfl rfl _ _ rfl hn4 rfl rfl rfl ?_;intro w5 hb5 ho5
      have hu5:=hb4.only ho5 (by omega)
      have hr5:=hr4.only ho5 (by omega)
      have L5:=L4.only ho5 (by omega)
      have d5:=hb5.cellD 3 (Qb1 _ 3 (by omega))
      clear hr4 L4 ho5 hb4)
   | (refine Qa2 rfl _ rfl hu5 rfl ?_)
   | (refine Qas rfl rfl _ _ rfl hr5 rfl rfl rfl ?_;intro w6 hb6 ho6))
  exact bodyPost_ret (Qfx rfl hb6 rfl) rfl ⟨by rw[hR.out],L5.only ho6 (by omega)⟩
 ·have hz':lim (u+19) 3/9223372036854775808=1:=HL.out.trans hz
  obtain⟨_,hu3⟩:=hu2 hge
  have hm:(u+19)%T255=n%P25:=by rw[←hu3];unfold T255 at *;unfold T256 at *;omega
  have hR:=hid hm
  clear hz hu1 hu2 hu3 hm
  go_enter Tryz.func123,Tryz.ntmps123
  go_wp2_with (first
   | (refine Qae rfl rfl _ _ _ rfl _ _ _ _ hb rfl ?hl rfl (by kernel_rfl) ?_;(case hl=>omega);intro v w1 hv hb1 ho1;simp[go_sem]at hv;subst hv
      rw[Ql9]at hb1
      have hr1:=hr.only ho1 (by omega)
      have L1:Later w w1:=((Qaa _ _).trans (Qaa _ _)).only ho1 (Qyw _)
      clear hb hr ho1)
   | (refine Qa2 rfl _ rfl hb1 rfl ?_)
   | (go_at_call 154;(with_reducible refine (Qfe (n%T255) _ ?hb19 _).mono ?_);(case hb19=>rw[HQ.out];unfold B64;omega);rintro e w2 ⟨rfl,hl2⟩;rw[HQ.out,←HU.out]
      replace hb1:=hb1.later hl2
      have hr2:=hr1.later hl2
      have L2:=L1.trans hl2
      clear hr1 L1 hl2)
   | (refine Qas rfl rfl _ _ rfl hb1 rfl rfl (Qag _) ?_;intro w3 hb3 ho3
      have hr3:=hr2.only ho3 (by omega)
      have L3:=L2.only ho3 (Qyw _)
      clear hr2 L2 ho3 hb1)
   | (refine Qa2 rfl _ rfl hb3 rfl ?_)
   | (go_at_call 154;(with_reducible refine (Qoa u _).mono ?_);rintro e w4 ⟨rfl,hl4⟩
      have hb4:=(hb3.later hl4).later (Qaa _ (.cells (Qym 4 (.int .u64 0)).toArray 211))
      have hr4:=(hr3.later hl4).later (Qaa _ (.cells (Qym 4 (.int .u64 0)).toArray 211))
      have L4:=(L3.trans hl4).alloc (.cells (Qym 4 (.int .u64 0)).toArray 211)
      have hs4:=hr3.lt
      have hs5:=hl4.size
      have hn4:Blk (w4.alloc (.cells (Qym 4 (.int .u64 0)).toArray 211)) w4.heap.size 211 (Qym 4 (.int .u64 0)):=Blk.new _ _ _
      clear hr3 L3 hl4 hb3)
   | (refine Qas rfl rfl _ _ rfl hn4 rfl rfl rfl ?_;intro w5 hb5 ho5
      have hu5:=hb4.only ho5 (by omega)
      have hr5:=hr4.only ho5 (by omega)
      have L5:=L4.only ho5 (by omega)
      have d5:=hb5.cellD 3 (Qb1 _ 3 (by omega))
      clear hr4 L4 ho5 hb4)
   | (refine Qae rfl rfl _ _ _ rfl _ _ _ _ hb5 rfl ?hl rfl (by kernel_rfl) ?_;(case hl=>rw[Qag];omega);intro v w6 hv hb6 ho6;simp[go_sem]at hv;subst hv
      rw[Ql9,hR.out]at hb6
      have hr6:=hr5.only ho6 (by omega)
      have L6:=L5.only ho6 (by omega))
   | (refine Qa2 rfl _ rfl hb6 rfl ?_)
   | (refine Qas rfl rfl _ _ rfl hr6 rfl rfl rfl ?_;intro w7 hb7 ho7))
  exact bodyPost_ret (Qfx rfl hb7 rfl) rfl ⟨rfl,L6.only ho7 (by omega)⟩
theorem QpJ {a a' b b':Value} (h:a=a') (h':b=b'):Ending.returned (.tuple #[a,b])= .returned (.tuple #[a',b']):=by rw[h,h']
set_option maxHeartbeats 1000000 in
theorem QpR (x y:Nat) (hx:x<B64) (hy:y<B64) (w:World):
 Calls Tryz.prog 191 #[n64 x,n64 y] w fun e w'=>e= .returned (.tuple #[n64 (x*y/B64),n64 (x*y%B64)])∧w=w':=by
 have hB:B64=18446744073709551616:=rfl
 obtain⟨bd,bt,bw,hhi⟩:=Lib.mul64_hi x y hx hy
 rw[←hB]at hhi bd bt bw
 have HH:=hid hhi
 clear hhi hB
 go_enter Tryz.func191,Tryz.ntmps191
 go_wp2
 go_ret2
 exact⟨QpJ (congrArg n64 HH.out) (Qsu (QAb (x*y) B64).symm),rfl⟩
theorem Qp3 (p m c:Nat):p/B64+(p%B64+m)/B64+((p+m)%B64+c)/B64=(p+m+c)/B64:=by
 unfold B64
 omega
set_option maxHeartbeats 1000000 in
theorem Qlz (x y m c:Nat) (hx:x<B64) (hy:y<B64) (hm:m<B64) (hc:c<B64) (w:World):
 Calls Tryz.prog 179 #[n64 x,n64 y,n64 m,n64 c] w fun e w'=>e= .returned (.tuple #[n64 ((x*y+m+c)%B64),n64 ((x*y+m+c)/B64)])∧w=w':=by
 have H2:=hid (Qp3 (x*y) m c)
 go_enter Tryz.func179,Tryz.ntmps179
 go_wp2_with (go_at_call 191;(with_reducible refine (QpR x y hx hy _).mono ?_);rintro e w' ⟨rfl,rfl⟩)
 go_ret2
 exact⟨QpJ rfl (congrArg n64 H2.out),rfl⟩
set_option maxHeartbeats 1000000 in
theorem Qly (a b:Nat) (hsum:a+b<T256) (w:World):
 Calls Tryz.prog 177 #[E a,E b] w fun e w'=>e= .returned (E ((a+b)%P25))∧Later w w':=by
 have hlS:=Qag (a+b)
 have hlA:=Qag a
 go_enter Tryz.func177,Tryz.ntmps177
 go_wp2
 go_loopw [5,7] (fun c i wr=>∃k:Nat,k≤4∧i= .int .i64 k∧c=n64 (carr B64 a b 0 k)∧Blk wr w.heap.size 211 (Qcb (EL (a+b)) (EL a) k)∧Blk wr (w.heap.size+1) 211 (EL b)∧Blk wr (w.heap.size+1+1) 211 (Qym 4 (.int .u64 0))∧Later w wr) (fun _ i _=>4-(intOf i).toNat)
 case atStart=>
  refine⟨0,by omega,rfl,by rw[QoW];rfl,?_,?_,Blk.new' _ _ (Qym 4 (Value.int .u64 0)) (by simp),((Qaa _ _).trans (Qaa _ _)).trans (Qaa _ _)⟩
  ·rw[Qch]
   exact ((Blk.new _ _ _).later (Qaa _ _)).later (Qaa _ _)
  ·exact (Blk.new' _ _ _ (by simp)).later (Qaa _ _)
 case round=>
  obtain⟨k,hk4,rfl,rfl,h1,h2,h3,L⟩:=hrel
  by_cases hlt:k<4
  ·have hc:=Qou Qaz a b 0 k (by omega)
   have S0:=hid (Qo4 Qaz a b 0 k)
   have S1:=hid (Qjd Qaz a b 0 k)
   have d0:=h1.cellD k (u:=n64 (lim a k)) (by rw[QfJ _ _ _ _ (by omega) (Qyw _) (by omega)];exact Qb1 a k hlt)
   have d1:=h2.cellD k (Qb1 b k hlt)
   generalize carr B64 a b 0 k=c at *
   go_wp2
   refine Qaf [([0,1,2,3,4,5,6,7],8)] [9,10,11,12] [13,14] (by as_aux_lemma=>kernel_rfl) (by as_aux_lemma=>kernel_rfl) (by intro _ _ d _ _ h;cases d<;>exact h) ?_
   simp only[Qaj,pick,Qyo,Qyp,Qyr,Qyu,Qyt]
   repeat (go_big_quiet_step (fail))
   refine wpQuiet_nil ?_
   go_wp2
   try refine⟨by first|assumption|exact Qad _|exact Qaa _ _|exact Later.refl _,?_⟩
   try simp only[Qaj,pick,Qyo,Qyp,Qyr,Qyu,Qyt]
   repeat (go_big_quiet_step (fail))
   refine wpQuiet_nil ?_
   go_wp2_with (first
    | (refine Qae rfl rfl _ _ _ rfl _ _ _ _ h1.drew rfl ?hl rfl (by kernel_rfl) ?_;(case hl=>rw[Qa9 _ _ _ (by omega)];omega);intro v w2 hv hb2 ho2;simp[go_sem]at hv;subst hv))
   go_roundw
   case rel=>
    rw[QbS _ _ _ _ (by omega) (by omega) (by rw[Qb1 (a+b) k hlt,lim,lim,lim,←QzO (a+b),←S0.out])]at hb2
    exact⟨k+1,by omega,by go_num,by rw[←S1.out];rfl,hb2,h2.drew.only ho2 (by omega),h3.drew.only ho2 (by omega),(L.trans (Qad _)).only ho2 (Qyw _)⟩
   case measure=>simp[intOf];omega
  ·obtain rfl:k=4:=by omega
   rw[QcI _ _ _ hlS hlA]at h1
   go_wp2_with (first
    | (refine Qa2 rfl _ rfl h1 rfl ?_)
    | (go_at_call 123;(with_reducible refine (Qc5 (a+b) hsum _).mono ?_);rintro e w2 ⟨rfl,hl2⟩
       have h32:=h3.later hl2
       have L2:=L.trans hl2)
    | (refine Qas rfl rfl _ _ rfl h32 rfl rfl rfl ?_;intro w3 hb3 ho3))
   exact bodyPost_ret (Qfx rfl hb3 rfl) rfl ⟨rfl,L2.only ho3 (by omega)⟩
def mcar (B x a b k:Nat):Nat:=(x*(a%B^k)+b%B^k)/B^k
theorem Qpy (B x a b:Nat):mcar B x a b 0=0:=by simp[mcar,Nat.mod_one]
theorem Qpi {B:Nat} (hB:0<B) (x a b k:Nat):(x*(a/B^k%B)+b/B^k%B+mcar B x a b k)/B=mcar B x a b (k+1):=by
 have hp:0<B^k:=QAl hB
 rw[mcar,mcar,QbW,QbW,Qzx,←Qze]
 congr 1
 have e:x*(a%B^k+B^k*(a/B^k%B))+(b%B^k+B^k*(b/B^k%B))=(x*(a%B^k)+b%B^k)+B^k*(x*(a/B^k%B)+b/B^k%B):=by
  rw[Qzo,Qzo,QAg x]
  omega
 rw[e,QzK _ _ hp,QAm]
theorem mdig {B:Nat} (hB:0<B) (x a b k:Nat):(x*(a/B^k%B)+b/B^k%B+mcar B x a b k)%B=(x*a+b)/B^k%B:=by
 have hp:0<B^k:=QAl hB
 have ea:=Qzh a (B^k)
 have eb:=Qzh b (B^k)
 have e:x*a+b=(x*(a%B^k)+b%B^k)+B^k*(x*(a/B^k)+b/B^k):=by
  have:x*a=x*(a%B^k)+B^k*(x*(a/B^k)):=by
   rw[QAg,←Qzo,QAm,ea]
  rw[Qzo]
  omega
 rw[e,QzK _ _ hp,←mcar,QAm (mcar B x a b k),QAo,QAo (x*(a/B^k)+b/B^k),QAo (x*(a/B^k%B)),Nat.mul_mod_mod,QAb,←QAo (x*(a/B^k))]
theorem Qt8 {B x:Nat} (hx:x<B) (a b k:Nat):mcar B x a b k≤x:=by
 have hp:0<B^k:=QAl (by omega)
 rw[mcar]
 refine Nat.le_of_lt_succ (QzA ?_)
 have h1:=QyS a hp
 have h2:=QyS b hp
 have h3:x*(a%B^k)≤x*(B^k-1):=QzF x (by omega)
 rw[Nat.mul_sub,QzY]at h3
 have h4:x≤x*B^k:=Qzi x hp
 rw[Nat.succ_eq_add_one,Qzo,QzY,Qzj (B^k)]
 omega
theorem Qqu (a b:Nat) (ha:a<T256) (hb:b<T256) (S c o c2:Nat) (hS:S=38*(a*b/T256)+a*b%T256) (hc:c=S/T256) (ho:o=S%T256) (h2:c2=(o+38*c)/T256):
 c≤38∧c2≤1∧(o+38*c)%T256+38*c2<T256∧((o+38*c)%T256+38*c2)%P25=a*b%P25:=by
 have h:a*b≤(T256-1)*(T256-1):=Nat.mul_le_mul (by omega) (by omega)
 generalize a*b=X at *
 have h3:X/T256<T256:=by
  refine QzA (QzN h ?_)
  decide
 have hd:=Qzh X T256
 have hm:=QyS X (show 0<T256 by decide)
 generalize X/T256=H at *
 generalize X%T256=L at *
 unfold T256 P25 at *
 omega
def WL (n:Nat):List Value:=(dig B64 8 n).map n64
theorem Qsg (n i:Nat) (h:i<8):(WL n)[i]?=some (n64 (lim n i)):=by rw[WL,QyF,QeT _ _ _ _ h];rfl
theorem Qtr (a b:Nat) (ha:a<B64^4) (hb:b<B64^4):(Qbx B64 (dig B64 4 a) (dig B64 4 b) 8 4).map n64=WL (a*b):=by
 have hl:=Qb0 B64 (dig B64 4 a) (dig B64 4 b) 8 4
 have hlt:=Qg5 Qaz (dig B64 4 a) (dig B64 4 b) 8 (QeC Qaz 4 a) (QeC Qaz 4 b) 4
 have hv:=QhJ (B:=B64) (dig B64 4 a) (dig B64 4 b) 8 4 (by rw[QaG];omega) (by rw[QaG];omega)
 rw[Qyx (by rw[QaG];omega),QfO,QfO,QyN ha,QyN hb]at hv
 have:=QkT _ hlt
 rw[hl,hv]at this
 rw[WL,this]
theorem QuL (n i:Nat):lim n (i+4)=lim (n/T256) i:=by
 rw[lim,lim,←QcK,Qze,←QzX,QAm]
theorem QuO (n i:Nat) (h:i<4):lim n i=lim (n%T256) i:=by
 rw[lim,lim,←Qfd B64 4 n i h,←Qfd B64 4 _ i h,←QcK,QiL]
theorem QpG (l:List Nat) (i v:Nat):(l.map n64).set i (n64 v)=(l.set i v).map n64:=by rw[List.map_set]
theorem Qtj (l:List Nat) (i:Nat) (h:i<l.length):(l.map n64)[i]?=some (n64 (l.getD i 0)):=by
 rw[QyF,Qys,Qyq h]
 rfl
theorem Qo2 {n m:Nat} (h:n%T256=m%T256):EL n=EL m:=by
 rw[EL,EL,←QiL,←QiL (n:=m),QcK,h]
theorem Qst {n m:Nat} (h:n%T256=m%T256):E n=E m:=by rw[E,E,Qo2 h]
theorem QtP (x m c:Nat) (hx:x<B64) (hm:m<B64) (hc:c<B64) (w:World):
 Calls Tryz.prog 179 #[n64 x,.int .u64 38,n64 m,n64 c] w fun e w'=>e= .returned (.tuple #[n64 ((x*38+m+c)%B64),n64 ((x*38+m+c)/B64)])∧w=w':=Qlz x 38 m c hx (by decide) hm hc w
theorem Qkd (B:Nat) (xs ys:List Nat) (n i x m:Nat) (hx:xs.getD i 0=x) (hm:ys.length=m):Qbx B xs ys n (i+1)=(Qa6 B x ys (Qbx B xs ys n i) i m).1.set (i+m) (Qa6 B x ys (Qbx B xs ys n i) i m).2:=by
 subst hx
 subst hm
 rfl
theorem Qnd (B x:Nat) (ys ws:List Nat) (i j y:Nat) (hy:ys.getD j 0=y):Qa6 B x ys ws i (j+1)=((Qa6 B x ys ws i j).1.set (i+j) ((x*y+(Qa6 B x ys ws i j).1.getD (i+j) 0+(Qa6 B x ys ws i j).2)%B),
 (x*y+(Qa6 B x ys ws i j).1.getD (i+j) 0+(Qa6 B x ys ws i j).2)/B):=by
 subst hy
 rfl
set_option maxRecDepth 100000 in
set_option maxHeartbeats 4000000 in
theorem Qdc (a b:Nat) (ha:a<T256) (hb:b<T256) (w:World):
 Calls Tryz.prog 159 #[E a,E b] w fun e w'=>e= .returned (E (a*b%P25))∧Later w w':=by
 have HP:=hid (Qtr a b (by rw[QcK];exact ha) (by rw[QcK];exact hb))
 have hla:=fun i (h:i<4)=>Qfd B64 4 a i h
 have hlb:=fun i (h:i<4)=>Qfd B64 4 b i h
 have hal:=QeC Qaz 4 a
 have hbl:=QeC Qaz 4 b
 have hAl:=QaG B64 4 a
 have hBl:=QaG B64 4 b
 have ha0:Blk (((w.alloc (.cells (EL a).toArray 211)).alloc (.cells (EL b).toArray 211))) w.heap.size 211 (EL a):=(Blk.new _ _ _).later (Qaa _ _)
 have hb0:Blk (((w.alloc (.cells (EL a).toArray 211)).alloc (.cells (EL b).toArray 211))) (w.heap.size+1) 211 (EL b):=(Blk.new' _ _ _ (by simp))
 generalize hdA:dig B64 4 a=dA at *
 generalize hdB:dig B64 4 b=dB at *
 have HA:=hid hdA
 have HB:=hid hdB
 have HLA:=hid hla
 have HLB:=hid hlb
 have HAl:=hid hAl
 have HBl:=hid hBl
 clear hdA hdB hla hlb hAl hBl
 go_enter Tryz.func159,Tryz.ntmps159
 go_wp2
 go_loopw [12] (fun i wr=>∃k:Nat,k≤4∧i= .int .i64 k∧Blk wr w.heap.size 211 (EL a)∧Blk wr (w.heap.size+1) 211 (EL b)∧Blk wr (w.heap.size+1+1) 211 (Qym 4 (.int .u64 0))∧Blk wr (w.heap.size+1+1+1) 307 ((Qbx B64 dA dB 8 k).map n64)∧Later w wr) (fun i _=>4-(intOf i).toNat)
 case atStart=>
  have L0:Later w ((w.alloc (.cells (EL a).toArray 211)).alloc (.cells (EL b).toArray 211)):=(Qaa _ _).trans (Qaa _ _)
  exact⟨0,by omega,rfl,(ha0.later (Qaa _ _)).later (Qaa _ _),(hb0.later (Qaa _ _)).later (Qaa _ _),(Blk.new' _ _ (Qym 4 (Value.int .u64 0)) (by simp)).later (Qaa _ _),Blk.new' _ _ (Qym 8 (Value.int .u64 0)) (by simp),(L0.alloc _).alloc _⟩
 case round=>
  clear ha0 hb0
  obtain⟨k,hk4,rfl,h1,h2,h3,h4,L⟩:=hrel
  by_cases hlt:k<4
  ·have hpl:=Qb0 B64 dA dB 8 k
   have hpt:=Qg5 Qaz dA dB 8 hal hbl k
   have da:=h1.cellD k (Qb1 a k hlt)
   have HS:=hid (Qkd B64 dA dB 8 k (lim a k) 4 (HLA.out k hlt) HBl.out)
   generalize Qbx B64 dA dB 8 k=ws at *
   have HPL:=hid hpl
   clear hpl
   have hkb:decide ((k:Int)<4)=true:=by simp;omega
   go_wp2
   go_loopw [7,15] (fun c i wr=>∃j:Nat,j≤4∧i= .int .i64 j∧c=n64 (Qa6 B64 (lim a k) dB ws k j).2∧Blk wr w.heap.size 211 (EL a)∧Blk wr (w.heap.size+1) 211 (EL b)∧Blk wr (w.heap.size+1+1) 211 (Qym 4 (.int .u64 0))∧Blk wr (w.heap.size+1+1+1) 307 ((Qa6 B64 (lim a k) dB ws k j).1.map n64)∧Later w wr) (fun _ i _=>4-(intOf i).toNat)
   case atStart=>exact⟨0,by omega,rfl,rfl,h1,h2,h3,h4,L⟩
   case round=>
    clear h1 h2 h3 h4 L da
    obtain⟨j,hj4,rfl,rfl,h1,h2,h3,h4,L⟩:=hrel
    have hrl:=Qco B64 (lim a k) dB ws k j
    obtain⟨hrt,hct⟩:=QiM (B:=B64) (lim a k) dB ws k (QyS _ Qaz) hbl hpt j
    by_cases hlj:j<4
    ·have da:=h1.cellD k (Qb1 a k hlt)
     have db:=h2.cellD j (Qb1 b j hlj)
     have dw:=h4.cellD (k+j) (Qtj _ _ (by rw[hrl,HPL.out];omega))
     have hwl:=QiH Qaz hrt (k+j)
     have HR:=hid (Qnd B64 (lim a k) dB ws k j (lim b j) (HLB.out j hlj))
     generalize (Qa6 B64 (lim a k) dB ws k j).2=c at *
     generalize (Qa6 B64 (lim a k) dB ws k j).1.getD (k+j) 0=v at *
     generalize (Qa6 B64 (lim a k) dB ws k j).1=vs at *
     have HRL:=hid hrl
     clear hrl
     have hkj:IntKind.i64.wrap ((k:Int)+(j:Int))=((k+j:Nat):Int):=by rw[IntKind.wrap_i64];omega
     go_wp2_with fail
     refine Qaf [([0,1,2,3,4,5,6,7,8,9,10,11,12,13,14],15)] [16,17,18,19] [20,21] (by as_aux_lemma=>kernel_rfl) (by as_aux_lemma=>kernel_rfl) (by intro _ _ d _ _ h;cases d<;>exact h) ?_
     simp only[Qaj,pick,Qyo,Qyp,Qyr,Qyu,Qyt]
     repeat (go_big_quiet_step (fail))
     refine wpQuiet_nil ?_
     go_wp2_with fail
     (with_reducible refine (Qlz (lim a k) (lim b j) v c (QyS _ Qaz) (QyS _ Qaz) hwl hct _).mono ?_)
     rintro e w2 ⟨rfl,rfl⟩
     go_wp2_with fail
     try refine⟨by first|assumption|exact Qad _|exact Qaa _ _|exact Later.refl _,?_⟩
     try simp only[Qaj,pick,Qyo,Qyp,Qyr,Qyu,Qyt]
     repeat (go_big_quiet_step (fail))
     refine wpQuiet_nil ?_
     go_wp2_with (first
      | (refine Qae rfl rfl _ _ _ rfl _ _ _ _ h4.drew rfl ?hl rfl (by kernel_rfl) ?_;(case hl=>rw[Qyn,HRL.out,HPL.out];omega);intro v w2 hv hb2 ho2;simp[go_sem]at hv;subst hv)
      | fail)
     go_roundw
     case rel=>
      rw[QpG]at hb2
      exact⟨j+1,by omega,by go_num,by rw[HR.out],h1.drew.only ho2 (by omega),h2.drew.only ho2 (by omega),h3.drew.only ho2 (by omega),by rw[HR.out];exact hb2,(L.trans (Qad _)).only ho2 (by omega)⟩
     case measure=>simp[intOf];omega
    ·obtain rfl:j=4:=by omega
     generalize hc4:(Qa6 B64 (lim a k) dB ws k 4).2=c at *
     generalize hv4:(Qa6 B64 (lim a k) dB ws k 4).1=vs at *
     have HRL:=hid hrl
     have HC4:=hid hc4
     have HV4:=hid hv4
     clear hrl hc4 hv4
     go_wp2_with (first
      | (refine Qae rfl rfl _ _ _ rfl _ _ _ _ h4 rfl ?hl rfl (by kernel_rfl) ?_;(case hl=>rw[Qyn,HRL.out,HPL.out];omega);intro v w2 hv hb2 ho2;simp[go_sem]at hv;subst hv)
      | fail)
     go_roundw
     case rel=>
      rw[QpG]at hb2
      exact⟨k+1,by omega,by go_num,h1.only ho2 (by omega),h2.only ho2 (by omega),h3.only ho2 (by omega),by rw[HS.out];exact hb2,L.only ho2 (by omega)⟩
     case measure=>simp[intOf];omega
  ·rw[show k=4 by omega,HP.out]at h4
   have hkf:decide ((k:Int)<4)=false:=by simp;omega
   have hX:a*b/T256<T256:=by
    refine QzA (QzN (Nat.mul_le_mul (Nat.le_sub_one_of_lt ha) (Nat.le_sub_one_of_lt hb)) ?_)
    decide
   obtain⟨hm1,hm2,hm3,hm4⟩:=Qqu a b ha hb _ _ _ _ rfl rfl rfl rfl
   have hlo:=fun i h=>QuO (a*b) i h
   have hhi:=fun i=>QuL (a*b) i
   have hlm:=QyS (a*b) (show 0<T256 by decide)
   have HR:=hid hm4
   clear hm4
   generalize hRR:a*b%P25=R at *
   have HRR:=hid ((congrArg (· %P25) (Qzj b a)).trans hRR)
   clear hRR
   generalize hXX:a*b=X at *
   clear hXX HP HA HB HLA HLB HAl HBl hal hbl ha hb
   generalize X/T256=H at *
   generalize X%T256=Lo at *
   have HLO:=hid hlo
   have HHI:=hid hhi
   clear hlo hhi
   have hSl:=Qag (38*H+Lo)
   go_wp2_with fail
   have hn0:Blk (wr.alloc (.cells (Qym 4 (Value.int .u64 0)).toArray 211)) wr.heap.size 211 (Qym 4 (.int .u64 0)):=Blk.new _ _ _
   have hsz:=h4.lt
   go_loopw [10,44] (fun c i wx=>∃k:Nat,k≤4∧i= .int .i64 k∧c=n64 (mcar B64 38 H Lo k)∧Blk wx wr.heap.size 211 (Qcb (EL (38*H+Lo)) (Qym 4 (.int .u64 0)) k)∧Blk wx (w.heap.size+1+1) 211 (Qym 4 (.int .u64 0))∧Blk wx (w.heap.size+1+1+1) 307 (WL X)∧Later w wx) (fun _ i _=>4-(intOf i).toNat)
   case atStart=>exact⟨0,by omega,rfl,by rw[Qpy];rfl,by rw[Qch];exact hn0,h3.later (Qaa _ _),h4.later (Qaa _ _),L.trans (Qaa _ _)⟩
   case round=>
    clear h1 h2 h3 h4 L hn0
    obtain⟨k,hk4,rfl,rfl,h1,h3,h4,L⟩:=hrel
    by_cases hlt:k<4
    ·have hc:=Qt8 (show 38<B64 by decide) H Lo k
     have S0:=hid (mdig Qaz 38 H Lo k)
     have S1:=hid (Qpi Qaz 38 H Lo k)
     have d0:=h4.cellD k (Qsg X k (by omega))
     have d1:=h4.cellD (k+4) (Qsg X (k+4) (by omega))
     rw[HLO.out k hlt]at d0
     rw[HHI.out k]at d1
     generalize mcar B64 38 H Lo k=c at *
     have hkj:IntKind.i64.wrap ((k:Int)+4)=((k+4:Nat):Int):=by rw[IntKind.wrap_i64];omega
     go_wp2_with fail
     refine Qaf [([0,1,2,3,4,5,6,7,8],9)] [10,11,12,13] [14,15] (by as_aux_lemma=>kernel_rfl) (by as_aux_lemma=>kernel_rfl) (by intro _ _ d _ _ h;cases d<;>exact h) ?_
     simp only[Qaj,pick,Qyo,Qyp,Qyr,Qyu,Qyt]
     repeat (go_big_quiet_step (fail))
     refine wpQuiet_nil ?_
     go_wp2_with fail
     (with_reducible refine (QtP (lim H k) (lim Lo k) c (QyS _ Qaz) (QyS _ Qaz) (QzN hc (by decide)) _).mono ?_)
     rintro e w2 ⟨rfl,rfl⟩
     go_wp2_with fail
     try refine⟨by first|assumption|exact Qad _|exact Qaa _ _|exact Later.refl _,?_⟩
     try simp only[Qaj,pick,Qyo,Qyp,Qyr,Qyu,Qyt]
     repeat (go_big_quiet_step (fail))
     refine wpQuiet_nil ?_
     go_wp2_with (first
      | (refine Qae rfl rfl _ _ _ rfl _ _ _ _ h1.drew rfl ?hl rfl (by kernel_rfl) ?_;(case hl=>rw[Qa9 _ _ _ (by rw[hSl];rfl)];exact hlt);intro v w2 hv hb2 ho2;simp[go_sem]at hv;subst hv)
      | fail)
     go_roundw
     case rel=>
      have e0:=S0.out
      have e1:=S1.out
      rw[Qzj 38]at e0 e1
      rw[QbS _ _ _ _ (by rw[hSl];rfl) hlt (by rw[Qb1 _ k hlt,lim,lim,lim,←e0])]at hb2
      exact⟨k+1,by omega,by go_num,by rw[←e1];rfl,hb2,h3.drew.only ho2 (by omega),h4.drew.only ho2 (by omega),(L.trans (Qad _)).only ho2 (by omega)⟩
     case measure=>simp[intOf];omega
    ·obtain rfl:k=4:=by omega
     have hc4:mcar B64 38 H Lo 4=(38*H+Lo)/T256:=by rw[mcar,QcK,QyN hX,QyN hlm]
     rw[QcI _ _ _ hSl rfl]at h1
     have HC4:=hid hc4
     clear hc4
     generalize hS:38*H+Lo=S at *
     have e2:(S%B64^4+38*(S/T256))/B64^4=(S%T256+38*(S/T256))/T256:=by rw[QcK]
     have HE:=hid e2
     clear e2
     have hp1:=Qfe S (38*(S/T256)) (by unfold B64;omega)
     rw[HE.out]at hp1
     generalize hcc:(S%T256+38*(S/T256))/T256=c2 at *
     have hp2:=Qfe (S+38*(S/T256)) (38*c2) (by unfold B64;omega)
     have hEq:E (S+38*(S/T256)+38*c2)=E ((S%T256+38*(S/T256))%T256+38*c2):=Qst (by unfold T256;omega)
     have hn:=Qc5 _ hm3
     rw[HR.out]at hn
     have HQ:=hid hEq
     have HN:=hid hn
     have HP1:=hid hp1
     have HP2:=hid hp2
     clear hEq hn hp1 hp2
     generalize (S%T256+38*(S/T256))%T256+38*c2=fin at *
     generalize hcd:S/T256=c1 at *
     have hcd':n64 (mcar B64 38 H Lo 4)=n64 c1:=by rw[HC4.out]
     generalize mcar B64 38 H Lo 4=c0 at *
     obtain rfl:c0=c1:=HC4.out
     clear hcd' HC4 HE
     go_wp2_with (first
      | (refine Qa2 rfl _ rfl h1 rfl ?_)
      | (go_at_call 154;(with_reducible refine (HP1.out _).mono ?_);rintro e w2 ⟨rfl,hl2⟩
         have h12:=h1.later hl2
         have h32:=h3.later hl2
         have L2:=L.trans hl2
         clear HP1)
      | (refine Qas rfl rfl _ _ rfl h12 rfl rfl (Qag _) ?_;intro w3 hb3 ho3
         have h33:=h32.only ho3 (by omega)
         have L3:=L2.only ho3 (by omega)
         clear h32 h12 L2)
      | (refine Qa2 rfl _ rfl hb3 rfl ?_)
      | (go_at_call 154;(with_reducible refine (HP2.out _).mono ?_);rintro e w4 ⟨rfl,hl4⟩
         have h14:=hb3.later hl4
         have h34:=h33.later hl4
         have L4:=L3.trans hl4
         rw[HQ.out]
         clear HP2)
      | (refine Qas rfl rfl _ _ rfl h14 rfl rfl (Qag _) ?_;intro w5 hb5 ho5
         have h35:=h34.only ho5 (by omega)
         have L5:=L4.only ho5 (by omega)
         clear h34 h14 L4)
      | (refine Qa2 rfl _ rfl hb5 rfl ?_)
      | (go_at_call 123;(with_reducible refine (HN.out _).mono ?_);rintro e w6 ⟨rfl,hl6⟩
         have h36:=h35.later hl6
         have L6:=L5.trans hl6)
      | (refine Qas rfl rfl _ _ rfl h36 rfl rfl rfl ?_;intro w7 hb7 ho7)
      | fail)
     exact bodyPost_ret (Qfx rfl hb7 rfl) rfl ⟨by rw[Qzj a b];exact congrArg (fun t=>Ending.returned (E t)) HRR.out.symm,L6.only ho7 (by omega)⟩
theorem Qqm {n:Nat} (h:n<B64):EL n=[n64 n,.int .u64 0,.int .u64 0,.int .u64 0]:=by
 have e:∀k,0<k→n/B64^k%B64=0:=fun k hk=>Qjk h k hk
 have e1:dig B64 4 n=[n/B64^0%B64,n/B64^1%B64,n/B64^2%B64,n/B64^3%B64]:=by
  rw[Qe5,Qe5,Qe5,Qe5]
  rfl
 rw[EL,e1,e 1 (by omega),e 2 (by omega),e 3 (by omega),Nat.pow_zero,Nat.div_one,QyN h]
 rfl
@[go_sem] theorem QuD (n:Nat):(n%P25<T256)=True:=eq_true (QzP (QyS _ Qbw) (by decide))
@[go_sem] theorem Qu2 (n:Nat):(n%P25<P25)=True:=eq_true (QyS _ Qbw)
def ofs (l:List Nat):List UInt64:=l.map QyO
theorem QhO (n:Nat):EL n=(ofs (dig B64 4 n)).map W64:=by rw[EL,ofs,List.map_map];rfl
theorem Qtc {l m:List Nat} (hl:∀x∈l,x<B64) (hm:∀x∈m,x<B64) (h:ofs l=ofs m):l=m:=by
 have e:∀l:List Nat,(∀ x∈l,x<B64)→(ofs l).map UInt64.toNat=l:=by
  intro l hl
  rw[ofs,List.map_map]
  conv=>rhs;rw[←List.map_id l]
  apply List.map_congr_left
  intro x hx
  exact tn64 (hl x hx)
 rw[←e l hl,←e m hm,h]
theorem Qkw {x y:Nat} (hx:x<T256) (hy:y<T256):(ofs (dig B64 4 x)==ofs (dig B64 4 y))=(x==y):=by
 rw[Qy7,beq_iff_eq,beq_iff_eq]
 refine⟨fun h=>?_,fun h=>by rw[h]⟩
 have:=Qtc (QeC Qaz 4 x) (QeC Qaz 4 y) h
 exact QpL (k:=4) (B:=B64) (by rw[QcK];exact hx) (by rw[QcK];exact hy) this
theorem Qnx:(Tryz.prog.info? 23).map (·.size)=some 1:=by kernel_rfl
theorem QxU:Tryz.prog.eqGuardType Tryz.prog.depth 211=false:=by kernel_rfl
@[go_sem high] theorem QuJ (op:BinOp) (x y:Operand) (xs ys:Array Value) (w:World):(eqGuard op 211 x y (.agg xs) (.agg ys)).run Tryz.prog w= .ok () w:=run_eqGuard_agg w op _ x y xs ys QxU
@[go_sem high] theorem Qvx (x y:Nat) (hx:x<T256) (hy:y<T256) (w:World):(binOp .eql 211 (E x) (E y)).run Tryz.prog w= .ok (.bool (x==y)) w:=by
  rw[run_eql_struct,QhO,QhO,QaP w 0 W64 9998 211 23 4 Tryz.underlying211 Qnx Tryz.underlying23 rfl (QgX _ _ Tryz.underlying23) _ _ (by rw[ofs,Qyn,QaG]) (by rw[ofs,Qyn,QaG]),Qkw hx hy]
  rfl
@[go_sem high] theorem QuM (x y:Nat) (hx:x<T256) (hy:y<T256) (w:World):(binOp .neq 211 (E x) (E y)).run Tryz.prog w= .ok (.bool (x != y)) w:=by
  rw[run_neq_struct,QhO,QhO,QaP w 0 W64 9998 211 23 4 Tryz.underlying211 Qnx Tryz.underlying23 rfl (QgX _ _ Tryz.underlying23) _ _ (by rw[ofs,Qyn,QaG]) (by rw[ofs,Qyn,QaG]),Qkw hx hy]
  rfl
theorem Qxk:Tryz.prog.eqGuardType Tryz.prog.depth 210=false:=by kernel_rfl
@[go_sem high] theorem QvS (op:BinOp) (x y:Operand) (xs ys:Array Value) (w:World):(eqGuard op 210 x y (.agg xs) (.agg ys)).run Tryz.prog w= .ok () w:=run_eqGuard_agg w op _ x y xs ys Qxk
@[go_sem high] theorem QuI (x y:Nat) (hx:x<T256) (hy:y<T256) (w:World):(binOp .eql 210 (E x) (E y)).run Tryz.prog w= .ok (.bool (x==y)) w:=by
  rw[run_eql_struct,QhO,QhO,QaP w 0 W64 9998 210 23 4 Tryz.underlying210 Qnx Tryz.underlying23 rfl (QgX _ _ Tryz.underlying23) _ _ (by rw[ofs,Qyn,QaG]) (by rw[ofs,Qyn,QaG]),Qkw hx hy]
  rfl
set_option maxHeartbeats 1000000 in
theorem Qn1 (n:Nat) (hn:n<B64) (w:World):
 Calls Tryz.prog 93 #[n64 n] w fun e w'=>e= .returned (E n)∧Later w w':=by
 have hs:=hid (Qqm hn)
 go_enter Tryz.func93,Tryz.ntmps93
 go_wp2_with (first
  | (refine Qap rfl 211 _ rfl [n64 n,.int .u64 0,.int .u64 0,.int .u64 0] ?hb ?_;(case hb=>kernel_rfl);rw[←hs.out])
  | (refine Qas rfl rfl _ _ rfl (Blk.new w _ (Qym 4 (.int .u64 0))) rfl rfl rfl ?_;intro w3 hb3 ho3))
 exact bodyPost_ret (Qfx rfl hb3 rfl) rfl ⟨rfl,(Qaa _ _).only ho3 (by omega)⟩
set_option maxHeartbeats 1000000 in
theorem QfK (n:Nat) (hn:n<T256) (w:World):
 Calls Tryz.prog 157 #[E n] w fun e w'=>e= .returned (E (n*n%P25))∧Later w w':=by
 have hb:Blk ((w.alloc (.cells (EL n).toArray 211)).alloc (.cells (Qym 4 (.int .u64 0)).toArray 211)) w.heap.size 211 (EL n):=(Blk.new _ _ _).later (Qaa _ _)
 have hr:Blk ((w.alloc (.cells (EL n).toArray 211)).alloc (.cells (Qym 4 (.int .u64 0)).toArray 211)) (w.heap.size+1) 211 (Qym 4 (.int .u64 0)):=Blk.new' _ _ _ (by simp)
 go_enter Tryz.func157,Tryz.ntmps157
 go_wp2_with (first
  | (refine Qa2 rfl _ rfl hb rfl ?_)
  | (go_at_call 159;(with_reducible refine (Qdc n n hn hn _).mono ?_);rintro e w2 ⟨rfl,hl2⟩
     have hr2:=hr.later hl2
     have L2:Later w w2:=((Qaa _ _).trans (Qaa _ _)).trans hl2)
  | (refine Qas rfl rfl _ _ rfl hr2 rfl rfl rfl ?_;intro w3 hb3 ho3)
  | fail)
 exact bodyPost_ret (Qfx rfl hb3 rfl) rfl ⟨rfl,L2.only ho3 (by omega)⟩
theorem QmH (x y b:Nat) (hx:x<B64) (hy:y<B64) (hb:b≤1) (w:World):
 (callFunc 178 #[n64 x,n64 y,n64 b]).run Tryz.prog w= .ok (.value (.tuple #[n64 ((x+B64-y-b)%B64),n64 (if x<y+b then 1 else 0)])) w:=by
 rw[Qd3 hx,Qd3 hy,Qd3 (show b<B64 by unfold B64;omega),run_callFunc_extern Tryz.func178 (by kernel_rfl) (by kernel_rfl) (by kernel_rfl) (e:=sub64Entry) (by kernel_rfl),run_sub64 _ _ _ hb]
 rw[Qd3 (QyS _ Qaz),Qd3 (show (if x<y+b then 1 else 0)<B64 by split<;>decide)]
 rfl
set_option maxHeartbeats 2000000 in
theorem QqR (n m:Nat) (hn:n<T256) (hm:m<T256) (w:World):
 Calls Tryz.prog 156 #[E n,E m] w fun e w'=>e= .returned (E ((n+(P25-m%P25))%P25))∧Later w w':=by
 have hm1:m%P25<P25:=QyS _ Qbw
 have hn1:n%P25<P25:=QyS _ Qbw
 have hE:=hid (Qst (n:=P25+B64^4-m%P25) (m:=P25-m%P25) (by rw[QcK];unfold T256 P25 at *;omega))
 have hadd:=hid (Qly (n%P25) (P25-m%P25) (by unfold T256 P25 at *;omega))
 have hb0:Blk ((w.alloc (.cells (EL n).toArray 211)).alloc (.cells (EL m).toArray 211)) w.heap.size 211 (EL n):=(Blk.new _ _ _).later (Qaa _ _)
 have hc0:Blk ((w.alloc (.cells (EL n).toArray 211)).alloc (.cells (EL m).toArray 211)) (w.heap.size+1) 211 (EL m):=Blk.new' _ _ _ (by simp)
 have L0:Later w ((w.alloc (.cells (EL n).toArray 211)).alloc (.cells (EL m).toArray 211)):=(Qaa _ _).trans (Qaa _ _)
 go_enter Tryz.func156,Tryz.ntmps156
 go_wp2_with (first
  | (refine Qap rfl 211 _ rfl (EL P25) ?hb ?_;(case hb=>kernel_rfl))
  | (refine Qas (g:=w.heap.size+1+1+1) rfl rfl _ _ rfl (Blk.new' _ _ (Qym 4 (.int .u64 0)) (by simp)) rfl rfl rfl ?_;intro w3 hb3 ho3
     have hn3:Blk w3 w.heap.size 211 (EL n):=((hb0.later (Qaa _ _)).later (Qaa _ _)).only ho3 (by omega)
     have hm3:Blk w3 (w.heap.size+1) 211 (EL m):=((hc0.later (Qaa _ _)).later (Qaa _ _)).only ho3 (by omega)
     have hr3:Blk w3 (w.heap.size+1+1) 211 (Qym 4 (.int .u64 0)):=((Blk.new' _ _ (Qym 4 (Value.int .u64 0)) (by simp)).later (Qaa _ _)).only ho3 (by omega)
     have L3:Later w w3:=((L0.alloc _).alloc _).only ho3 (by omega)
     clear hb0 hc0 L0 ho3)
  | (refine Qa2 rfl _ rfl hm3 rfl ?_)
  | (go_at_call 123;(with_reducible refine (Qc5 m hm _).mono ?_);rintro e w4 ⟨rfl,hl4⟩)
  | (refine Qas rfl rfl _ _ rfl (hm3.later hl4) rfl rfl (Qag _) ?_;intro w5 hb5 ho5
     have hn5:=(hn3.later hl4).only ho5 (by omega)
     have hr5:=(hr3.later hl4).only ho5 (by omega)
     have hp5:=(hb3.later hl4).only ho5 (by omega)
     have L5:=(L3.trans hl4).only ho5 (by omega)
     clear hn3 hm3 hr3 hb3 L3 hl4 ho5)
  | fail)
 have hlS:=Qag (P25+B64^4-m%P25)
 have hlA:=Qag P25
 have hm1':m%P25<B64^4:=QzP hm1 (by decide)
 have hbl:=hb5.lt
 generalize hMM:m%P25=M at *
 have HM:=hid hMM
 clear hMM
 go_loopw [6,11] (fun c i wr=>∃k:Nat,k≤4∧i= .int .i64 k∧c=n64 (owed B64 P25 M k)∧Blk wr (w.heap.size+1+1+1) 211 (Qcb (EL (P25+B64^4-M)) (EL P25) k)∧Blk wr (w.heap.size+1) 211 (EL M)∧Blk wr w.heap.size 211 (EL n)∧Blk wr (w.heap.size+1+1) 211 (Qym 4 (.int .u64 0))∧Later w wr) (fun _ i _=>4-(intOf i).toNat)
 case atStart=>exact⟨0,by omega,rfl,by rw[Qok];rfl,by rw[Qch];exact hp5,hb5,hn5,hr5,L5⟩
 case round=>
  clear hb5 hp5 hn5 hr5 L5
  obtain⟨k,hk4,rfl,rfl,h1,h2,h0,h3,L⟩:=hrel
  by_cases hlt:k<4
  ·have hc:=QoG B64 P25 M k
   have S0:=hid (Qq5 Qaz P25 M k 4 hlt hm1')
   have S1:=hid (Qn8 Qaz P25 M k)
   have d0:=h1.cellD k (u:=n64 (lim P25 k)) (by rw[QfJ _ _ _ _ (by omega) (Qyw _) (by omega)];exact Qb1 P25 k hlt)
   have d1:=h2.cellD k (Qb1 M k hlt)
   generalize owed B64 P25 M k=c at *
   have hsub:∀w,(callFunc 178 #[n64 (lim P25 k),n64 (lim M k),n64 c]).run Tryz.prog w= .ok (.value (.tuple #[n64 ((lim P25 k+B64-lim M k-c)%B64),n64 (if lim P25 k<lim M k+c then 1 else 0)])) w:=fun w=>QmH _ _ _ (QyS _ Qaz) (QyS _ Qaz) hc w
   obtain⟨X,hX⟩:∃X,X=(lim P25 k+B64-lim M k-c)%B64:=⟨_,rfl⟩
   obtain⟨Y,hY⟩:∃Y,Y=(if lim P25 k<lim M k+c then 1 else 0):=⟨_,rfl⟩
   rw[←hX,←hY]at hsub
   have HX:=hid hX
   have HY:=hid hY
   clear hX hY
   go_wp2_with fail
   refine Qaf [([0,1,2,3,4,5,6,7],8)] [9,10,11,12] [13,14] (by as_aux_lemma=>kernel_rfl) (by as_aux_lemma=>kernel_rfl) (by intro _ _ d _ _ h;cases d<;>exact h) ?_
   simp only[Qaj,pick,Qyo,Qyp,Qyr,Qyu,Qyt]
   repeat (go_big_quiet_step (fail))
   refine wpQuiet_nil ?_
   go_wp2_with fail
   try refine⟨by first|assumption|exact Qad _|exact Qaa _ _|exact Later.refl _,?_⟩
   try simp only[Qaj,pick,Qyo,Qyp,Qyr,Qyu,Qyt]
   repeat (go_big_quiet_step (fail))
   refine wpQuiet_nil ?_
   go_wp2_with (first
    | (refine Qae rfl rfl _ _ _ rfl _ _ _ _ h1.drew rfl ?hl rfl (by kernel_rfl) ?_;(case hl=>rw[Qa9 _ _ _ (by omega)];omega);intro v w2 hv hb2 ho2;simp[go_sem]at hv;subst hv)
    | fail)
   go_roundw
   case rel=>
    rw[QbS _ _ _ _ (by omega) (by omega) (by rw[Qb1 _ k hlt,HX.out,lim,lim,lim,S0.out])]at hb2
    exact⟨k+1,by omega,by go_num,by rw[S1.out,HY.out];rfl,hb2,h2.drew.only ho2 (by omega),h0.drew.only ho2 (by omega),h3.drew.only ho2 (by omega),(L.trans (Qad _)).only ho2 (by omega)⟩
   case measure=>simp[intOf];omega
  ·rw[show k=4 by omega,QcI _ _ _ hlS hlA]at h1
   have h1':Blk wr (w.heap.size+1+1+1) 211 (EL (P25-M)):=by
    have e:EL (P25+B64^4-M)=EL (P25-M):=by rw[Qo2];rw[QcK];unfold T256 P25 at *;omega
    rwa [e]at h1
   have hkf:decide ((k:Int)<4)=false:=by simp;omega
   clear h1 hE
   go_wp2_with fail
   refine Qaf [([0,2],1)] [] [3,4] (by as_aux_lemma=>kernel_rfl) (by as_aux_lemma=>kernel_rfl) (by intro _ _ d _ _ h;cases d<;>exact h) ?_
   simp only[Qaj,pick,Qyo,Qyp,Qyr,Qyu,Qyt]
   repeat (first|go_big_quiet_skip|(go_big_quiet_want;(first|refine QbT _ rfl h0.drew rfl ?_|refine QbT _ rfl h1'.drew rfl ?_);simp only[Act.put,QyD,QyM,QyI];go_big_quiet_on)|(go_big_quiet_step (fail)))
   refine wpQuiet_nil ?_
   go_wp2_with fail
   (with_reducible refine (Qc5 n hn _).mono ?_);rintro e w2 ⟨rfl,hl2⟩
   go_wp2_with fail
   try refine⟨by first|assumption|exact Qad _|exact Qaa _ _|exact Later.refl _,?_⟩
   try simp only[Qaj,pick,Qyo,Qyp,Qyr,Qyu,Qyt]
   repeat (go_big_quiet_step (fail))
   refine wpQuiet_nil ?_
   go_wp2_with fail
   (with_reducible refine (hadd.out _).mono ?_);rintro e w3 ⟨rfl,hl3⟩
   have h33:=((h3.drew.later hl2)).later hl3
   have L3:=((L.trans (Qad _)).trans hl2).trans hl3
   go_wp2_with (refine Qas rfl rfl _ _ rfl h33 rfl rfl rfl ?_;intro w4 hb4 ho4)
   exact bodyPost_ret (Qfx rfl hb4 rfl) rfl ⟨by rw[HM.out],L3.only ho4 (by omega)⟩
def lem (n j:Nat):Nat:=n/B32^j%B32
@[go_sem] theorem Qyj (n i:Nat):(lem n i<B32)=True:=eq_true (QyS _ QfA)
@[go_sem] theorem QwC (n i:Nat):(lem n i<B64)=True:=eq_true (QzP (QyS _ QfA) (by decide))
def NL (n:Nat):List Value:=(dig B32 8 n).map n32
abbrev NN (n:Nat):Value:=.agg (NL n).toArray
theorem Qp6 (n:Nat):(NL n).length=8:=by rw[NL,Qyn,QaG]
theorem Qvd (n i:Nat) (h:i<8):(NL n)[i]?=some (n32 (lem n i)):=by rw[NL,QyF,QeT _ _ _ _ h];rfl
@[go_sem] theorem NL_at (n i:Nat) (h:i<(NL n).length):(NL n)[i]=n32 (lem n i):=by
  have:=Qvd n i (by rw[Qp6]at h;exact h)
  rw[Qyq h]at this
  exact Option.some.inj this
def VL (n:Nat):List Value:=(dig B32 17 n).map n64
theorem Qpn (n:Nat):(VL n).length=17:=by rw[VL,Qyn,QaG]
theorem Qu5 (n i:Nat) (h:i<17):(VL n)[i]?=some (n64 (lem n i)):=by rw[VL,QyF,QeT _ _ _ _ h];rfl
@[go_sem] theorem VL_at (n i:Nat) (h:i<(VL n).length):(VL n)[i]=n64 (lem n i):=by
  have:=Qu5 n i (by rw[Qpn]at h;exact h)
  rw[Qyq h]at this
  exact Option.some.inj this
theorem QvA:B32^8=T256:=by decide
section
variable {ops:Array Oper} {rest:List Oper} {o:Oper} {a:Act} {w:World} {Q:Exit→Act→World→Prop}
end
@[go_sem] theorem Qxx (T:TypeId) (x:Nat) (yk:IntKind) (k:Int) (h0:0≤k):binOp .shl T (n64 x) (.int yk k)=pure (n64 (x*2^k.toNat)):=by
  rw[n64,Qio _ _ _ _ h0,Qgd]
  rw[QjF]
  show (BitVec.toNat _)=_
  rw[BitVec.toNat_shiftLeft,Nat.shiftLeft_eq]
  show (QyO x).toNat*_%2^64=_
  rw[QyR,Nat.mod_mul_mod]
  rfl
def decV:Option Value→Nat
 | some (.int _ x)=>x.toNat
 | _=>0
def lies (B k:Nat) (g:Nat) (w:World):Nat:=val B ((Qzc k).map fun i=>decV (w.cell? ⟨g,i,none⟩))
end Go.Proofs.YtdhgpkdjdmlphaaGreat
