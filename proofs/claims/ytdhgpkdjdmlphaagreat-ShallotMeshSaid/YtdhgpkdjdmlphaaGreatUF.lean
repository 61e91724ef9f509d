/-
  Lemmas for the last text of this claim (part 6 of 20).
-/
import Derived.ArgAppend
import Derived.BigQuiet
import Derived.BigRegion
import Derived.ChangeOld
import Derived.Deep.RegionWith
import Derived.DeepKeys4
import Derived.JoinedCond
import Derived.LaidMore
import Derived.Laws.BytesArg
import Derived.Laws.CopyOwn
import Derived.Laws.Externs
import Derived.Laws.IdiomStrings
import Derived.Laws.Tables
import Derived.Lib.AppendStr
import Derived.Lib.AppendZerosOnto
import Derived.Lib.Mul64
import Derived.Lib.SlBytesConst
import Derived.LoopN
import Derived.Maps.OwnSet
import Derived.OpenShut
import Derived.OrdersHeld
import Derived.ProofKit
import Derived.Shelf.Spec.BitsCarry
import Derived.ShutString
import Derived.Test.YtdhgpkdjdmlphaaGreatProg
import Derived.Test.YtdhgpkdjdmlphaaGreatRows
import Derived.WalkKit
import Derived.WalkLawsBesides
import Derived.WalkSpells
import Derived.Test.YtdhgpkdjdmlphaaGreatUB
import Derived.Test.YtdhgpkdjdmlphaaGreatUE
open BitVec renaming toNat_ushiftRight → QHz, toNat_shiftLeft → QIy
open Bool renaming eq_iff_iff → QHh
open Int renaming toNat_natCast → QIq
open List renaming replicate → QGn, getElem?_cons_succ → QGo, getElem?_cons_zero → QGp, getD_eq_getElem?_getD → QGq, length_map → QGr, getElem?_eq_getElem → QGt, cons_append → QGu, nil_append → QGv, setIfInBounds_toArray → QGw, set_cons_zero → QGz, set_cons_succ → QGB, take_of_length_le → QGD, getElem?_append_right → QGE, getElem?_map → QGF, getElem?_append_left → QGG, append_assoc → QGI, mem_cons → QGJ, length_take → QGP, length_set → QGV, take_succ_eq_append_getElem → QGY, range → QG0, set_append_right → QG1, mem_map → QG2, map_append → QG6, length_cons → QHe, mem_range → QHg, getElem_mem → QHi, drop_of_length_le → QHj, drop_eq_getElem_cons → QHw, getElem?_drop → QHA, getElem?_eq_none → QHF, getElem?_take → QHJ, getElem?_set_ne → QHU, getElem?_replicate → QH1, replicate_succ → QH2, range_succ → QH5, take_add_one → QIr, map_congr_left → QIB, ext_getElem → QIN, map_set → QIP
open Nat renaming le_refl → QGx, lt_of_lt_of_le → QGN, mod_eq_of_lt → QGO, zero_add → QGT, mod_lt → QGU, lt_or_ge → QHb, div_div_eq_div_mul → QHk, div_eq_of_lt → QHm, div_add_mod → QHn, mul_comm → QHp, pow_succ → QHq, lt_trans → QHr, pow_le_pow_right → QHt, div_lt_of_lt_mul → QHu, shiftRight_eq_div_pow → QHv, min_eq_left → QHx, le_mul_of_pos_right → QHE, mul_assoc → QHL, mul_add → QHM, mul_mod → QHP, pow_add → QHW, mod_mod → QHX, lt_of_le_of_lt → QHZ, add_mul_div_left → QH6, mul_le_mul_left → QIb, add_zero → QIf, mul_one → QIm, pow_succ' → QIu, pow_pos → QIA, add_comm → QID, shiftLeft_eq → QIF, zero_mod → QII, mul_left_comm → QIJ, add_mul → QIM, add_assoc → QIO, zero_mul → QIQ, pow_zero → QIR, add_mod → QIT
open Option renaming toList_some → QGs
open UInt32 renaming ofNat → QG5, toNat_ofNat' → QIz, toNat_inj → QIV
open UInt64 renaming ofNat → QGS, toNat_ofNat' → QGZ, toNat_inj → QIx
open UInt8 renaming ofNat → QG3, toNat_inj → QHl, toNat_ofNat' → QHy
set_option linter.all false
namespace Go.Proofs.YtdhgpkdjdmlphaaGreat
def val (B:Nat):List Nat→Nat
 | []=>0
 | x :: l=>x+B*val B l
def dig (B:Nat):Nat→Nat→List Nat
 | 0,_=>[]
 | k+1,n=>n%B :: dig B k (n/B)
theorem QaS (B:Nat):∀k n,(dig B k n).length=k
 | 0,_=>rfl
 | k+1,n=>by rw[dig,QHe,QaS B k]
theorem QeF (B:Nat):∀k n,val B (dig B k n)=n%B^k
 | 0,n=>by simp[dig,val,Nat.mod_one]
 | k+1,n=>by rw[dig,val,QeF B k,QIu,Nat.mod_mul]
theorem Qeh {B:Nat} (hB:0<B):∀k n,∀x∈dig B k n,x<B
 | 0,_,x,h=>by cases h
 | k+1,n,x,h=>by
   rcases QGJ.1 h with rfl|h
   ·exact QGU _ hB
   ·exact Qeh hB k _ x h
theorem Qmn {B:Nat}:∀l:List Nat,(∀ x∈l,x<B)→dig B l.length (val B l)=l
 | [],_=>rfl
 | x :: l,h=>by
   have hx:x<B:=h x (by simp)
   rw[QHe,val,dig,Nat.add_mul_mod_self_left,QGO hx,QH6 _ _ (by omega),QHm hx,QGT,Qmn l (fun y hy=>h y (by simp[hy]))]
theorem Qzd {B:Nat}:∀l:List Nat,(∀ x∈l,x<B)→val B l<B^l.length
 | [],_=>by simp[val]
 | x :: l,h=>by
   have hx:x<B:=h x (by simp)
   have:=Qzd l (fun y hy=>h y (by simp[hy]))
   rw[val,QHe,QIu]
   have h2:B*(val B l+1)≤B*B^l.length:=QIb B this
   rw[QHM,QIm]at h2
   omega
theorem QgG (B:Nat):∀k n i,i<k→(dig B k n)[i]?=some (n/B^i%B)
 | 0,_,_,h=>by omega
 | k+1,n,0,_=>by simp[dig]
 | k+1,n,i+1,h=>by
   rw[dig,QGo,QgG B k _ i (by omega),QHk,←QIu]
theorem QdX (B k n i:Nat) (h:i<k):(dig B k n).getD i 0=n/B^i%B:=by
 rw[QGq,QgG B k n i h]
 rfl
theorem Qf4 (B:Nat):∀k n,dig B (k+1) n=dig B k n++[n/B^k%B]
 | 0,n=>by simp[dig]
 | k+1,n=>by
   rw[dig,Qf4 B k (n/B),dig,QGu,QHk,←QIu]
theorem QhB (B:Nat):∀l m:List Nat,val B (l++m)=val B l+B^l.length*val B m
 | [],m=>by simp[val]
 | x :: l,m=>by
   rw[QGu,val,QhB B l m,val,QHe,QIu,QHM,QHL,QIO]
theorem QpT (B:Nat):∀(l:List Nat) (i v:Nat),i<l.length→val B (l.set i v)+B^i*l.getD i 0=val B l+B^i*v
 | [],_,_,h=>by simp at h
 | x :: l,0,v,_=>by simp[val];omega
 | x :: l,i+1,v,h=>by
   have ih:=QpT B l i v (by simpa using h)
   have e1:B*(val B (l.set i v)+B^i*l.getD i 0)=B*(val B l+B^i*v):=by rw[ih]
   rw[QGB,val,val,List.getD_cons_succ,QIu,QHL,QHL]
   rw[QHM,QHM]at e1
   omega
theorem Qn5 (B:Nat):∀n,val B (QGn n 0)=0
 | 0=>rfl
 | n+1=>by rw[QH2,val,Qn5 B n,Nat.mul_zero]
theorem QgN {B:Nat}:∀k n,dig B k (n%B^k)=dig B k n
 | 0,_=>rfl
 | k+1,n=>by
   rw[dig,dig,QIu,Nat.mod_mul_right_mod,Nat.mod_mul_right_div_self,QgN k]
theorem Qvf {B k n m:Nat} (hn:n<B^k) (hm:m<B^k) (h:dig B k n=dig B k m):n=m:=by
 have:=QeF B k n
 rw[h,QeF,QGO hn,QGO hm]at this
 exact this.symm
def carr (B a b c k:Nat):Nat:=(a%B^k+b%B^k+c)/B^k
theorem QmO (B a b c:Nat):carr B a b c 0=c:=by simp[carr,Nat.mod_one]
theorem Qcl (B a k:Nat):a%B^(k+1)=a%B^k+B^k*(a/B^k%B):=by rw[QHq,Nat.mod_mul]
theorem Qi7 {B:Nat} (hB:0<B) (a b c k:Nat):(a/B^k%B+b/B^k%B+carr B a b c k)/B=carr B a b c (k+1):=by
 have hp:0<B^k:=QIA hB
 rw[carr,carr,Qcl,Qcl,QHq,←QHk]
 congr 1
 have e:a%B^k+B^k*(a/B^k%B)+(b%B^k+B^k*(b/B^k%B))+c=(a%B^k+b%B^k+c)+B^k*(a/B^k%B+b/B^k%B):=by rw[QHM];omega
 rw[e,QH6 _ _ hp,QID]
theorem Qpd {B:Nat} (hB:0<B) (a b c k:Nat):(a/B^k%B+b/B^k%B+carr B a b c k)%B=(a+b+c)/B^k%B:=by
 have hp:0<B^k:=QIA hB
 have ea:=QHn a (B^k)
 have eb:=QHn b (B^k)
 have e:a+b+c=(a%B^k+b%B^k+c)+B^k*(a/B^k+b/B^k):=by rw[QHM];omega
 rw[e,QH6 _ _ hp,←carr,QIT,QIT (a/B^k%B),QHX,QHX,←QIT (a/B^k),←QIT,QID]
theorem QpG {B:Nat} (hB:0<B) (a b c k:Nat) (hc:c≤1):carr B a b c k≤1:=by
 have hp:0<B^k:=QIA hB
 rw[carr]
 refine Nat.le_of_lt_succ (QHu ?_)
 have:=QGU a hp
 have:=QGU b hp
 omega
theorem Qyv {B:Nat} (a b c k:Nat) (ha:a<B^k) (hb:b<B^k):carr B a b c k=(a+b+c)/B^k:=by rw[carr,QGO ha,QGO hb]
def owed (B a b k:Nat):Nat:=if a%B^k<b%B^k then 1 else 0
theorem QmR (B a b:Nat):owed B a b 0=0:=by simp[owed,Nat.mod_one]
theorem Qmg (B a b k:Nat):owed B a b k≤1:=by
 unfold owed
 split<;>omega
theorem QnV {B:Nat} (hB:0<B) (a b k:Nat):owed B a b (k+1)=if a/B^k%B<b/B^k%B+owed B a b k then 1 else 0:=by
 have hp:0<B^k:=QIA hB
 rw[owed,owed,Qcl,Qcl]
 have ha:=QGU a hp
 have hb:=QGU b hp
 generalize a%B^k=x at *
 generalize b%B^k=y at *
 generalize a/B^k%B=p at *
 generalize b/B^k%B=q at *
 generalize B^k=M at *
 have e:∀p q:Nat,p+1≤q→M*p+M≤M*q:=fun p q h=>by
  have:=QIb M h
  rwa [QHM,QIm]at this
 rcases Nat.lt_trichotomy p q with h|h|h
 ·have:=e p q h
  rw[if_pos (by omega),if_pos (by split<;>omega)]
 ·subst h
  by_cases hxy:x<y
  ·rw[if_pos (by omega),if_pos (by rw[if_pos hxy];omega)]
  ·rw[if_neg (by omega),if_neg (by rw[if_neg hxy];omega)]
 ·have:=e q p h
  rw[if_neg (by omega),if_neg (by split<;>omega)]
theorem Qye (a b M N qa ra qb rb w:Nat) (ea:M*qa+ra=a) (eb:M*qb+rb=b) (hb:rb<M) (ha:ra<M) (hq:qb+1≤N) (hw:w=if ra<rb then 1 else 0):
 a+M*N-b=(ra+w*M-rb)+M*(qa+N-qb-w)∧ra+w*M-rb<M:=by
 obtain⟨t,rfl⟩:∃t,N=qb+1+t:=⟨N-qb-1,by omega⟩
 subst ea
 subst eb
 subst hw
 by_cases h:ra<rb
 ·rw[if_pos h,show qa+(qb+1+t)-qb-1=qa+t by omega]
  simp only[QHM,QIm,Nat.one_mul]
  omega
 ·rw[if_neg h,show qa+(qb+1+t)-qb-0=qa+1+t by omega]
  simp only[QHM,QIm,QIQ]
  omega
theorem Qqg {B:Nat} (hB:0<B) (a b k n:Nat) (hk:k<n) (hb:b<B^n):(a/B^k%B+B-b/B^k%B-owed B a b k)%B=(a+B^n-b)/B^k%B:=by
 have hp:0<B^k:=QIA hB
 obtain⟨m,rfl⟩:∃m,n=k+(m+1):=⟨n-k-1,by omega⟩
 have hbk:b/B^k<B^(m+1):=by
  rw[QHW]at hb
  exact QHu hb
 obtain⟨key,hr⟩:=Qye a b (B^k) (B^(m+1)) (a/B^k) (a%B^k) (b/B^k) (b%B^k) (owed B a b k) (QHn a _) (QHn b _) (QGU b hp) (QGU a hp) hbk rfl
 rw[←QHW]at key
 rw[key,QH6 _ _ hp,QHm hr,QGT]
 have hq:b/B^k%B<B:=QGU _ hB
 have e3:=QHn (a/B^k) B
 have e4:=QHn (b/B^k) B
 have hle:b/B^k/B<B^m:=QHu (by rw[QIu]at hbk;exact hbk)
 have hol:=Qmg B a b k
 have key2:a/B^k+B^(m+1)-b/B^k-owed B a b k=(a/B^k%B+B-b/B^k%B-owed B a b k)+B*(a/B^k/B+B^m-b/B^k/B-1):=by
  rw[QIu,Nat.mul_sub,Nat.mul_sub,QHM,QIm]
  have e1:B*(b/B^k/B)+B≤B*B^m:=by
   have:=QIb B hle
   rwa [Nat.succ_eq_add_one,QHM,QIm]at this
  omega
 rw[key2,Nat.add_mul_mod_self_left]
theorem QqI {B:Nat} (a b k:Nat) (ha:a<B^k) (hb:b<B^k):owed B a b k=if a<b then 1 else 0:=by rw[owed,QGO ha,QGO hb]
def QbM {α:Type} (S A:List α) (k:Nat):List α:=S.take k++A.drop k
theorem Qaz {α:Type} (S A:List α) (k:Nat) (h:S.length=A.length):(QbM S A k).length=A.length:=by
 simp[QbM,h]
 omega
theorem Qbr {α:Type} (S A:List α):QbM S A 0=A:=by simp[QbM]
theorem Qcg {α:Type} (S A:List α) (k:Nat) (h:S.length=k) (h2:A.length=k):QbM S A k=S:=by simp[QbM,←h,QHj,h2]
theorem QeO {α:Type} (S A:List α) (k j:Nat) (h:S.length=A.length) (hk:k≤j) (hj:j<A.length):(QbM S A k)[j]?=A[j]?:=by
 rw[QbM,QGE (by simp;omega),QHA]
 congr 1
 simp
 omega
theorem Qa2 {α:Type} (S A:List α) (k:Nat) (v:α) (h:S.length=A.length) (hk:k<A.length) (hv:S[k]?=some v):(QbM S A k).set k v=QbM S A (k+1):=by
 rw[QbM,QbM,QG1 _ _ (by simp;omega),QIr,hv,QGI]
 congr 1
 rw[QHw hk]
 have:k-(S.take k).length=0:=by simp;omega
 rw[this,QGz]
 rfl
def QbC (B x:Nat) (ys ws:List Nat) (i:Nat):Nat→List Nat×Nat
 | 0=>(ws,0)
 | j+1=>((QbC B x ys ws i j).1.set (i+j) ((x*ys.getD j 0+(QbC B x ys ws i j).1.getD (i+j) 0+(QbC B x ys ws i j).2)%B),
    (x*ys.getD j 0+(QbC B x ys ws i j).1.getD (i+j) 0+(QbC B x ys ws i j).2)/B)
theorem QcZ (B x:Nat) (ys ws:List Nat) (i:Nat):∀j,(QbC B x ys ws i j).1.length=ws.length
 | 0=>rfl
 | j+1=>by rw[QbC,QGV,QcZ]
theorem Qzs {B:Nat} {l:List Nat} (h:∀x∈l,x<B) (i v:Nat) (hv:v<B):∀x∈l.set i v,x<B:=by
 intro x hx
 rcases List.mem_or_eq_of_mem_set hx with hx|rfl
 ·exact h x hx
 ·exact hv
theorem QjF {B:Nat} (hB:0<B) {l:List Nat} (h:∀x∈l,x<B) (i:Nat):l.getD i 0<B:=by
 rw[QGq]
 rcases QHb i l.length with hi|hi
 ·rw[QGt hi]
  exact h _ (QHi hi)
 ·rw[QHF hi]
  exact hB
theorem QCT {B x y w c:Nat} (hx:x<B) (hy:y<B) (hw:w<B) (hc:c<B):(x*y+w+c)/B<B:=by
 refine QHu ?_
 have h1:x*y≤(B-1)*(B-1):=Nat.mul_le_mul (by omega) (by omega)
 have h2:(B-1)*(B-1)+(B-1)+(B-1)<B*B:=by
  obtain⟨k,rfl⟩:∃k,B=k+1:=⟨B-1,by omega⟩
  rw[Nat.add_sub_cancel,QIM,QHM]
  omega
 omega
theorem QiA {B:Nat} (x:Nat) (ys ws:List Nat) (i:Nat) (hx:x<B) (hy:∀y∈ys,y<B) (hw:∀y∈ws,y<B):∀j,(∀ y∈(QbC B x ys ws i j).1,y<B)∧(QbC B x ys ws i j).2<B
 | 0=>⟨hw,by rw[QbC];omega⟩
 | j+1=>by
   have hB:0<B:=by omega
   obtain⟨h1,h2⟩:=QiA x ys ws i hx hy hw j
   exact⟨Qzs h1 _ _ (QGU _ hB),QCT hx (QjF hB hy j) (QjF hB h1 _) h2⟩
theorem Qjz (B x:Nat) (ys ws:List Nat) (i k:Nat):∀j,i+j≤k→(QbC B x ys ws i j).1[k]?=ws[k]?
 | 0,_=>rfl
 | j+1,h=>by rw[QbC,QHU (by omega),Qjz B x ys ws i k j (by omega)]
theorem Qfi (B:Nat) (l:List Nat) (k:Nat) (h:k<l.length):val B (l.take (k+1))=val B (l.take k)+B^k*l.getD k 0:=by
 rw[QGY h,QhB,QGP,QHx (by omega),QGq,QGt h]
 simp[val]
theorem QnG {B:Nat} (x:Nat) (ys ws:List Nat) (i:Nat):∀j,j≤ys.length→i+j≤ws.length→
 val B (QbC B x ys ws i j).1+B^(i+j)*(QbC B x ys ws i j).2=val B ws+B^i*(x*val B (ys.take j))
 | 0,_,_=>by simp[QbC,val]
 | j+1,h1,h2=>by
   have ih:=QnG (B:=B) x ys ws i j (by omega) (by omega)
   have hs:=QpT B (QbC B x ys ws i j).1 (i+j) ((x*ys.getD j 0+(QbC B x ys ws i j).1.getD (i+j) 0+(QbC B x ys ws i j).2)%B) (by rw[QcZ];omega)
   have hd:=QHn (x*ys.getD j 0+(QbC B x ys ws i j).1.getD (i+j) 0+(QbC B x ys ws i j).2) B
   rw[QbC,Qfi B ys j (by omega)]
   simp only
   generalize (QbC B x ys ws i j).1.getD (i+j) 0=w at *
   generalize (QbC B x ys ws i j).2=c at *
   generalize ys.getD j 0=y at *
   generalize (x*y+w+c)/B=q at *
   generalize (x*y+w+c)%B=r at *
   generalize val B ((QbC B x ys ws i j).1.set (i+j) r)=V at *
   generalize val B (QbC B x ys ws i j).1=U at *
   generalize val B (ys.take j)=Y at *
   generalize val B ws=W at *
   have e1:B^(i+(j+1))=B^(i+j)*B:=by rw[←QIO,QHq]
   have e2:B^i*(x*(Y+B^j*y))=B^i*(x*Y)+B^(i+j)*(x*y):=by
    rw[QHW,QHM,QHM]
    congr 1
    rw[QHL,QIJ x]
   have e3:B^(i+j)*(B*q+r)=B^(i+j)*(x*y+w+c):=by rw[hd]
   rw[e1,e2,QHL]
   rw[QHM,QHM,QHM]at e3
   generalize B^(i+j)*(B*q)=A1 at *
   generalize B^(i+j)*r=A2 at *
   generalize B^(i+j)*(x*y)=A3 at *
   generalize B^(i+j)*w=A4 at *
   generalize B^(i+j)*c=A5 at *
   generalize B^i*(x*Y)=A6 at *
   omega
def Qb8 (B:Nat) (xs ys:List Nat) (n:Nat):Nat→List Nat
 | 0=>QGn n 0
 | i+1=>(QbC B (xs.getD i 0) ys (Qb8 B xs ys n i) i ys.length).1.set (i+ys.length) (QbC B (xs.getD i 0) ys (Qb8 B xs ys n i) i ys.length).2
theorem Qcn (B:Nat) (xs ys:List Nat) (n:Nat):∀i,(Qb8 B xs ys n i).length=n
 | 0=>by simp[Qb8]
 | i+1=>by rw[Qb8,QGV,QcZ,Qcn]
theorem QfD {B:Nat} (hB:0<B) (xs ys:List Nat) (n:Nat) (hx:∀x∈xs,x<B) (hy:∀y∈ys,y<B):∀i,∀w∈Qb8 B xs ys n i,w<B
 | 0,w,h=>by
   have:=List.eq_of_mem_replicate h
   omega
 | i+1,w,h=>by
   have:=QiA (xs.getD i 0) ys (Qb8 B xs ys n i) i (QjF hB hx i) hy (QfD hB xs ys n hx hy i) ys.length
   exact Qzs this.1 _ _ this.2 w h
theorem QkV (B:Nat) (xs ys:List Nat) (n k:Nat):∀i,i+ys.length≤k→k<n→(Qb8 B xs ys n i)[k]?=some 0
 | 0,_,hk=>by rw[Qb8,QH1,if_pos hk]
 | i+1,h,hk=>by rw[Qb8,QHU (by omega),Qjz _ _ _ _ _ _ _ (by omega),QkV B xs ys n k i (by omega) hk]
theorem QhI {B:Nat} (xs ys:List Nat) (n:Nat):∀i,i≤xs.length→i+ys.length≤n→val B (Qb8 B xs ys n i)=val B (xs.take i)*val B ys
 | 0,_,_=>by simp[Qb8,Qn5,val]
 | i+1,h1,h2=>by
   have ih:=QhI (B:=B) xs ys n i (by omega) (by omega)
   have hr:=QnG (B:=B) (xs.getD i 0) ys (Qb8 B xs ys n i) i ys.length (QGx _) (by rw[Qcn];omega)
   have hf:=Qjz B (xs.getD i 0) ys (Qb8 B xs ys n i) i (i+ys.length) ys.length (QGx _)
   rw[QkV B xs ys n _ i (QGx _) (by omega)]at hf
   have hs:=QpT B (QbC B (xs.getD i 0) ys (Qb8 B xs ys n i) i ys.length).1 (i+ys.length) (QbC B (xs.getD i 0) ys (Qb8 B xs ys n i) i ys.length).2 (by rw[QcZ,Qcn];omega)
   have hf':(QbC B (xs.getD i 0) ys (Qb8 B xs ys n i) i ys.length).1.getD (i+ys.length) 0=0:=by rw[QGq,hf];rfl
   rw[hf',Nat.mul_zero,QIf,hr,ih,List.take_length]at hs
   rw[Qb8,hs,Qfi B xs i (by omega),QIM,QHL]
end Go.Proofs.YtdhgpkdjdmlphaaGreat
namespace Go.Proofs.YtdhgpkdjdmlphaaGreat
open Go.RowKit
def B64:Nat:=18446744073709551616
def B32:Nat:=4294967296
theorem Qa5:0<B64:=by decide
theorem Qbj:0<B32:=by decide
def n64 (n:Nat):Value:=W64 (QGS n)
def n32 (n:Nat):Value:=W32 (QG5 n)
def n8 (n:Nat):Value:=W8 (QG3 n)
@[go_sem] theorem QFL (n:Nat):(n%B64<B64)=True:=eq_true (QGU _ Qa5)
@[go_sem] theorem QFI (n:Nat):(n%B32<B32)=True:=eq_true (QGU _ Qbj)
theorem Qig {n:Nat} {x:UInt64} (h:x.toNat=n%B64):W64 x=n64 n:=by
 unfold B64 at h
 rw[n64]
 congr 1
 apply QIx.1
 rw[QGZ,h]
theorem Qt1 {n:Nat} {x:UInt32} (h:x.toNat=n%B32):W32 x=n32 n:=by
 unfold B32 at h
 rw[n32]
 congr 1
 apply QIV.1
 rw[QIz,h]
theorem n8_w {n:Nat} {x:UInt8} (h:x.toNat=n%256):W8 x=n8 n:=by
 rw[n8]
 congr 1
 apply QHl.1
 rw[QHy,h]
theorem QzA {n m:Nat} (h:n%B64=m%B64):n64 n=n64 m:=by
 rw[n64]
 apply Qig
 rw[QGZ,←h]
 rfl
theorem Qzn {n m:Nat} (h:n%B32=m%B32):n32 n=n32 m:=by
 rw[n32]
 apply Qt1
 rw[QIz,←h]
 rfl
theorem QFq (x:UInt64):W64 x=n64 x.toNat:=by rw[n64,UInt64.ofNat_toNat]
theorem tn64 {n:Nat} (h:n<B64):(QGS n).toNat=n:=by
 unfold B64 at h
 rw[QGZ]
 exact QGO h
theorem tn32 {n:Nat} (h:n<B32):(QG5 n).toNat=n:=by
 unfold B32 at h
 rw[QIz]
 exact QGO h
theorem Qfy {n:Nat} (h:n<B64):n64 n= .int .u64 (n:Int):=by rw[n64,W64,tn64 h]
theorem Qzp {n:Nat} (h:n<B32):n32 n= .int .u32 (n:Int):=by rw[n32,W32,tn32 h]
theorem QhW (k:Int) (h0:0≤k) (h1:k<18446744073709551616):Value.int .u64 k=n64 k.toNat:=by
 rw[Qfy (by unfold B64;omega)]
 congr 1
 omega
theorem QBJ (k:Int) (h0:0≤k) (h1:k<4294967296):Value.int .u32 k=n32 k.toNat:=by
 rw[Qzp (by unfold B32;omega)]
 congr 1
 omega
@[go_sem ↓] theorem QDa (x:Nat):(n64 x).cells= #[n64 x]:=rfl
@[go_sem ↓] theorem QDr (x:Nat):(n32 x).cells= #[n32 x]:=rfl
@[go_sem ↓] theorem QEE (x:Nat):(n8 x).cells= #[n8 x]:=rfl
theorem Qwh (l:List Nat):∀v∈l.map n64,v.oneCell'=true:=by
 intro v hv
 obtain⟨x,_,rfl⟩:=QG2.1 hv
 rfl
theorem QB8 (l:List Nat):∀v∈l.map n32,v.oneCell'=true:=by
 intro v hv
 obtain⟨x,_,rfl⟩:=QG2.1 hv
 rfl
@[go_sem] theorem QEQ:(0<B64)=True:=eq_true Qa5
@[go_sem] theorem QFN:(1<B64)=True:=eq_true (by decide)
@[go_sem] theorem QD8:(0<B32)=True:=eq_true Qbj
@[go_sem] theorem QFZ:(1<B32)=True:=eq_true (by decide)
section
variable (T:TypeId) (ox oy:Operand)
@[go_sem] theorem QAD (op:BinOp) (x y:Nat):eqGuard op T ox oy (n64 x) (n64 y)=pure ():=Qbg ..
@[go_sem] theorem Qzf (op:BinOp) (x:Nat) (k:IntKind) (y:Int):eqGuard op T ox oy (n64 x) (.int k y)=pure ():=Qbg ..
@[go_sem] theorem Qy3 (op:BinOp) (x:Nat) (k:IntKind) (y:Int):eqGuard op T ox oy (.int k y) (n64 x)=pure ():=Qbg ..
@[go_sem] theorem QAo (op:BinOp) (x y:Nat):eqGuard op T ox oy (n32 x) (n32 y)=pure ():=Qbg ..
@[go_sem] theorem Qy5 (op:BinOp) (x:Nat) (k:IntKind) (y:Int):eqGuard op T ox oy (n32 x) (.int k y)=pure ():=Qbg ..
@[go_sem] theorem QzB (op:BinOp) (x:Nat) (k:IntKind) (y:Int):eqGuard op T ox oy (.int k y) (n32 x)=pure ():=Qbg ..
@[go_sem] theorem Qwu (x y:Nat):binOp .add T (n64 x) (n64 y)=pure (n64 (x+y)):=by
  rw[n64,n64,Qpj,Qig]
  rw[UInt64.toNat_add,QGZ,QGZ]
  unfold B64
  omega
@[go_sem] theorem QDZ (x:Nat) (k:Int) (h0:0≤k) (h1:k<18446744073709551616):binOp .add T (n64 x) (.int .u64 k)=pure (n64 (x+k.toNat)):=by rw[QhW k h0 h1,Qwu]
@[go_sem] theorem QD4 (x:Nat) (k:Int) (h0:0≤k) (h1:k<18446744073709551616):binOp .add T (.int .u64 k) (n64 x)=pure (n64 (k.toNat+x)):=by rw[QhW k h0 h1,Qwu]
@[go_sem] theorem Qt6 (x y:Nat) (hx:x<B64) (hy:y≤x):binOp .sub T (n64 x) (n64 y)=pure (n64 (x-y)):=by
  rw[n64,n64,QoB,Qig]
  unfold B64 at hx
  rw[UInt64.toNat_sub,QGZ,QGZ]
  unfold B64
  omega
@[go_sem] theorem QpN (x y:Nat):binOp .mul T (n64 x) (n64 y)=pure (n64 (x*y)):=by
  rw[n64,n64,Qo5,Qig]
  rw[UInt64.toNat_mul,QGZ,QGZ]
  exact (QHP x y B64).symm
@[go_sem] theorem QEn (x:Nat) (k:Int) (h0:0≤k) (h1:k<18446744073709551616):binOp .mul T (n64 x) (.int .u64 k)=pure (n64 (x*k.toNat)):=by rw[QhW k h0 h1,QpN]
@[go_sem] theorem QEy (x:Nat) (k:Int) (h0:0≤k) (h1:k<18446744073709551616):binOp .mul T (.int .u64 k) (n64 x)=pure (n64 (k.toNat*x)):=by rw[QhW k h0 h1,QpN]
theorem QgM (x:Nat) (k:Nat):x &&& (2^k-1)=x%2^k:=Nat.and_two_pow_sub_one_eq_mod x k
@[go_sem] theorem QCl (x:Nat):binOp .and T (n64 x) (.int .u64 9223372036854775807)=pure (n64 (x%9223372036854775808)):=by
  rw[n64,Qmj _ _ _ (by omega) (by omega),Qig]
  rw[UInt64.toNat_and,QGZ,QGZ]
  have:=QgM (x%2^64) 63
  unfold B64
  simp only[Int.reduceToNat,Nat.reducePow,Nat.reduceSub,Nat.reduceMod]at this ⊢
  rw[this]
  omega
@[go_sem] theorem QDd (x:Nat):binOp .and T (n64 x) (.int .u64 4294967295)=pure (n64 (x%4294967296)):=by
  rw[n64,Qmj _ _ _ (by omega) (by omega),Qig]
  rw[UInt64.toNat_and,QGZ,QGZ]
  have:=QgM (x%2^64) 32
  unfold B64
  simp only[Int.reduceToNat,Nat.reducePow,Nat.reduceSub,Nat.reduceMod]at this ⊢
  rw[this]
  omega
@[go_sem] theorem QCk (x:Nat):binOp .and T (n64 x) (.int .u64 1)=pure (n64 (x%2)):=by
  rw[n64,Qmj _ _ _ (by omega) (by omega),Qig]
  rw[UInt64.toNat_and,QGZ,QGZ]
  have:=QgM (x%2^64) 1
  unfold B64
  simp only[Int.reduceToNat,Nat.reducePow,Nat.reduceSub,Nat.reduceMod]at this ⊢
  rw[this]
  omega
@[go_sem] theorem QBQ (x:Nat) (hx:x<B64) (yk:IntKind) (k:Int) (h0:0≤k):binOp .shr T (n64 x) (.int yk k)=pure (n64 (x/2^k.toNat)):=by
  rw[n64,Ql3 _ _ _ _ h0,Qig]
  rw[QhT]
  show (BitVec.toNat _)=_
  rw[QHz]
  show (QGS x).toNat >>> _=_
  rw[tn64 hx,QHv]
  have:x/2^k.toNat<B64:=QHZ (Nat.div_le_self _ _) hx
  rw[QGO this]
@[go_sem] theorem QAE (x:Nat) (hx:x<B64) (k:Int) (h0:0<k) (h1:k<18446744073709551616):binOp .rem T (n64 x) (.int .u64 k)=pure (n64 (x%k.toNat)):=by
  rw[n64,Qyg _ _ _ (by omega) h1 (by rw[QGZ];omega),Qig]
  rw[UInt64.toNat_mod,tn64 hx,QGZ,QGO (show k.toNat<2^64 by omega),QGO (QHZ (Nat.mod_le _ _) hx)]
@[go_sem] theorem QCf (x:Nat):binOp .rem T (n64 x) (.int .u64 4294967296)=pure (n64 (x%B32)):=by
  rw[QzA (show x%B64=(x%B64)%B64 by rw[QHX]),QAE _ _ (QGU _ Qa5) _ (by omega) (by omega)]
  congr 2
  unfold B64 B32
  simp only[Int.reduceToNat]
  omega
theorem QAh (x y:Nat) (hx:x<B64) (hy:y<B64):binOp .eql T (n64 x) (n64 y)=pure (.bool (x==y)):=by
 rw[n64,n64,Qpv]
 congr 2
 rw[QHh]
 simp only[beq_iff_eq,←QIx,tn64 hx,tn64 hy]
@[go_sem] theorem QEU (x:Nat) (k:Int) (hx:x<B64) (h0:0≤k) (h1:k<18446744073709551616):binOp .eql T (n64 x) (.int .u64 k)=pure (.bool (x==k.toNat)):=by
  rw[QhW k h0 h1,QAh _ _ _ hx (by unfold B64;omega)]
@[go_sem] theorem QEP (x:Nat) (k:Int) (hx:x<B64) (h0:0≤k) (h1:k<18446744073709551616):binOp .gtr T (n64 x) (.int .u64 k)=pure (.bool (decide (k.toNat<x))):=by
  rw[QhW k h0 h1,n64,n64,Qph]
  congr 2
  rw[QHh]
  simp only[decide_eq_true_eq,UInt64.lt_iff_toNat_lt,tn64 hx]
  rw[tn64 (show k.toNat<B64 by unfold B64;omega)]
@[go_sem] theorem QE8 (x y:Nat) (hx:x<B64) (hy:y<B64):binOp .lss T (n64 x) (n64 y)=pure (.bool (decide (x<y))):=by
  rw[n64,n64,Qou]
  congr 2
  rw[QHh]
  simp only[decide_eq_true_eq,UInt64.lt_iff_toNat_lt,tn64 hx,tn64 hy]
end
section
variable {P:Program} (w:World) (S D:TypeId)
@[go_sem] theorem QpF (x:Nat) (hx:x<B32) (hs:(P.underlying S).isSome=true) (hd:P.underlying D=some (.int .u64)):(convert S D (n32 x)).run P w= .ok (n64 x) w:=by
  rw[n32,QgA _ _ _ _ hs hd,Qig]
  rw[UInt32.toNat_toUInt64,tn32 hx,QGO (show x<B64 by unfold B32 at hx;unfold B64;omega)]
@[go_sem] theorem Qop (x:Nat) (hs:(P.underlying S).isSome=true) (hd:P.underlying D=some (.int .u32)):(convert S D (n64 x)).run P w= .ok (n32 x) w:=by
  rw[n64,QgI _ _ _ _ hs hd,Qt1]
  rw[UInt64.toNat_toUInt32,QGZ]
  unfold B32
  omega
@[go_sem] theorem Qrb (x:Nat) (hs:(P.underlying S).isSome=true) (hd:P.underlying D=some (.int .u8)):(convert S D (n64 x)).run P w= .ok (n8 x) w:=by
  rw[n64,Qg4 _ _ _ _ hs hd,n8_w]
  rw[UInt64.toNat_toUInt8,QGZ]
  omega
@[go_sem] theorem Qw1 (P:Program) (w:World) (a:Addr) (m:Mode) (x:Nat):(store a (n64 x) m).run P w=stored P w a (n64 x) m:=run_store P w a _ m rfl
@[go_sem] theorem QyL (P:Program) (w:World) (a:Addr) (m:Mode) (x:Nat):(store a (n32 x) m).run P w=stored P w a (n32 x) m:=run_store P w a _ m rfl
@[go_sem] theorem QzN (P:Program) (w:World) (a:Addr) (m:Mode) (x:Nat):(store a (n8 x) m).run P w=stored P w a (n8 x) m:=run_store P w a _ m rfl
end
def EL (n:Nat):List Value:=(dig B64 4 n).map n64
abbrev E (n:Nat):Value:=.agg (EL n).toArray
theorem Qak (n:Nat):(EL n).length=4:=by rw[EL,QGr,QaS]
def lim (n i:Nat):Nat:=n/B64^i%B64
@[go_sem] theorem QGj (n i:Nat):(lim n i<B64)=True:=eq_true (QGU _ Qa5)
theorem Qdc (n i:Nat) (h:i<4):(EL n)[i]?=some (n64 (lim n i)):=by rw[EL,QGF,QgG _ _ _ _ h];rfl
@[go_sem] theorem QtB (n i:Nat) (h:i<(EL n).length):(EL n)[i]=n64 (lim n i):=by
  have:=Qdc n i (by rw[Qak]at h;exact h)
  rw[QGt h]at this
  exact Option.some.inj this
theorem QhM (x y c:Nat) (hx:x<B64) (hy:y<B64) (hc:c≤1) (w:World):
 (callFunc 176 #[n64 x,n64 y,n64 c]).run Tryz.prog w= .ok (.value (.tuple #[n64 ((x+y+c)%B64),n64 ((x+y+c)/B64)])) w:=by
 rw[Qfy hx,Qfy hy,Qfy (show c<B64 by unfold B64;omega),run_callFunc_extern Tryz.func176 (by kernel_rfl) (by kernel_rfl) (by kernel_rfl) (e:=add64Entry) (by kernel_rfl),run_add64 _ _ _ (by omega) (by omega) (by omega) (by omega)]
 simp only[Result.andThen]
 rw[Qfy (QGU _ Qa5),Qfy (show (x+y+c)/B64<B64 by unfold B64 at *;omega)]
 congr 5<;>(unfold B64;omega)
@[go_sem high] theorem run_add64 (x y c:Nat) (hx:x<B64) (hy:y<B64) (hc:c≤1) (w:World):
   (callFunc 176 #[n64 x,n64 y,n64 c]).run Tryz.prog w= .ok (.value (.tuple #[n64 ((x+y+c)%B64),n64 ((x+y+c)/B64)])) w:=QhM x y c hx hy hc w
@[go_sem high] theorem QAe (x y:Nat) (hx:x<B64) (hy:y<B64) (w:World):
   (callFunc 176 #[n64 x,n64 y,.int .u64 0]).run Tryz.prog w= .ok (.value (.tuple #[n64 ((x+y)%B64),n64 ((x+y)/B64)])) w:=QhM x y 0 hx hy (by omega) w
@[go_sem high] theorem QB3 (x c:Nat) (hx:x<B64) (hc:c≤1) (w:World):
   (callFunc 176 #[n64 x,.int .u64 0,n64 c]).run Tryz.prog w= .ok (.value (.tuple #[n64 ((x+c)%B64),n64 ((x+c)/B64)])) w:=QhM x 0 c hx Qa5 hc w
theorem Qqq (n:Nat):∀v∈EL n,v.oneCell'=true:=Qwh _
theorem Qod {B n:Nat} (h:n<B) (k:Nat) (hk:0<k):n/B^k%B=0:=by
 rw[QHm (QGN h (Nat.le_pow (by omega))),QII]
set_option maxHeartbeats 1000000 in
theorem Qhc (a n:Nat) (hn:n<B64) (w:World):
 Calls Tryz.prog 154 #[E a,n64 n] w fun e w'=>e= .returned (.tuple #[E (a+n),n64 ((a%B64^4+n)/B64^4)])∧Later w w':=by
 have hlS:=Qak (a+n)
 have hlA:=Qak a
 have hb:Blk ((w.alloc (.cells (EL a).toArray 211)).alloc (.cells (QGn 4 (.int .u64 0)).toArray 211)) w.heap.size 211 (EL a):=(Blk.new _ _ _).later (Qaa _ _)
 have hr:Blk ((w.alloc (.cells (EL a).toArray 211)).alloc (.cells (QGn 4 (.int .u64 0)).toArray 211)) (w.heap.size+1) 211 (QGn 4 (.int .u64 0)):=Blk.new' _ _ _ (by simp)
 go_enter Tryz.func154,Tryz.ntmps154
 go_wp2_with (first
  | (refine Qad rfl rfl _ _ _ rfl _ _ _ _ hb rfl ?hl rfl (by kernel_rfl) ?_;(case hl=>omega);intro v w1 hv hb1 ho1;simp[go_sem]at hv;subst hv))
 have e0:(lim a 0+n)%B64=lim (a+n) 0:=by
  simp[lim]
 have e1:(lim a 0+n)/B64=carr B64 a n 0 1:=by
  simp[carr,lim,QGO hn]
 rw[e0,←Qbr (EL (a+n)) (EL a),Qa2 _ _ _ _ (by omega) (by omega) (Qdc (a+n) 0 (by omega))]at hb1
 have HE:=hid e1
 clear e0 e1
 have L1:Later w w1:=((Qaa _ _).trans (Qaa _ _)).only ho1 (QGx _)
 have hr1:=hr.only ho1 (by omega)
 go_loopw [6,7] (fun c i wr=>∃k:Nat,1≤k∧k≤4∧i= .int .i64 k∧c=n64 (carr B64 a n 0 k)∧Blk wr w.heap.size 211 (QbM (EL (a+n)) (EL a) k)∧Blk wr (w.heap.size+1) 211 (QGn 4 (.int .u64 0))∧Later w wr) (fun _ i _=>4-(intOf i).toNat)
 case atStart=>exact⟨1,by omega,by omega,rfl,by rw[HE.out],hb1,hr1,L1⟩
 case round=>
  clear hb hr hb1 hr1 L1 ho1 HE
  obtain⟨k,hk1,hk4,rfl,rfl,hb,hr,L⟩:=hrel
  by_cases hlt:k<4
  ·have hc:=QpG Qa5 a n 0 k (by omega)
   have S0:=hid (Qpd Qa5 a n 0 k)
   have S1:=hid (Qi7 Qa5 a n 0 k)
   have d0:=hb.cellD k (u:=n64 (lim a k)) (by rw[QeO _ _ _ _ (by omega) (QGx _) (by omega)];exact Qdc a k hlt)
   generalize carr B64 a n 0 k=c at *
   go_wp2_with (first
    | (refine Qad rfl rfl _ _ _ rfl _ _ _ _ hb rfl ?hl rfl (by kernel_rfl) ?_;(case hl=>rw[Qaz _ _ _ (by omega)];omega);intro v w2 hv hb2 ho2;simp[go_sem]at hv;subst hv))
   go_roundw
   case rel=>
    have z:n/B64^k%B64=0:=Qod hn k hk1
    have e0:=S0.out
    have e1:=S1.out
    rw[z]at e0 e1
    rw[Qa2 _ _ _ _ (by omega) (by omega) (by rw[Qdc (a+n) k hlt,lim,lim,←QIf (a+n),←e0,QIf])]at hb2
    exact⟨k+1,by omega,by omega,by go_num,by rw[←e1];rfl,hb2,hr.only ho2 (by omega),L.only ho2 (QGx _)⟩
   case measure=>simp[intOf];omega
  ·obtain rfl:k=4:=by omega
   have hcE:carr B64 a n 0 4=(a%B64^4+n)/B64^4:=by
    rw[carr,QGO (show n<B64^4 from QGN hn (Nat.le_pow (by omega)))]
    rfl
   rw[Qcg _ _ _ hlS hlA]at hb
   have HC:=hid hcE
   clear hcE
   go_wp2_with (first
    | (refine QaM rfl 211 _ rfl w.heap.size 0 (EL (a+n)) ?hc ?hx _ Tryz.underlying211 rfl ?hi ?_;(case hx=>rfl);(case hi=>rw[hlS];kernel_rfl);(case hc=>intro j v hv;rw[QGT];exact hb.cellD j hv))
    | (refine Qal rfl rfl 211 _ _ rfl (w.heap.size+1) 0 211 _ (EL (a+n)) hr ?hx ?hy ?hi ?hf ?h1 ?_;(case hx=>rfl);(case hy=>rfl);(case hi=>rw[hlS];kernel_rfl);(case hf=>simp[hlS]);(case h1=>exact Qqq _);intro w9 hb9 ho9))
   rw[Qav _ _ (by simp[hlS])]at hb9
   exact bodyPost_ret (Qac rfl _ _ _ _ (EL (a+n)) _ hb9 rfl Tryz.underlying211 rfl (by rw[hlS];kernel_rfl)) rfl ⟨by rw[←HC.out];rfl,L.only ho9 (by omega)⟩
def P25:Nat:=57896044618658097711785492504343953926634992332820282019728792003956564819949
def T255:Nat:=57896044618658097711785492504343953926634992332820282019728792003956564819968
def T256:Nat:=115792089237316195423570985008687907853269984665640564039457584007913129639936
theorem Qd6:B64^4=T256:=by decide
theorem Qbp:0<P25:=by decide
theorem QtJ (n:Nat) (hn:n<T256):∃u,u=n%T255+19*(n/T255)∧(u+19<T255→u=n%P25)∧(T255≤u+19→u+19<T256∧u+19-T255=n%P25):=by
 refine⟨_,rfl,?_,?_⟩<;>unfold T255 P25 at* <;>unfold T256 at* <;>omega
theorem lim3 (n:Nat) (hn:n<T256):lim n 3/9223372036854775808=n/T255:=by
 unfold lim B64 T255
 unfold T256 at hn
 omega
theorem QqR (n:Nat):(EL n).set 3 (n64 (lim n 3%9223372036854775808))=EL (n%T255):=by
 have h0:lim n 0=lim (n%T255) 0:=by unfold lim T255 B64;omega
 have h1:lim n 1=lim (n%T255) 1:=by unfold lim T255 B64;omega
 have h2:lim n 2=lim (n%T255) 2:=by unfold lim T255 B64;omega
 have h3:lim n 3%9223372036854775808=lim (n%T255) 3:=by unfold lim T255 B64;omega
 have e:∀m,EL m=[n64 (lim m 0),n64 (lim m 1),n64 (lim m 2),n64 (lim m 3)]:=by
  intro m
  apply QIN (Qak m)
  intro i hi1 hi2
  rw[QtB]
  have:i=0∨i=1∨i=2∨i=3:=by rw[Qak]at hi1;omega
  rcases this with rfl|rfl|rfl|rfl<;>rfl
 rw[e,e,h0,h1,h2,h3]
 rfl
theorem QhN:(Tryz.prog.info? 211).map (·.size)=some 4:=by kernel_rfl
section
variable {ops:Array Oper} {rest:List Oper} {o:Oper} {a:Act} {w:World} {Q:Exit→Act→World→Prop}
theorem QbK (hgd:Region.wanted o (yielded ops a.tmps)=true) (x:Operand) (ho:o.op= .load 211 x) {g:Nat} {t:TypeId} {n:Nat} (hb:Blk w g t (EL n)) (hx:a.eval x= .pointer (some ⟨g,0,none⟩))
 (h:wpList Tryz.prog ops Q rest (a.put o.dst (E n)) w):wpList Tryz.prog ops Q (o :: rest) a w:=
 Qbz hgd _ x ho g t _ hb hx _ Tryz.underlying211 rfl 4 QhN (Qak n) h
theorem QaI (hgd:o.guard=none) (hd:o.dst=none) (x y:Operand) (ho:o.op= .store 211 x y) {g:Nat} {t:TypeId} {l:List Value} {n:Nat} (hg:Blk w g t l) (hx:a.eval x= .pointer (some ⟨g,0,none⟩)) (hy:a.eval y=E n) (hl:l.length=4)
 (h:∀w',Blk w' g t (EL n)→Only g w w'→wpList Tryz.prog ops Q rest a w'):wpList Tryz.prog ops Q (o :: rest) a w:=
 Qai hgd hd _ x y ho g t l _ hg hx hy 4 QhN (Qak n) hl (Qqq n) h
theorem QhU {fn:Func} {p:Tmp} (hf:fn.results= #[.cell p 211]) {tmps:Array Value} {g:Nat} {t:TypeId} {n:Nat} (hg:Blk w g t (EL n)) (hp:tmps.getD p undef= .pointer (some ⟨g,0,none⟩)):
 (results fn tmps).run Tryz.prog w= .ok (E n) w:=Qa8 hf tmps w g t _ _ hg hp Tryz.underlying211 rfl (by rw[Qak];exact QhN)
theorem QcY {K:Act→Prop} (x:Operand) (ho:o.op= .load 211 x) {w0:World} {g:Nat} {t:TypeId} {n:Nat} (hb:Blk w0 g t (EL n)) (hx:a.eval x= .pointer (some ⟨g,0,none⟩)) (h:K (a.put o.dst (E n))):
 o.quiet Tryz.prog a (fun w'=>∃x,w'=grow w0 x) K:=
 QaJ _ x ho g 0 (EL n) (fun w' hw j v hv=>by obtain⟨y,rfl⟩:=hw;rw[QGT];exact (hb.later ⟨y,rfl⟩).cellD j hv) hx _ Tryz.underlying211 rfl (by rw[Qak];exact QhN) h
end
theorem QuS (a:Nat) (w:World):Calls Tryz.prog 154 #[E a,.int .u64 19] w fun e w'=>e= .returned (.tuple #[E (a+19),n64 ((a%B64^4+19)/B64^4)])∧Later w w':=Qhc a 19 (by decide) w
set_option maxHeartbeats 1000000 in
theorem QeC (n:Nat) (hn:n<T256) (w:World):
 Calls Tryz.prog 123 #[E n] w fun e w'=>e= .returned (E (n%P25))∧Later w w':=by
 obtain⟨u,hu,hu1,hu2⟩:=QtJ n hn
 have hl3:=lim3 n hn
 have hq:n/T255≤1:=by unfold T255;unfold T256 at hn;omega
 have hus:u<T256:=by unfold T255 at hu;unfold T256 at *;omega
 have hus':u+19<T256:=by unfold T255 at hu;unfold T256 at *;omega
 have hlu:=lim3 (u+19) hus'
 have HQ:=hid hl3
 have HU:=hid hu
 have HL:=hid hlu
 clear hl3 hu hlu
 have hlS:=Qak n
 have hb:Blk ((w.alloc (.cells (EL n).toArray 211)).alloc (.cells (QGn 4 (.int .u64 0)).toArray 211)) w.heap.size 211 (EL n):=(Blk.new _ _ _).later (Qaa _ _)
 have hr:Blk ((w.alloc (.cells (EL n).toArray 211)).alloc (.cells (QGn 4 (.int .u64 0)).toArray 211)) (w.heap.size+1) 211 (QGn 4 (.int .u64 0)):=Blk.new' _ _ _ (by simp)
 have hcs:u+19<T255∧(u+19)/T255=0∨T255≤u+19∧(u+19)/T255=1:=by unfold T255;unfold T256 at hus';omega
 rcases hcs with ⟨hlt,hz⟩|⟨hge,hz⟩
 ·have hz':lim (u+19) 3/9223372036854775808=0:=HL.out.trans hz
  have hR:=hid (hu1 hlt)
  clear hz hu1 hu2
  go_enter Tryz.func123,Tryz.ntmps123
  go_wp2_with (first
   | (refine Qad rfl rfl _ _ _ rfl _ _ _ _ hb rfl ?hl rfl (by kernel_rfl) ?_;(case hl=>omega);intro v w1 hv hb1 ho1;simp[go_sem]at hv;subst hv
      rw[QqR]at hb1
      have hr1:=hr.only ho1 (by omega)
      have L1:Later w w1:=((Qaa _ _).trans (Qaa _ _)).only ho1 (QGx _)
      clear hb hr ho1)
   | (refine QbK rfl _ rfl hb1 rfl ?_)
   | (go_at_call 154;(with_reducible refine (Qhc (n%T255) _ ?hb19 _).mono ?_);(case hb19=>rw[HQ.out];unfold B64;omega);rintro e w2 ⟨rfl,hl2⟩;rw[HQ.out,←HU.out]
      replace hb1:=hb1.later hl2
      have hr2:=hr1.later hl2
      have L2:=L1.trans hl2
      clear hr1 L1 hl2)
   | (refine QaI rfl rfl _ _ rfl hb1 rfl rfl (Qak _) ?_;intro w3 hb3 ho3
      have hr3:=hr2.only ho3 (by omega)
      have L3:=L2.only ho3 (QGx _)
      clear hr2 L2 ho3 hb1)
   | (refine QbK rfl _ rfl hb3 rfl ?_)
   | (go_at_call 154;(with_reducible refine (QuS u _).mono ?_);rintro e w4 ⟨rfl,hl4⟩
      have hb4:=(hb3.later hl4).later (Qaa _ (.cells (QGn 4 (.int .u64 0)).toArray 211))
      have hr4:=(hr3.later hl4).later (Qaa _ (.cells (QGn 4 (.int .u64 0)).toArray 211))
      have L4:=(L3.trans hl4).alloc (.cells (QGn 4 (.int .u64 0)).toArray 211)
      have hs4:=hr3.lt
      have hs5:=hl4.size
      have hn4:Blk (w4.alloc (.cells (QGn 4 (.int .u64 0)).toArray 211)) w4.heap.size 211 (QGn 4 (.int .u64 0)):=Blk.new _ _ _
      clear hr3 L3 hl4 hb3)
   | (refine QaI rfl rfl _ _ rfl hn4 rfl rfl rfl ?_;intro w5 hb5 ho5
      have hu5:=hb4.only ho5 (by omega)
      have hr5:=hr4.only ho5 (by omega)
      have L5:=L4.only ho5 (by omega)
      have d5:=hb5.cellD 3 (Qdc _ 3 (by omega))
      clear hr4 L4 ho5 hb4)
   | (refine QbK rfl _ rfl hu5 rfl ?_)
   | (refine QaI rfl rfl _ _ rfl hr5 rfl rfl rfl ?_;intro w6 hb6 ho6))
  exact bodyPost_ret (QhU rfl hb6 rfl) rfl ⟨by rw[hR.out],L5.only ho6 (by omega)⟩
 ·have hz':lim (u+19) 3/9223372036854775808=1:=HL.out.trans hz
  obtain⟨_,hu3⟩:=hu2 hge
  have hm:(u+19)%T255=n%P25:=by rw[←hu3];unfold T255 at *;unfold T256 at *;omega
  have hR:=hid hm
  clear hz hu1 hu2 hu3 hm
  go_enter Tryz.func123,Tryz.ntmps123
  go_wp2_with (first
   | (refine Qad rfl rfl _ _ _ rfl _ _ _ _ hb rfl ?hl rfl (by kernel_rfl) ?_;(case hl=>omega);intro v w1 hv hb1 ho1;simp[go_sem]at hv;subst hv
      rw[QqR]at hb1
      have hr1:=hr.only ho1 (by omega)
      have L1:Later w w1:=((Qaa _ _).trans (Qaa _ _)).only ho1 (QGx _)
      clear hb hr ho1)
   | (refine QbK rfl _ rfl hb1 rfl ?_)
   | (go_at_call 154;(with_reducible refine (Qhc (n%T255) _ ?hb19 _).mono ?_);(case hb19=>rw[HQ.out];unfold B64;omega);rintro e w2 ⟨rfl,hl2⟩;rw[HQ.out,←HU.out]
      replace hb1:=hb1.later hl2
      have hr2:=hr1.later hl2
      have L2:=L1.trans hl2
      clear hr1 L1 hl2)
   | (refine QaI rfl rfl _ _ rfl hb1 rfl rfl (Qak _) ?_;intro w3 hb3 ho3
      have hr3:=hr2.only ho3 (by omega)
      have L3:=L2.only ho3 (QGx _)
      clear hr2 L2 ho3 hb1)
   | (refine QbK rfl _ rfl hb3 rfl ?_)
   | (go_at_call 154;(with_reducible refine (QuS u _).mono ?_);rintro e w4 ⟨rfl,hl4⟩
      have hb4:=(hb3.later hl4).later (Qaa _ (.cells (QGn 4 (.int .u64 0)).toArray 211))
      have hr4:=(hr3.later hl4).later (Qaa _ (.cells (QGn 4 (.int .u64 0)).toArray 211))
      have L4:=(L3.trans hl4).alloc (.cells (QGn 4 (.int .u64 0)).toArray 211)
      have hs4:=hr3.lt
      have hs5:=hl4.size
      have hn4:Blk (w4.alloc (.cells (QGn 4 (.int .u64 0)).toArray 211)) w4.heap.size 211 (QGn 4 (.int .u64 0)):=Blk.new _ _ _
      clear hr3 L3 hl4 hb3)
   | (refine QaI rfl rfl _ _ rfl hn4 rfl rfl rfl ?_;intro w5 hb5 ho5
      have hu5:=hb4.only ho5 (by omega)
      have hr5:=hr4.only ho5 (by omega)
      have L5:=L4.only ho5 (by omega)
      have d5:=hb5.cellD 3 (Qdc _ 3 (by omega))
      clear hr4 L4 ho5 hb4)
   | (refine Qad rfl rfl _ _ _ rfl _ _ _ _ hb5 rfl ?hl rfl (by kernel_rfl) ?_;(case hl=>rw[Qak];omega);intro v w6 hv hb6 ho6;simp[go_sem]at hv;subst hv
      rw[QqR,hR.out]at hb6
      have hr6:=hr5.only ho6 (by omega)
      have L6:=L5.only ho6 (by omega))
   | (refine QbK rfl _ rfl hb6 rfl ?_)
   | (refine QaI rfl rfl _ _ rfl hr6 rfl rfl rfl ?_;intro w7 hb7 ho7))
  exact bodyPost_ret (QhU rfl hb7 rfl) rfl ⟨rfl,L6.only ho7 (by omega)⟩
theorem QpB {a a' b b':Value} (h:a=a') (h':b=b'):Ending.returned (.tuple #[a,b])= .returned (.tuple #[a',b']):=by rw[h,h']
set_option maxHeartbeats 1000000 in
theorem Qv5 (x y:Nat) (hx:x<B64) (hy:y<B64) (w:World):
 Calls Tryz.prog 191 #[n64 x,n64 y] w fun e w'=>e= .returned (.tuple #[n64 (x*y/B64),n64 (x*y%B64)])∧w=w':=by
 have hB:B64=18446744073709551616:=rfl
 obtain⟨bd,bt,bw,hhi⟩:=Lib.mul64_hi x y hx hy
 rw[←hB]at hhi bd bt bw
 have HH:=hid hhi
 clear hhi hB
 go_enter Tryz.func191,Tryz.ntmps191
 go_wp2
 go_ret2
 exact⟨QpB (congrArg n64 HH.out) (QzA (QHX (x*y) B64).symm),rfl⟩
theorem QuF (p m c:Nat):p/B64+(p%B64+m)/B64+((p+m)%B64+c)/B64=(p+m+c)/B64:=by
 unfold B64
 omega
set_option maxHeartbeats 1000000 in
theorem Qp3 (x y m c:Nat) (hx:x<B64) (hy:y<B64) (hm:m<B64) (hc:c<B64) (w:World):
 Calls Tryz.prog 179 #[n64 x,n64 y,n64 m,n64 c] w fun e w'=>e= .returned (.tuple #[n64 ((x*y+m+c)%B64),n64 ((x*y+m+c)/B64)])∧w=w':=by
 have H2:=hid (QuF (x*y) m c)
 go_enter Tryz.func179,Tryz.ntmps179
 go_wp2_with (go_at_call 191;(with_reducible refine (Qv5 x y hx hy _).mono ?_);rintro e w' ⟨rfl,rfl⟩)
 go_ret2
 exact⟨QpB rfl (congrArg n64 H2.out),rfl⟩
set_option maxHeartbeats 1000000 in
theorem QqU (a b:Nat) (hsum:a+b<T256) (w:World):
 Calls Tryz.prog 177 #[E a,E b] w fun e w'=>e= .returned (E ((a+b)%P25))∧Later w w':=by
 have hlS:=Qak (a+b)
 have hlA:=Qak a
 go_enter Tryz.func177,Tryz.ntmps177
 go_wp2
 go_loopw [5,7] (fun c i wr=>∃k:Nat,k≤4∧i= .int .i64 k∧c=n64 (carr B64 a b 0 k)∧Blk wr w.heap.size 211 (QbM (EL (a+b)) (EL a) k)∧Blk wr (w.heap.size+1) 211 (EL b)∧Blk wr (w.heap.size+1+1) 211 (QGn 4 (.int .u64 0))∧Later w wr) (fun _ i _=>4-(intOf i).toNat)
 case atStart=>
  refine⟨0,by omega,rfl,by rw[QmO];rfl,?_,?_,Blk.new' _ _ (QGn 4 (Value.int .u64 0)) (by simp),((Qaa _ _).trans (Qaa _ _)).trans (Qaa _ _)⟩
  ·rw[Qbr]
   exact ((Blk.new _ _ _).later (Qaa _ _)).later (Qaa _ _)
  ·exact (Blk.new' _ _ _ (by simp)).later (Qaa _ _)
 case round=>
  obtain⟨k,hk4,rfl,rfl,h1,h2,h3,L⟩:=hrel
  by_cases hlt:k<4
  ·have hc:=QpG Qa5 a b 0 k (by omega)
   have S0:=hid (Qpd Qa5 a b 0 k)
   have S1:=hid (Qi7 Qa5 a b 0 k)
   have d0:=h1.cellD k (u:=n64 (lim a k)) (by rw[QeO _ _ _ _ (by omega) (QGx _) (by omega)];exact Qdc a k hlt)
   have d1:=h2.cellD k (Qdc b k hlt)
   generalize carr B64 a b 0 k=c at *
   go_wp2
   refine Qaf [([0,1,2,3,4,5,6,7],8)] [9,10,11,12] [13,14] (by as_aux_lemma=>kernel_rfl) (by as_aux_lemma=>kernel_rfl) (by intro _ _ d _ _ h;cases d<;>exact h) ?_
   simp only[Qaj,pick,QGo,QGp,QGs,QGu,QGv]
   repeat (go_big_quiet_step (fail))
   refine wpQuiet_nil ?_
   go_wp2
   try refine⟨by first|assumption|exact Qab _|exact Qaa _ _|exact Later.refl _,?_⟩
   try simp only[Qaj,pick,QGo,QGp,QGs,QGu,QGv]
   repeat (go_big_quiet_step (fail))
   refine wpQuiet_nil ?_
   go_wp2_with (first
    | (refine Qad rfl rfl _ _ _ rfl _ _ _ _ h1.drew rfl ?hl rfl (by kernel_rfl) ?_;(case hl=>rw[Qaz _ _ _ (by omega)];omega);intro v w2 hv hb2 ho2;simp[go_sem]at hv;subst hv))
   go_roundw
   case rel=>
    rw[Qa2 _ _ _ _ (by omega) (by omega) (by rw[Qdc (a+b) k hlt,lim,lim,lim,←QIf (a+b),←S0.out])]at hb2
    exact⟨k+1,by omega,by go_num,by rw[←S1.out];rfl,hb2,h2.drew.only ho2 (by omega),h3.drew.only ho2 (by omega),(L.trans (Qab _)).only ho2 (QGx _)⟩
   case measure=>simp[intOf];omega
  ·obtain rfl:k=4:=by omega
   rw[Qcg _ _ _ hlS hlA]at h1
   go_wp2_with (first
    | (refine QbK rfl _ rfl h1 rfl ?_)
    | (go_at_call 123;(with_reducible refine (QeC (a+b) hsum _).mono ?_);rintro e w2 ⟨rfl,hl2⟩
       have h32:=h3.later hl2
       have L2:=L.trans hl2)
    | (refine QaI rfl rfl _ _ rfl h32 rfl rfl rfl ?_;intro w3 hb3 ho3))
   exact bodyPost_ret (QhU rfl hb3 rfl) rfl ⟨rfl,L2.only ho3 (by omega)⟩
def mcar (B x a b k:Nat):Nat:=(x*(a%B^k)+b%B^k)/B^k
theorem QnP (B x a b:Nat):mcar B x a b 0=0:=by simp[mcar,Nat.mod_one]
theorem Qna {B:Nat} (hB:0<B) (x a b k:Nat):(x*(a/B^k%B)+b/B^k%B+mcar B x a b k)/B=mcar B x a b (k+1):=by
 have hp:0<B^k:=QIA hB
 rw[mcar,mcar,Qcl,Qcl,QHq,←QHk]
 congr 1
 have e:x*(a%B^k+B^k*(a/B^k%B))+(b%B^k+B^k*(b/B^k%B))=(x*(a%B^k)+b%B^k)+B^k*(x*(a/B^k%B)+b/B^k%B):=by
  rw[QHM,QHM,QIJ x]
  omega
 rw[e,QH6 _ _ hp,QID]
theorem mdig {B:Nat} (hB:0<B) (x a b k:Nat):(x*(a/B^k%B)+b/B^k%B+mcar B x a b k)%B=(x*a+b)/B^k%B:=by
 have hp:0<B^k:=QIA hB
 have ea:=QHn a (B^k)
 have eb:=QHn b (B^k)
 have e:x*a+b=(x*(a%B^k)+b%B^k)+B^k*(x*(a/B^k)+b/B^k):=by
  have:x*a=x*(a%B^k)+B^k*(x*(a/B^k)):=by
   rw[QIJ,←QHM,QID,ea]
  rw[QHM]
  omega
 rw[e,QH6 _ _ hp,←mcar,QID (mcar B x a b k),QIT,QIT (x*(a/B^k)+b/B^k),QIT (x*(a/B^k%B)),Nat.mul_mod_mod,QHX,←QIT (x*(a/B^k))]
theorem Quh {B x:Nat} (hx:x<B) (a b k:Nat):mcar B x a b k≤x:=by
 have hp:0<B^k:=QIA (by omega)
 rw[mcar]
 refine Nat.le_of_lt_succ (QHu ?_)
 have h1:=QGU a hp
 have h2:=QGU b hp
 have h3:x*(a%B^k)≤x*(B^k-1):=QIb x (by omega)
 rw[Nat.mul_sub,QIm]at h3
 have h4:x≤x*B^k:=QHE x hp
 rw[Nat.succ_eq_add_one,QHM,QIm,QHp (B^k)]
 omega
theorem QwL (a b:Nat) (ha:a<T256) (hb:b<T256) (S c o c2:Nat) (hS:S=38*(a*b/T256)+a*b%T256) (hc:c=S/T256) (ho:o=S%T256) (h2:c2=(o+38*c)/T256):
 c≤38∧c2≤1∧(o+38*c)%T256+38*c2<T256∧((o+38*c)%T256+38*c2)%P25=a*b%P25:=by
 have h:a*b≤(T256-1)*(T256-1):=Nat.mul_le_mul (by omega) (by omega)
 generalize a*b=X at *
 have h3:X/T256<T256:=by
  refine QHu (QHZ h ?_)
  decide
 have hd:=QHn X T256
 have hm:=QGU X (show 0<T256 by decide)
 generalize X/T256=H at *
 generalize X%T256=L at *
 unfold T256 P25 at *
 omega
def WL (n:Nat):List Value:=(dig B64 8 n).map n64
theorem Qzk (n i:Nat) (h:i<8):(WL n)[i]?=some (n64 (lim n i)):=by rw[WL,QGF,QgG _ _ _ _ h];rfl
theorem QA8 (a b:Nat) (ha:a<B64^4) (hb:b<B64^4):(Qb8 B64 (dig B64 4 a) (dig B64 4 b) 8 4).map n64=WL (a*b):=by
 have hl:=Qcn B64 (dig B64 4 a) (dig B64 4 b) 8 4
 have hlt:=QfD Qa5 (dig B64 4 a) (dig B64 4 b) 8 (Qeh Qa5 4 a) (Qeh Qa5 4 b) 4
 have hv:=QhI (B:=B64) (dig B64 4 a) (dig B64 4 b) 8 4 (by rw[QaS];omega) (by rw[QaS];omega)
 rw[QGD (by rw[QaS];omega),QeF,QeF,QGO ha,QGO hb]at hv
 have:=Qmn _ hlt
 rw[hl,hv]at this
 rw[WL,this]
theorem QCn (n i:Nat):lim n (i+4)=lim (n/T256) i:=by
 rw[lim,lim,←Qd6,QHk,←QHW,QID]
theorem QDg (n i:Nat) (h:i<4):lim n i=lim (n%T256) i:=by
 rw[lim,lim,←QdX B64 4 n i h,←QdX B64 4 _ i h,←Qd6,QgN]
theorem Ql5 (l:List Nat) (i v:Nat):(l.map n64).set i (n64 v)=(l.set i v).map n64:=by rw[QIP]
theorem QtZ (l:List Nat) (i:Nat) (h:i<l.length):(l.map n64)[i]?=some (n64 (l.getD i 0)):=by
 rw[QGF,QGq,QGt h]
 rfl
theorem Qtk {n m:Nat} (h:n%T256=m%T256):EL n=EL m:=by
 rw[EL,EL,←QgN,←QgN (n:=m),Qd6,h]
theorem QzX {n m:Nat} (h:n%T256=m%T256):E n=E m:=by rw[E,E,Qtk h]
theorem QBB (x m c:Nat) (hx:x<B64) (hm:m<B64) (hc:c<B64) (w:World):
 Calls Tryz.prog 179 #[n64 x,.int .u64 38,n64 m,n64 c] w fun e w'=>e= .returned (.tuple #[n64 ((x*38+m+c)%B64),n64 ((x*38+m+c)/B64)])∧w=w':=Qp3 x 38 m c hx (by decide) hm hc w
theorem QiS (B:Nat) (xs ys:List Nat) (n i x m:Nat) (hx:xs.getD i 0=x) (hm:ys.length=m):Qb8 B xs ys n (i+1)=(QbC B x ys (Qb8 B xs ys n i) i m).1.set (i+m) (QbC B x ys (Qb8 B xs ys n i) i m).2:=by
 subst hx
 subst hm
 rfl
theorem Qkq (B x:Nat) (ys ws:List Nat) (i j y:Nat) (hy:ys.getD j 0=y):QbC B x ys ws i (j+1)=((QbC B x ys ws i j).1.set (i+j) ((x*y+(QbC B x ys ws i j).1.getD (i+j) 0+(QbC B x ys ws i j).2)%B),
 (x*y+(QbC B x ys ws i j).1.getD (i+j) 0+(QbC B x ys ws i j).2)/B):=by
 subst hy
 rfl
set_option maxRecDepth 100000 in
set_option maxHeartbeats 4000000 in
theorem Qem (a b:Nat) (ha:a<T256) (hb:b<T256) (w:World):
 Calls Tryz.prog 159 #[E a,E b] w fun e w'=>e= .returned (E (a*b%P25))∧Later w w':=by
 have HP:=hid (QA8 a b (by rw[Qd6];exact ha) (by rw[Qd6];exact hb))
 have hla:=fun i (h:i<4)=>QdX B64 4 a i h
 have hlb:=fun i (h:i<4)=>QdX B64 4 b i h
 have hal:=Qeh Qa5 4 a
 have hbl:=Qeh Qa5 4 b
 have hAl:=QaS B64 4 a
 have hBl:=QaS B64 4 b
 have ha0:Blk (((w.alloc (.cells (EL a).toArray 211)).alloc (.cells (EL b).toArray 211))) w.heap.size 211 (EL a):=(Blk.new _ _ _).later (Qaa _ _)
 have hb0:Blk (((w.alloc (.cells (EL a).toArray 211)).alloc (.cells (EL b).toArray 211))) (w.heap.size+1) 211 (EL b):=(Blk.new' _ _ _ (by simp))
 generalize hdA:dig B64 4 a=dA at *
 generalize hdB:dig B64 4 b=dB at *
 have HA:=hid hdA
 have HB:=hid hdB
 have HLA:=hid hla
 have HLB:=hid hlb
 have HAl:=hid hAl
 have HBl:=hid hBl
 clear hdA hdB hla hlb hAl hBl
 go_enter Tryz.func159,Tryz.ntmps159
 go_wp2
 go_loopw [12] (fun i wr=>∃k:Nat,k≤4∧i= .int .i64 k∧Blk wr w.heap.size 211 (EL a)∧Blk wr (w.heap.size+1) 211 (EL b)∧Blk wr (w.heap.size+1+1) 211 (QGn 4 (.int .u64 0))∧Blk wr (w.heap.size+1+1+1) 307 ((Qb8 B64 dA dB 8 k).map n64)∧Later w wr) (fun i _=>4-(intOf i).toNat)
 case atStart=>
  have L0:Later w ((w.alloc (.cells (EL a).toArray 211)).alloc (.cells (EL b).toArray 211)):=(Qaa _ _).trans (Qaa _ _)
  exact⟨0,by omega,rfl,(ha0.later (Qaa _ _)).later (Qaa _ _),(hb0.later (Qaa _ _)).later (Qaa _ _),(Blk.new' _ _ (QGn 4 (Value.int .u64 0)) (by simp)).later (Qaa _ _),Blk.new' _ _ (QGn 8 (Value.int .u64 0)) (by simp),(L0.alloc _).alloc _⟩
 case round=>
  clear ha0 hb0
  obtain⟨k,hk4,rfl,h1,h2,h3,h4,L⟩:=hrel
  by_cases hlt:k<4
  ·have hpl:=Qcn B64 dA dB 8 k
   have hpt:=QfD Qa5 dA dB 8 hal hbl k
   have da:=h1.cellD k (Qdc a k hlt)
   have HS:=hid (QiS B64 dA dB 8 k (lim a k) 4 (HLA.out k hlt) HBl.out)
   generalize Qb8 B64 dA dB 8 k=ws at *
   have HPL:=hid hpl
   clear hpl
   have hkb:decide ((k:Int)<4)=true:=by simp;omega
   go_wp2
   go_loopw [7,15] (fun c i wr=>∃j:Nat,j≤4∧i= .int .i64 j∧c=n64 (QbC B64 (lim a k) dB ws k j).2∧Blk wr w.heap.size 211 (EL a)∧Blk wr (w.heap.size+1) 211 (EL b)∧Blk wr (w.heap.size+1+1) 211 (QGn 4 (.int .u64 0))∧Blk wr (w.heap.size+1+1+1) 307 ((QbC B64 (lim a k) dB ws k j).1.map n64)∧Later w wr) (fun _ i _=>4-(intOf i).toNat)
   case atStart=>exact⟨0,by omega,rfl,rfl,h1,h2,h3,h4,L⟩
   case round=>
    clear h1 h2 h3 h4 L da
    obtain⟨j,hj4,rfl,rfl,h1,h2,h3,h4,L⟩:=hrel
    have hrl:=QcZ B64 (lim a k) dB ws k j
    obtain⟨hrt,hct⟩:=QiA (B:=B64) (lim a k) dB ws k (QGU _ Qa5) hbl hpt j
    by_cases hlj:j<4
    ·have da:=h1.cellD k (Qdc a k hlt)
     have db:=h2.cellD j (Qdc b j hlj)
     have dw:=h4.cellD (k+j) (QtZ _ _ (by rw[hrl,HPL.out];omega))
     have hwl:=QjF Qa5 hrt (k+j)
     have HR:=hid (Qkq B64 (lim a k) dB ws k j (lim b j) (HLB.out j hlj))
     generalize (QbC B64 (lim a k) dB ws k j).2=c at *
     generalize (QbC B64 (lim a k) dB ws k j).1.getD (k+j) 0=v at *
     generalize (QbC B64 (lim a k) dB ws k j).1=vs at *
     have HRL:=hid hrl
     clear hrl
     have hkj:IntKind.i64.wrap ((k:Int)+(j:Int))=((k+j:Nat):Int):=by rw[IntKind.wrap_i64];omega
     go_wp2_with fail
     refine Qaf [([0,1,2,3,4,5,6,7,8,9,10,11,12,13,14],15)] [16,17,18,19] [20,21] (by as_aux_lemma=>kernel_rfl) (by as_aux_lemma=>kernel_rfl) (by intro _ _ d _ _ h;cases d<;>exact h) ?_
     simp only[Qaj,pick,QGo,QGp,QGs,QGu,QGv]
     repeat (go_big_quiet_step (fail))
     refine wpQuiet_nil ?_
     go_wp2_with fail
     (with_reducible refine (Qp3 (lim a k) (lim b j) v c (QGU _ Qa5) (QGU _ Qa5) hwl hct _).mono ?_)
     rintro e w2 ⟨rfl,rfl⟩
     go_wp2_with fail
     try refine⟨by first|assumption|exact Qab _|exact Qaa _ _|exact Later.refl _,?_⟩
     try simp only[Qaj,pick,QGo,QGp,QGs,QGu,QGv]
     repeat (go_big_quiet_step (fail))
     refine wpQuiet_nil ?_
     go_wp2_with (first
      | (refine Qad rfl rfl _ _ _ rfl _ _ _ _ h4.drew rfl ?hl rfl (by kernel_rfl) ?_;(case hl=>rw[QGr,HRL.out,HPL.out];omega);intro v w2 hv hb2 ho2;simp[go_sem]at hv;subst hv)
      | fail)
     go_roundw
     case rel=>
      rw[Ql5]at hb2
      exact⟨j+1,by omega,by go_num,by rw[HR.out],h1.drew.only ho2 (by omega),h2.drew.only ho2 (by omega),h3.drew.only ho2 (by omega),by rw[HR.out];exact hb2,(L.trans (Qab _)).only ho2 (by omega)⟩
     case measure=>simp[intOf];omega
    ·obtain rfl:j=4:=by omega
     generalize hc4:(QbC B64 (lim a k) dB ws k 4).2=c at *
     generalize hv4:(QbC B64 (lim a k) dB ws k 4).1=vs at *
     have HRL:=hid hrl
     have HC4:=hid hc4
     have HV4:=hid hv4
     clear hrl hc4 hv4
     go_wp2_with (first
      | (refine Qad rfl rfl _ _ _ rfl _ _ _ _ h4 rfl ?hl rfl (by kernel_rfl) ?_;(case hl=>rw[QGr,HRL.out,HPL.out];omega);intro v w2 hv hb2 ho2;simp[go_sem]at hv;subst hv)
      | fail)
     go_roundw
     case rel=>
      rw[Ql5]at hb2
      exact⟨k+1,by omega,by go_num,h1.only ho2 (by omega),h2.only ho2 (by omega),h3.only ho2 (by omega),by rw[HS.out];exact hb2,L.only ho2 (by omega)⟩
     case measure=>simp[intOf];omega
  ·rw[show k=4 by omega,HP.out]at h4
   have hkf:decide ((k:Int)<4)=false:=by simp;omega
   have hX:a*b/T256<T256:=by
    refine QHu (QHZ (Nat.mul_le_mul (Nat.le_sub_one_of_lt ha) (Nat.le_sub_one_of_lt hb)) ?_)
    decide
   obtain⟨hm1,hm2,hm3,hm4⟩:=QwL a b ha hb _ _ _ _ rfl rfl rfl rfl
   have hlo:=fun i h=>QDg (a*b) i h
   have hhi:=fun i=>QCn (a*b) i
   have hlm:=QGU (a*b) (show 0<T256 by decide)
   have HR:=hid hm4
   clear hm4
   generalize hRR:a*b%P25=R at *
   have HRR:=hid ((congrArg (· %P25) (QHp b a)).trans hRR)
   clear hRR
   generalize hXX:a*b=X at *
   clear hXX HP HA HB HLA HLB HAl HBl hal hbl ha hb
   generalize X/T256=H at *
   generalize X%T256=Lo at *
   have HLO:=hid hlo
   have HHI:=hid hhi
   clear hlo hhi
   have hSl:=Qak (38*H+Lo)
   go_wp2_with fail
   have hn0:Blk (wr.alloc (.cells (QGn 4 (Value.int .u64 0)).toArray 211)) wr.heap.size 211 (QGn 4 (.int .u64 0)):=Blk.new _ _ _
   have hsz:=h4.lt
   go_loopw [10,44] (fun c i wx=>∃k:Nat,k≤4∧i= .int .i64 k∧c=n64 (mcar B64 38 H Lo k)∧Blk wx wr.heap.size 211 (QbM (EL (38*H+Lo)) (QGn 4 (.int .u64 0)) k)∧Blk wx (w.heap.size+1+1) 211 (QGn 4 (.int .u64 0))∧Blk wx (w.heap.size+1+1+1) 307 (WL X)∧Later w wx) (fun _ i _=>4-(intOf i).toNat)
   case atStart=>exact⟨0,by omega,rfl,by rw[QnP];rfl,by rw[Qbr];exact hn0,h3.later (Qaa _ _),h4.later (Qaa _ _),L.trans (Qaa _ _)⟩
   case round=>
    clear h1 h2 h3 h4 L hn0
    obtain⟨k,hk4,rfl,rfl,h1,h3,h4,L⟩:=hrel
    by_cases hlt:k<4
    ·have hc:=Quh (show 38<B64 by decide) H Lo k
     have S0:=hid (mdig Qa5 38 H Lo k)
     have S1:=hid (Qna Qa5 38 H Lo k)
     have d0:=h4.cellD k (Qzk X k (by omega))
     have d1:=h4.cellD (k+4) (Qzk X (k+4) (by omega))
     rw[HLO.out k hlt]at d0
     rw[HHI.out k]at d1
     generalize mcar B64 38 H Lo k=c at *
     have hkj:IntKind.i64.wrap ((k:Int)+4)=((k+4:Nat):Int):=by rw[IntKind.wrap_i64];omega
     go_wp2_with fail
     refine Qaf [([0,1,2,3,4,5,6,7,8],9)] [10,11,12,13] [14,15] (by as_aux_lemma=>kernel_rfl) (by as_aux_lemma=>kernel_rfl) (by intro _ _ d _ _ h;cases d<;>exact h) ?_
     simp only[Qaj,pick,QGo,QGp,QGs,QGu,QGv]
     repeat (go_big_quiet_step (fail))
     refine wpQuiet_nil ?_
     go_wp2_with fail
     (with_reducible refine (QBB (lim H k) (lim Lo k) c (QGU _ Qa5) (QGU _ Qa5) (QHZ hc (by decide)) _).mono ?_)
     rintro e w2 ⟨rfl,rfl⟩
     go_wp2_with fail
     try refine⟨by first|assumption|exact Qab _|exact Qaa _ _|exact Later.refl _,?_⟩
     try simp only[Qaj,pick,QGo,QGp,QGs,QGu,QGv]
     repeat (go_big_quiet_step (fail))
     refine wpQuiet_nil ?_
     go_wp2_with (first
      | (refine Qad rfl rfl _ _ _ rfl _ _ _ _ h1.drew rfl ?hl rfl (by kernel_rfl) ?_;(case hl=>rw[Qaz _ _ _ (by rw[hSl];rfl)];exact hlt);intro v w2 hv hb2 ho2;simp[go_sem]at hv;subst hv)
      | fail)
     go_roundw
     case rel=>
      have e0:=S0.out
      have e1:=S1.out
      rw[QHp 38]at e0 e1
      rw[Qa2 _ _ _ _ (by rw[hSl];rfl) hlt (by rw[Qdc _ k hlt,lim,lim,lim,←e0])]at hb2
      exact⟨k+1,by omega,by go_num,by rw[←e1];rfl,hb2,h3.drew.only ho2 (by omega),h4.drew.only ho2 (by omega),(L.trans (Qab _)).only ho2 (by omega)⟩
     case measure=>simp[intOf];omega
    ·obtain rfl:k=4:=by omega
     have hc4:mcar B64 38 H Lo 4=(38*H+Lo)/T256:=by rw[mcar,Qd6,QGO hX,QGO hlm]
     rw[Qcg _ _ _ hSl rfl]at h1
     have HC4:=hid hc4
     clear hc4
     generalize hS:38*H+Lo=S at *
     have e2:(S%B64^4+38*(S/T256))/B64^4=(S%T256+38*(S/T256))/T256:=by rw[Qd6]
     have HE:=hid e2
     clear e2
     have hp1:=Qhc S (38*(S/T256)) (by unfold B64;omega)
     rw[HE.out]at hp1
     generalize hcc:(S%T256+38*(S/T256))/T256=c2 at *
     have hp2:=Qhc (S+38*(S/T256)) (38*c2) (by unfold B64;omega)
     have hEq:E (S+38*(S/T256)+38*c2)=E ((S%T256+38*(S/T256))%T256+38*c2):=QzX (by unfold T256;omega)
     have hn:=QeC _ hm3
     rw[HR.out]at hn
     have HQ:=hid hEq
     have HN:=hid hn
     have HP1:=hid hp1
     have HP2:=hid hp2
     clear hEq hn hp1 hp2
     generalize (S%T256+38*(S/T256))%T256+38*c2=fin at *
     generalize hcd:S/T256=c1 at *
     have hcd':n64 (mcar B64 38 H Lo 4)=n64 c1:=by rw[HC4.out]
     generalize mcar B64 38 H Lo 4=c0 at *
     obtain rfl:c0=c1:=HC4.out
     clear hcd' HC4 HE
     go_wp2_with (first
      | (refine QbK rfl _ rfl h1 rfl ?_)
      | (go_at_call 154;(with_reducible refine (HP1.out _).mono ?_);rintro e w2 ⟨rfl,hl2⟩
         have h12:=h1.later hl2
         have h32:=h3.later hl2
         have L2:=L.trans hl2
         clear HP1)
      | (refine QaI rfl rfl _ _ rfl h12 rfl rfl (Qak _) ?_;intro w3 hb3 ho3
         have h33:=h32.only ho3 (by omega)
         have L3:=L2.only ho3 (by omega)
         clear h32 h12 L2)
      | (refine QbK rfl _ rfl hb3 rfl ?_)
      | (go_at_call 154;(with_reducible refine (HP2.out _).mono ?_);rintro e w4 ⟨rfl,hl4⟩
         have h14:=hb3.later hl4
         have h34:=h33.later hl4
         have L4:=L3.trans hl4
         rw[HQ.out]
         clear HP2)
      | (refine QaI rfl rfl _ _ rfl h14 rfl rfl (Qak _) ?_;intro w5 hb5 ho5
         have h35:=h34.only ho5 (by omega)
         have L5:=L4.only ho5 (by omega)
         clear h34 h14 L4)
      | (refine QbK rfl _ rfl hb5 rfl ?_)
      | (go_at_call 123;(with_reducible refine (HN.out _).mono ?_);rintro e w6 ⟨rfl,hl6⟩
         have h36:=h35.later hl6
         have L6:=L5.trans hl6)
      | (refine QaI rfl rfl _ _ rfl h36 rfl rfl rfl ?_;intro w7 hb7 ho7)
      | fail)
     exact bodyPost_ret (QhU rfl hb7 rfl) rfl ⟨by rw[QHp a b];exact congrArg (fun t=>Ending.returned (E t)) HRR.out.symm,L6.only ho7 (by omega)⟩
theorem Qxc {n:Nat} (h:n<B64):EL n=[n64 n,.int .u64 0,.int .u64 0,.int .u64 0]:=by
 have e:∀k,0<k→n/B64^k%B64=0:=fun k hk=>Qod h k hk
 have e1:dig B64 4 n=[n/B64^0%B64,n/B64^1%B64,n/B64^2%B64,n/B64^3%B64]:=by
  rw[Qf4,Qf4,Qf4,Qf4]
  rfl
 rw[EL,e1,e 1 (by omega),e 2 (by omega),e 3 (by omega),QIR,Nat.div_one,QGO h]
 rfl
@[go_sem] theorem QCE (n:Nat):(n%P25<T256)=True:=eq_true (QHr (QGU _ Qbp) (by decide))
@[go_sem] theorem QDA (n:Nat):(n%P25<P25)=True:=eq_true (QGU _ Qbp)
def ofs (l:List Nat):List UInt64:=l.map QGS
theorem QkE (n:Nat):EL n=(ofs (dig B64 4 n)).map W64:=by rw[EL,ofs,List.map_map];rfl
theorem QBo {l m:List Nat} (hl:∀x∈l,x<B64) (hm:∀x∈m,x<B64) (h:ofs l=ofs m):l=m:=by
 have e:∀l:List Nat,(∀ x∈l,x<B64)→(ofs l).map UInt64.toNat=l:=by
  intro l hl
  rw[ofs,List.map_map]
  conv=>rhs;rw[←List.map_id l]
  apply QIB
  intro x hx
  exact tn64 (hl x hx)
 rw[←e l hl,←e m hm,h]
theorem QpP {x y:Nat} (hx:x<T256) (hy:y<T256):(ofs (dig B64 4 x)==ofs (dig B64 4 y))=(x==y):=by
 rw[QHh,beq_iff_eq,beq_iff_eq]
 refine⟨fun h=>?_,fun h=>by rw[h]⟩
 have:=QBo (Qeh Qa5 4 x) (Qeh Qa5 4 y) h
 exact Qvf (k:=4) (B:=B64) (by rw[Qd6];exact hx) (by rw[Qd6];exact hy) this
theorem Qwx:(Tryz.prog.info? 23).map (·.size)=some 1:=by kernel_rfl
theorem QFw:Tryz.prog.eqGuardType Tryz.prog.depth 211=false:=by kernel_rfl
@[go_sem high] theorem QDE (op:BinOp) (x y:Operand) (xs ys:Array Value) (w:World):(eqGuard op 211 x y (.agg xs) (.agg ys)).run Tryz.prog w= .ok () w:=run_eqGuard_agg w op _ x y xs ys QFw
@[go_sem high] theorem QDt (x y:Nat) (hx:x<T256) (hy:y<T256) (w:World):(binOp .eql 211 (E x) (E y)).run Tryz.prog w= .ok (.bool (x==y)) w:=by
  rw[run_eql_struct,QkE,QkE,Qbl w 0 W64 9998 211 23 4 Tryz.underlying211 Qwx Tryz.underlying23 rfl (QiH _ _ Tryz.underlying23) _ _ (by rw[ofs,QGr,QaS]) (by rw[ofs,QGr,QaS]),QpP hx hy]
  rfl
@[go_sem high] theorem QCw (x y:Nat) (hx:x<T256) (hy:y<T256) (w:World):(binOp .neq 211 (E x) (E y)).run Tryz.prog w= .ok (.bool (x != y)) w:=by
  rw[run_neq_struct,QkE,QkE,Qbl w 0 W64 9998 211 23 4 Tryz.underlying211 Qwx Tryz.underlying23 rfl (QiH _ _ Tryz.underlying23) _ _ (by rw[ofs,QGr,QaS]) (by rw[ofs,QGr,QaS]),QpP hx hy]
  rfl
theorem QFU:Tryz.prog.eqGuardType Tryz.prog.depth 210=false:=by kernel_rfl
@[go_sem high] theorem QC0 (op:BinOp) (x y:Operand) (xs ys:Array Value) (w:World):(eqGuard op 210 x y (.agg xs) (.agg ys)).run Tryz.prog w= .ok () w:=run_eqGuard_agg w op _ x y xs ys QFU
@[go_sem high] theorem QCr (x y:Nat) (hx:x<T256) (hy:y<T256) (w:World):(binOp .eql 210 (E x) (E y)).run Tryz.prog w= .ok (.bool (x==y)) w:=by
  rw[run_eql_struct,QkE,QkE,Qbl w 0 W64 9998 210 23 4 Tryz.underlying210 Qwx Tryz.underlying23 rfl (QiH _ _ Tryz.underlying23) _ _ (by rw[ofs,QGr,QaS]) (by rw[ofs,QGr,QaS]),QpP hx hy]
  rfl
set_option maxHeartbeats 1000000 in
theorem Qt5 (n:Nat) (hn:n<B64) (w:World):
 Calls Tryz.prog 93 #[n64 n] w fun e w'=>e= .returned (E n)∧Later w w':=by
 have hs:=hid (Qxc hn)
 go_enter Tryz.func93,Tryz.ntmps93
 go_wp2_with (first
  | (refine Qap rfl 211 _ rfl [n64 n,.int .u64 0,.int .u64 0,.int .u64 0] ?hb ?_;(case hb=>kernel_rfl);rw[←hs.out])
  | (refine QaI rfl rfl _ _ rfl (Blk.new w _ (QGn 4 (.int .u64 0))) rfl rfl rfl ?_;intro w3 hb3 ho3))
 exact bodyPost_ret (QhU rfl hb3 rfl) rfl ⟨rfl,(Qaa _ _).only ho3 (by omega)⟩
set_option maxHeartbeats 1000000 in
theorem Qht (n:Nat) (hn:n<T256) (w:World):
 Calls Tryz.prog 157 #[E n] w fun e w'=>e= .returned (E (n*n%P25))∧Later w w':=by
 have hb:Blk ((w.alloc (.cells (EL n).toArray 211)).alloc (.cells (QGn 4 (.int .u64 0)).toArray 211)) w.heap.size 211 (EL n):=(Blk.new _ _ _).later (Qaa _ _)
 have hr:Blk ((w.alloc (.cells (EL n).toArray 211)).alloc (.cells (QGn 4 (.int .u64 0)).toArray 211)) (w.heap.size+1) 211 (QGn 4 (.int .u64 0)):=Blk.new' _ _ _ (by simp)
 go_enter Tryz.func157,Tryz.ntmps157
 go_wp2_with (first
  | (refine QbK rfl _ rfl hb rfl ?_)
  | (go_at_call 159;(with_reducible refine (Qem n n hn hn _).mono ?_);rintro e w2 ⟨rfl,hl2⟩
     have hr2:=hr.later hl2
     have L2:Later w w2:=((Qaa _ _).trans (Qaa _ _)).trans hl2)
  | (refine QaI rfl rfl _ _ rfl hr2 rfl rfl rfl ?_;intro w3 hb3 ho3)
  | fail)
 exact bodyPost_ret (QhU rfl hb3 rfl) rfl ⟨rfl,L2.only ho3 (by omega)⟩
theorem Qsn (x y b:Nat) (hx:x<B64) (hy:y<B64) (hb:b≤1) (w:World):
 (callFunc 178 #[n64 x,n64 y,n64 b]).run Tryz.prog w= .ok (.value (.tuple #[n64 ((x+B64-y-b)%B64),n64 (if x<y+b then 1 else 0)])) w:=by
 rw[Qfy hx,Qfy hy,Qfy (show b<B64 by unfold B64;omega),run_callFunc_extern Tryz.func178 (by kernel_rfl) (by kernel_rfl) (by kernel_rfl) (e:=sub64Entry) (by kernel_rfl),run_sub64 _ _ _ hb]
 rw[Qfy (QGU _ Qa5),Qfy (show (if x<y+b then 1 else 0)<B64 by split<;>decide)]
 rfl
set_option maxHeartbeats 2000000 in
theorem Qyp (n m:Nat) (hn:n<T256) (hm:m<T256) (w:World):
 Calls Tryz.prog 156 #[E n,E m] w fun e w'=>e= .returned (E ((n+(P25-m%P25))%P25))∧Later w w':=by
 have hm1:m%P25<P25:=QGU _ Qbp
 have hn1:n%P25<P25:=QGU _ Qbp
 have hE:=hid (QzX (n:=P25+B64^4-m%P25) (m:=P25-m%P25) (by rw[Qd6];unfold T256 P25 at *;omega))
 have hadd:=hid (QqU (n%P25) (P25-m%P25) (by unfold T256 P25 at *;omega))
 have hb0:Blk ((w.alloc (.cells (EL n).toArray 211)).alloc (.cells (EL m).toArray 211)) w.heap.size 211 (EL n):=(Blk.new _ _ _).later (Qaa _ _)
 have hc0:Blk ((w.alloc (.cells (EL n).toArray 211)).alloc (.cells (EL m).toArray 211)) (w.heap.size+1) 211 (EL m):=Blk.new' _ _ _ (by simp)
 have L0:Later w ((w.alloc (.cells (EL n).toArray 211)).alloc (.cells (EL m).toArray 211)):=(Qaa _ _).trans (Qaa _ _)
 go_enter Tryz.func156,Tryz.ntmps156
 go_wp2_with (first
  | (refine Qap rfl 211 _ rfl (EL P25) ?hb ?_;(case hb=>kernel_rfl))
  | (refine QaI (g:=w.heap.size+1+1+1) rfl rfl _ _ rfl (Blk.new' _ _ (QGn 4 (.int .u64 0)) (by simp)) rfl rfl rfl ?_;intro w3 hb3 ho3
     have hn3:Blk w3 w.heap.size 211 (EL n):=((hb0.later (Qaa _ _)).later (Qaa _ _)).only ho3 (by omega)
     have hm3:Blk w3 (w.heap.size+1) 211 (EL m):=((hc0.later (Qaa _ _)).later (Qaa _ _)).only ho3 (by omega)
     have hr3:Blk w3 (w.heap.size+1+1) 211 (QGn 4 (.int .u64 0)):=((Blk.new' _ _ (QGn 4 (Value.int .u64 0)) (by simp)).later (Qaa _ _)).only ho3 (by omega)
     have L3:Later w w3:=((L0.alloc _).alloc _).only ho3 (by omega)
     clear hb0 hc0 L0 ho3)
  | (refine QbK rfl _ rfl hm3 rfl ?_)
  | (go_at_call 123;(with_reducible refine (QeC m hm _).mono ?_);rintro e w4 ⟨rfl,hl4⟩)
  | (refine QaI rfl rfl _ _ rfl (hm3.later hl4) rfl rfl (Qak _) ?_;intro w5 hb5 ho5
     have hn5:=(hn3.later hl4).only ho5 (by omega)
     have hr5:=(hr3.later hl4).only ho5 (by omega)
     have hp5:=(hb3.later hl4).only ho5 (by omega)
     have L5:=(L3.trans hl4).only ho5 (by omega)
     clear hn3 hm3 hr3 hb3 L3 hl4 ho5)
  | fail)
 have hlS:=Qak (P25+B64^4-m%P25)
 have hlA:=Qak P25
 have hm1':m%P25<B64^4:=QHr hm1 (by decide)
 have hbl:=hb5.lt
 generalize hMM:m%P25=M at *
 have HM:=hid hMM
 clear hMM
 go_loopw [6,11] (fun c i wr=>∃k:Nat,k≤4∧i= .int .i64 k∧c=n64 (owed B64 P25 M k)∧Blk wr (w.heap.size+1+1+1) 211 (QbM (EL (P25+B64^4-M)) (EL P25) k)∧Blk wr (w.heap.size+1) 211 (EL M)∧Blk wr w.heap.size 211 (EL n)∧Blk wr (w.heap.size+1+1) 211 (QGn 4 (.int .u64 0))∧Later w wr) (fun _ i _=>4-(intOf i).toNat)
 case atStart=>exact⟨0,by omega,rfl,by rw[QmR];rfl,by rw[Qbr];exact hp5,hb5,hn5,hr5,L5⟩
 case round=>
  clear hb5 hp5 hn5 hr5 L5
  obtain⟨k,hk4,rfl,rfl,h1,h2,h0,h3,L⟩:=hrel
  by_cases hlt:k<4
  ·have hc:=Qmg B64 P25 M k
   have S0:=hid (Qqg Qa5 P25 M k 4 hlt hm1')
   have S1:=hid (QnV Qa5 P25 M k)
   have d0:=h1.cellD k (u:=n64 (lim P25 k)) (by rw[QeO _ _ _ _ (by omega) (QGx _) (by omega)];exact Qdc P25 k hlt)
   have d1:=h2.cellD k (Qdc M k hlt)
   generalize owed B64 P25 M k=c at *
   have hsub:∀w,(callFunc 178 #[n64 (lim P25 k),n64 (lim M k),n64 c]).run Tryz.prog w= .ok (.value (.tuple #[n64 ((lim P25 k+B64-lim M k-c)%B64),n64 (if lim P25 k<lim M k+c then 1 else 0)])) w:=fun w=>Qsn _ _ _ (QGU _ Qa5) (QGU _ Qa5) hc w
   obtain⟨X,hX⟩:∃X,X=(lim P25 k+B64-lim M k-c)%B64:=⟨_,rfl⟩
   obtain⟨Y,hY⟩:∃Y,Y=(if lim P25 k<lim M k+c then 1 else 0):=⟨_,rfl⟩
   rw[←hX,←hY]at hsub
   have HX:=hid hX
   have HY:=hid hY
   clear hX hY
   go_wp2_with fail
   refine Qaf [([0,1,2,3,4,5,6,7],8)] [9,10,11,12] [13,14] (by as_aux_lemma=>kernel_rfl) (by as_aux_lemma=>kernel_rfl) (by intro _ _ d _ _ h;cases d<;>exact h) ?_
   simp only[Qaj,pick,QGo,QGp,QGs,QGu,QGv]
   repeat (go_big_quiet_step (fail))
   refine wpQuiet_nil ?_
   go_wp2_with fail
   try refine⟨by first|assumption|exact Qab _|exact Qaa _ _|exact Later.refl _,?_⟩
   try simp only[Qaj,pick,QGo,QGp,QGs,QGu,QGv]
   repeat (go_big_quiet_step (fail))
   refine wpQuiet_nil ?_
   go_wp2_with (first
    | (refine Qad rfl rfl _ _ _ rfl _ _ _ _ h1.drew rfl ?hl rfl (by kernel_rfl) ?_;(case hl=>rw[Qaz _ _ _ (by omega)];omega);intro v w2 hv hb2 ho2;simp[go_sem]at hv;subst hv)
    | fail)
   go_roundw
   case rel=>
    rw[Qa2 _ _ _ _ (by omega) (by omega) (by rw[Qdc _ k hlt,HX.out,lim,lim,lim,S0.out])]at hb2
    exact⟨k+1,by omega,by go_num,by rw[S1.out,HY.out];rfl,hb2,h2.drew.only ho2 (by omega),h0.drew.only ho2 (by omega),h3.drew.only ho2 (by omega),(L.trans (Qab _)).only ho2 (by omega)⟩
   case measure=>simp[intOf];omega
  ·rw[show k=4 by omega,Qcg _ _ _ hlS hlA]at h1
   have h1':Blk wr (w.heap.size+1+1+1) 211 (EL (P25-M)):=by
    have e:EL (P25+B64^4-M)=EL (P25-M):=by rw[Qtk];rw[Qd6];unfold T256 P25 at *;omega
    rwa [e]at h1
   have hkf:decide ((k:Int)<4)=false:=by simp;omega
   clear h1 hE
   go_wp2_with fail
   refine Qaf [([0,2],1)] [] [3,4] (by as_aux_lemma=>kernel_rfl) (by as_aux_lemma=>kernel_rfl) (by intro _ _ d _ _ h;cases d<;>exact h) ?_
   simp only[Qaj,pick,QGo,QGp,QGs,QGu,QGv]
   repeat (first|go_big_quiet_skip|(go_big_quiet_want;(first|refine QcY _ rfl h0.drew rfl ?_|refine QcY _ rfl h1'.drew rfl ?_);simp only[Act.put,QGw,QGB,QGz];go_big_quiet_on)|(go_big_quiet_step (fail)))
   refine wpQuiet_nil ?_
   go_wp2_with fail
   (with_reducible refine (QeC n hn _).mono ?_);rintro e w2 ⟨rfl,hl2⟩
   go_wp2_with fail
   try refine⟨by first|assumption|exact Qab _|exact Qaa _ _|exact Later.refl _,?_⟩
   try simp only[Qaj,pick,QGo,QGp,QGs,QGu,QGv]
   repeat (go_big_quiet_step (fail))
   refine wpQuiet_nil ?_
   go_wp2_with fail
   (with_reducible refine (hadd.out _).mono ?_);rintro e w3 ⟨rfl,hl3⟩
   have h33:=((h3.drew.later hl2)).later hl3
   have L3:=((L.trans (Qab _)).trans hl2).trans hl3
   go_wp2_with (refine QaI rfl rfl _ _ rfl h33 rfl rfl rfl ?_;intro w4 hb4 ho4)
   exact bodyPost_ret (QhU rfl hb4 rfl) rfl ⟨by rw[HM.out],L3.only ho4 (by omega)⟩
def lem (n j:Nat):Nat:=n/B32^j%B32
@[go_sem] theorem QGk (n i:Nat):(lem n i<B32)=True:=eq_true (QGU _ Qbj)
@[go_sem] theorem QEN (n i:Nat):(lem n i<B64)=True:=eq_true (QHr (QGU _ Qbj) (by decide))
def NL (n:Nat):List Value:=(dig B32 8 n).map n32
abbrev NN (n:Nat):Value:=.agg (NL n).toArray
theorem Qay (n:Nat):(NL n).length=8:=by rw[NL,QGr,QaS]
theorem Qez (n i:Nat) (h:i<8):(NL n)[i]?=some (n32 (lem n i)):=by rw[NL,QGF,QgG _ _ _ _ h];rfl
@[go_sem] theorem QFB (n i:Nat) (h:i<(NL n).length):(NL n)[i]=n32 (lem n i):=by
  have:=Qez n i (by rw[Qay]at h;exact h)
  rw[QGt h]at this
  exact Option.some.inj this
theorem QDb (n:Nat):∀v∈NL n,v.oneCell'=true:=QB8 _
def VL (n:Nat):List Value:=(dig B32 17 n).map n64
abbrev VV (n:Nat):Value:=.agg (VL n).toArray
theorem QdC (n:Nat):(VL n).length=17:=by rw[VL,QGr,QaS]
theorem QfQ (n i:Nat) (h:i<17):(VL n)[i]?=some (n64 (lem n i)):=by rw[VL,QGF,QgG _ _ _ _ h];rfl
@[go_sem] theorem QCL (n i:Nat) (h:i<(VL n).length):(VL n)[i]=n64 (lem n i):=by
  have:=QfQ n i (by rw[QdC]at h;exact h)
  rw[QGt h]at this
  exact Option.some.inj this
theorem QCs (n:Nat):∀v∈VL n,v.oneCell'=true:=Qwh _
theorem Qfb:B32^8=T256:=by decide
theorem Qom {n m:Nat} (h:n%T256=m%T256):NL n=NL m:=by
 rw[NL,NL,←QgN,←QgN (n:=m),Qfb,h]
theorem Qlt:(Tryz.prog.info? 225).map (·.size)=some 8:=by kernel_rfl
theorem QCo:(Tryz.prog.info? 258).map (·.size)=some 17:=by kernel_rfl
section
variable {ops:Array Oper} {rest:List Oper} {o:Oper} {a:Act} {w:World} {Q:Exit→Act→World→Prop}
theorem Qa6 (hgd:Region.wanted o (yielded ops a.tmps)=true) (x:Operand) (ho:o.op= .load 225 x) {g:Nat} {t:TypeId} {n:Nat} (hb:Blk w g t (NL n)) (hx:a.eval x= .pointer (some ⟨g,0,none⟩))
 (h:wpList Tryz.prog ops Q rest (a.put o.dst (NN n)) w):wpList Tryz.prog ops Q (o :: rest) a w:=
 Qbz hgd _ x ho g t _ hb hx _ Tryz.underlying225 rfl 8 Qlt (Qay n) h
theorem Qaw (hgd:o.guard=none) (hd:o.dst=none) (x y:Operand) (ho:o.op= .store 225 x y) {g:Nat} {t:TypeId} {l:List Value} {n:Nat} (hg:Blk w g t l) (hx:a.eval x= .pointer (some ⟨g,0,none⟩)) (hy:a.eval y=NN n) (hl:l.length=8)
 (h:∀w',Blk w' g t (NL n)→Only g w w'→wpList Tryz.prog ops Q rest a w'):wpList Tryz.prog ops Q (o :: rest) a w:=
 Qai hgd hd _ x y ho g t l _ hg hx hy 8 Qlt (Qay n) hl (QDb n) h
theorem Qmd {fn:Func} {p:Tmp} (hf:fn.results= #[.cell p 225]) {tmps:Array Value} {g:Nat} {t:TypeId} {n:Nat} (hg:Blk w g t (NL n)) (hp:tmps.getD p undef= .pointer (some ⟨g,0,none⟩)):
 (results fn tmps).run Tryz.prog w= .ok (NN n) w:=Qa8 hf tmps w g t _ _ hg hp Tryz.underlying225 rfl (by rw[Qay];exact Qlt)
theorem QbF {K:Act→Prop} (x:Operand) (ho:o.op= .load 225 x) {w0:World} {g:Nat} {t:TypeId} {n:Nat} (hb:Blk w0 g t (NL n)) (hx:a.eval x= .pointer (some ⟨g,0,none⟩)) (h:K (a.put o.dst (NN n))):
 o.quiet Tryz.prog a (fun w'=>∃x,w'=grow w0 x) K:=
 QaJ _ x ho g 0 (NL n) (fun w' hw j v hv=>by obtain⟨y,rfl⟩:=hw;rw[QGT];exact (hb.later ⟨y,rfl⟩).cellD j hv) hx _ Tryz.underlying225 rfl (by rw[Qay];exact Qlt) h
theorem QnF (hgd:Region.wanted o (yielded ops a.tmps)=true) (x:Operand) (ho:o.op= .load 258 x) {g:Nat} {t:TypeId} {n:Nat} (hb:Blk w g t (VL n)) (hx:a.eval x= .pointer (some ⟨g,0,none⟩))
 (h:wpList Tryz.prog ops Q rest (a.put o.dst (VV n)) w):wpList Tryz.prog ops Q (o :: rest) a w:=
 Qbz hgd _ x ho g t _ hb hx _ Tryz.underlying258 rfl 17 QCo (QdC n) h
theorem QAY (hgd:o.guard=none) (hd:o.dst=none) (x y:Operand) (ho:o.op= .store 258 x y) {g:Nat} {t:TypeId} {l:List Value} {n:Nat} (hg:Blk w g t l) (hx:a.eval x= .pointer (some ⟨g,0,none⟩)) (hy:a.eval y=VV n) (hl:l.length=17)
 (h:∀w',Blk w' g t (VL n)→Only g w w'→wpList Tryz.prog ops Q rest a w'):wpList Tryz.prog ops Q (o :: rest) a w:=
 Qai hgd hd _ x y ho g t l _ hg hx hy 17 QCo (QdC n) hl (QCs n) h
end
@[go_sem] theorem QFH (T:TypeId) (x:Nat) (yk:IntKind) (k:Int) (h0:0≤k):binOp .shl T (n64 x) (.int yk k)=pure (n64 (x*2^k.toNat)):=by
  rw[n64,QlE _ _ _ _ h0,Qig]
  rw[Qj6]
  show (BitVec.toNat _)=_
  rw[QIy,QIF]
  show (QGS x).toNat*_%2^64=_
  rw[QGZ,Nat.mod_mul_mod]
  rfl
set_option maxHeartbeats 1000000 in
theorem QuY (w:World):
 Calls Tryz.prog 167 #[] w fun e w'=>e= .returned (NN P25)∧Later w w':=by
 go_enter Tryz.func167,Tryz.ntmps167
 go_wp2_with (first
  | (refine Qap rfl 225 _ rfl (NL P25) ?hb ?_;(case hb=>kernel_rfl))
  | (refine Qaw rfl rfl _ _ rfl (Blk.new w _ (QGn 8 (.int .u32 0))) rfl rfl rfl ?_;intro w3 hb3 ho3))
 exact bodyPost_ret (Qmd rfl hb3 rfl) rfl ⟨rfl,(Qaa _ _).only ho3 (by omega)⟩
set_option maxHeartbeats 1000000 in
theorem QjR (a b:Nat) (hb:b<T256) (w:World):
 Calls Tryz.prog 138 #[NN a,NN b] w fun e w'=>e= .returned (.tuple #[NN (a+T256-b),.bool (owed B32 a b 8==1)])∧Later w w':=by
 have hlS:=Qay (a+T256-b)
 have hlA:=Qay a
 go_enter Tryz.func138,Tryz.ntmps138
 go_wp2
 go_loopw [7,8] (fun c i wr=>∃k:Nat,k≤8∧i= .int .i64 k∧c=n64 (owed B32 a b k)∧Blk wr w.heap.size 225 (NL a)∧Blk wr (w.heap.size+1) 225 (NL b)∧Blk wr (w.heap.size+1+1) 225 (QGn 8 (.int .u32 0))∧Blk wr (w.heap.size+1+1+1) 225 (QbM (NL (a+T256-b)) (QGn 8 (.int .u32 0)) k)∧Later w wr) (fun _ i _=>8-(intOf i).toNat)
 case atStart=>exact⟨0,by omega,rfl,by rw[QmR];rfl,(((Blk.new _ _ _).later (Qaa _ _)).later (Qaa _ _)).later (Qaa _ _),((Blk.new' _ _ (NL b) (by simp)).later (Qaa _ _)).later (Qaa _ _),(Blk.new' _ _ (QGn 8 (Value.int .u32 0)) (by simp)).later (Qaa _ _),by rw[Qbr];exact Blk.new' _ _ (QGn 8 (Value.int .u32 0)) (by simp),(((Qaa _ _).trans (Qaa _ _)).trans (Qaa _ _)).trans (Qaa _ _)⟩
 case round=>
  obtain⟨k,hk4,rfl,rfl,h1,h2,h3,h4,L⟩:=hrel
  by_cases hlt:k<8
  ·have d0:=h1.cellD k (Qez a _ (by omega))
   have d1:=h2.cellD k (Qez b _ (by omega))
   have hc:=Qmg B32 a b k
   have S0:=hid (Qqg Qbj a b k 8 hlt (by rw[Qfb];exact hb))
   rw[Qfb]at S0
   have S1:=hid (QnV Qbj a b k)
   have hx:lem a k<B32:=QGU _ Qbj
   have hy:lem b k<B32:=QGU _ Qbj
   change Hid (_=if lem a k<lem b k+owed B32 a b k then 1 else 0)at S1
   change Hid ((lem a k+B32-lem b k-owed B32 a b k)%B32=lem (a+T256-b) k)at S0
   generalize owed B32 a b k=c at *
   have hyc:(lem b k+c<B64)=True:=eq_true (by unfold B64;unfold B32 at hy;omega)
   rcases QHb (lem a k) (lem b k+c) with hl|hl
   ·have hdl:decide (lem a k<lem b k+c)=true:=by simpa using hl
    have hs:∀w,(binOp .sub 23 (n64 (lem a k+4294967296)) (n64 (lem b k+c))).run Tryz.prog w= .ok (n64 (lem a k+4294967296-(lem b k+c))) w:=fun w=>by
     rw[Qt6 _ _ _ (by unfold B64;unfold B32 at *;omega) (by unfold B32 at *;omega)]
     rfl
    have HD:=hid (show n32 (lem a k+4294967296-(lem b k+c))=n32 (lem (a+T256-b) k) by rw[←S0.out];apply Qzn;rw[QHX];congr 1;unfold B32;omega)
    have HC:=hid (show owed B32 a b (k+1)=1 by rw[S1.out,if_pos hl])
    go_wp2_with (first
     | (refine Qad rfl rfl _ _ _ rfl _ _ _ _ h4 rfl ?hl rfl (by kernel_rfl) ?_;(case hl=>rw[Qaz _ _ _ (by rw[hlS];rfl)];simp;omega);intro v w6 hv hb6 ho6;simp[go_sem]at hv;subst hv))
    go_roundw
    case rel=>
     rw[HD.out,Qa2 _ _ _ _ (by rw[hlS];rfl) (by simp;omega) (Qez _ _ (by omega))]at hb6
     exact⟨k+1,by omega,by go_num,by rw[HC.out];rfl,h1.only ho6 (by omega),h2.only ho6 (by omega),h3.only ho6 (by omega),hb6,L.only ho6 (by omega)⟩
    case measure=>simp[intOf];omega
   ·have hdl:decide (lem a k<lem b k+c)=false:=by simpa using hl
    have hs:∀w,(binOp .sub 23 (n64 (lem a k)) (n64 (lem b k+c))).run Tryz.prog w= .ok (n64 (lem a k-(lem b k+c))) w:=fun w=>by
     rw[Qt6 _ _ _ (by unfold B64;unfold B32 at *;omega) hl]
     rfl
    have HD:=hid (show n32 (lem a k-(lem b k+c))=n32 (lem (a+T256-b) k) by rw[←S0.out];apply Qzn;rw[QHX];unfold B32;omega)
    have HC:=hid (show owed B32 a b (k+1)=0 by rw[S1.out,if_neg (by omega)])
    go_wp2_with (first
     | (refine Qad rfl rfl _ _ _ rfl _ _ _ _ h4 rfl ?hl rfl (by kernel_rfl) ?_;(case hl=>rw[Qaz _ _ _ (by rw[hlS];rfl)];simp;omega);intro v w6 hv hb6 ho6;simp[go_sem]at hv;subst hv))
    go_roundw
    case rel=>
     rw[HD.out,Qa2 _ _ _ _ (by rw[hlS];rfl) (by simp;omega) (Qez _ _ (by omega))]at hb6
     exact⟨k+1,by omega,by go_num,by rw[HC.out];rfl,h1.only ho6 (by omega),h2.only ho6 (by omega),h3.only ho6 (by omega),hb6,L.only ho6 (by omega)⟩
    case measure=>simp[intOf];omega
  ·rw[show k=8 by omega,Qcg _ _ _ hlS rfl]at h4
   have hko:owed B32 a b k=owed B32 a b 8:=by rw[show k=8 by omega]
   have hol:=Qmg B32 a b k
   have hoB:(owed B32 a b k<B64)=True:=eq_true (QHZ hol (by decide))
   have HK:=hid hko
   clear hko
   go_wp2_with (first
    | (refine Qa6 rfl _ rfl h4 rfl ?_)
    | (refine Qaw rfl rfl _ _ rfl h3 rfl rfl rfl ?_;intro w4 hb4 ho4)
    | fail)
   exact bodyPost_ret (Qac rfl _ _ _ _ _ _ hb4 rfl Tryz.underlying225 rfl (by rw[Qay];exact Qlt)) rfl ⟨by rw[←HK.out];rfl,L.only ho4 (by omega)⟩
def decV:Option Value→Nat
 | some (.int _ x)=>x.toNat
 | _=>0
def lies (B k:Nat) (g:Nat) (w:World):Nat:=val B ((QG0 k).map fun i=>decV (w.cell? ⟨g,i,none⟩))
theorem QiY (B n:Nat):∀k,(QG0 k).map (fun i=>n/B^i%B)=dig B k n
 | 0=>rfl
 | k+1=>by rw[QH5,QG6,QiY B n k,Qf4];rfl
theorem Qzr {w:World} {g:Nat} {t:TypeId} {n:Nat} (h:Blk w g t (NL n)) (hn:n<T256):lies B32 8 g w=n:=by
 have e:(QG0 8).map (fun i=>decV (w.cell? ⟨g,i,none⟩))=dig B32 8 n:=by
  rw[←QiY]
  apply QIB
  intro i hi
  rw[h.cellD i (Qez n i (QHg.1 hi)),Qzp (n:=lem n i) (QGU _ Qbj)]
  show Int.toNat ((lem n i:Nat):Int)=_
  rw[QIq]
  rfl
 rw[lies,e,QeF,Qfb,QGO hn]
theorem Qy2 {w:World} {g:Nat} {t:TypeId} {n:Nat} (h:Blk w g t (VL n)) (hn:n<B32^17):lies B32 17 g w=n:=by
 have e:(QG0 17).map (fun i=>decV (w.cell? ⟨g,i,none⟩))=dig B32 17 n:=by
  rw[←QiY]
  apply QIB
  intro i hi
  rw[h.cellD i (QfQ n i (QHg.1 hi)),Qfy (n:=lem n i) (QHr (QGU _ Qbj) (by decide))]
  show Int.toNat ((lem n i:Nat):Int)=_
  rw[QIq]
  rfl
 rw[lies,e,QeF,QGO hn]
set_option maxRecDepth 100000 in
set_option maxHeartbeats 2000000 in
theorem Qej (n:Nat) (hn:n<T256) (w:World):
 Calls Tryz.prog 135 #[NN n] w fun e w'=>e= .returned (NN (n%P25))∧Later w w':=by
 go_enter Tryz.func135,Tryz.ntmps135
 go_wp2
 go_loopw [] (fun wr=>∃m:Nat,m<T256∧Hid (m%P25=n%P25)∧Blk wr w.heap.size 225 (NL m)∧Blk wr (w.heap.size+1) 225 (QGn 8 (.int .u32 0))∧Later w wr) (fun wr=>lies B32 8 w.heap.size wr)
 case atStart=>exact⟨n,hn,hid rfl,(Blk.new _ _ _).later (Qaa _ _),Blk.new' _ _ (QGn 8 (Value.int .u32 0)) (by simp),(Qaa _ _).trans (Qaa _ _)⟩
 case round=>
  obtain⟨m,hm,HM,h1,h2,L⟩:=hrel
  have hmin:=fun w=>QjR m P25 (by decide) w
  rw[QqI m P25 8 (by rw[Qfb];exact hm) (by decide)]at hmin
  have HMIN:=hid hmin
  clear hmin
  go_wp2_with fail
  refine QaC [0] [([],1,1),([],1,2),([3,4,5],2,6)] [] [7,8] [6] (fun _=>(fun g=>.pointer (some ⟨g,0,none⟩),.cells (QGn 8 (Value.int .u32 0)).toArray 225)) (by as_aux_lemma=>kernel_rfl) (by as_aux_lemma=>kernel_rfl) (by intro _ _ d _ _ h;cases d<;>exact h) (by intro _ _ d _ _ h;cases d<;>exact h) ?_
  simp only[pick,QGp,QGs,QGu,QGv]
  repeat (first|go_big_quiet_skip|(go_big_quiet_want;refine QbF _ rfl h1.drew rfl ?_;simp only[Act.put,QGw,QGB,QGz];go_big_quiet_on)|(go_big_quiet_step (fail)))
  refine wpQuiet_nil ?_
  refine⟨?mk,?_⟩
  case mk=>
   refine⟨fun o ho=>?_,trivial⟩
   simp only[QGo,QGp,Option.some.injEq]at ho
   subst ho
   refine⟨rfl,fun W=>?_⟩
   unfold execOp
   simp[go_sem]
  simp only[Qbu,pick,QGo,QGp,QGs,QGu,QGv]
  refine wpQuiet_nil ?_
  intro w2 hl2
  go_wp2_with fail
  (with_reducible refine (QuY _).mono ?_);rintro e w3 ⟨rfl,hl3⟩
  go_wp2_with fail
  try refine⟨by first|assumption|exact Qab _|exact Qaa _ _|exact Later.refl _,?_⟩
  try simp only[Qaj,pick,QGo,QGp,QGs,QGu,QGv]
  repeat (go_big_quiet_step (fail))
  refine wpQuiet_nil ?_
  intro w3' hl3'
  go_wp2_with fail
  (with_reducible refine (HMIN.out _).mono ?_);rintro e w4 ⟨rfl,hl4⟩
  obtain⟨X,hX⟩:∃X:Bool,X=((if m<P25 then 1 else 0)==1):=⟨_,rfl⟩
  rw[←hX]
  have HX:=hid hX
  clear hX
  go_wp2_with fail
  try refine⟨by first|assumption|exact Qab _|exact Qaa _ _|exact Later.refl _,?_⟩
  try simp only[Qaj,pick,QGo,QGp,QGs,QGu,QGv]
  repeat (go_big_quiet_step (fail))
  refine wpQuiet_nil ?_
  intro w6 g6 hl6 hg6 _ hb6
  refine wpQuiet_nil ?_
  intro w7 hl7
  have Lr:Later wr w7:=(((((Qab _).trans hl2).trans hl3).trans hl3').trans hl4).trans (hl6.trans hl7)
  have hB:Blk w7 g6 225 (QGn 8 (Value.int .u32 0)):=Blk.later hb6 hl7
  have hA:=h1.later Lr
  have hR:=h2.later Lr
  have L7:=L.trans Lr
  have hlt1:=h1.lt
  have hlt2:=h2.lt
  have hgg:=h1.lt
  clear h2 hl2 hl3 hl3' hl4 hl6 hl7 hb6 Lr
  rcases QHb m P25 with hmp|hmp
  ·obtain rfl:X=true:=by rw[HX.out,if_pos hmp];rfl
   have hmn:=HM.out
   rw[QGO hmp]at hmn
   have HN:=hid hmn
   clear hmn
   go_wp2_with (first
    | (refine Qaw rfl rfl _ _ rfl hB rfl rfl rfl ?_;intro w8 hb8 ho8
       have hA8:=hA.only ho8 (by omega)
       have hR8:=hR.only ho8 (by omega)
       have L8:=L7.only ho8 (by omega))
    | (refine Qa6 rfl _ rfl hA8 rfl ?_)
    | (refine Qaw rfl rfl _ _ rfl hR8 rfl rfl rfl ?_;intro w9 hb9 ho9)
    | fail)
   exact bodyPost_ret (Qmd rfl hb9 rfl) rfl ⟨by rw[←HN.out],L8.only ho9 (by omega)⟩
  ·obtain rfl:X=false:=by rw[HX.out,if_neg (by omega)];rfl
   have hs1:NL (m+T256-P25)=NL (m-P25):=Qom (by unfold T256 P25 at *;omega)
   have HS:=hid hs1
   clear hs1
   go_wp2_with (first
    | (refine Qaw rfl rfl _ _ rfl hB rfl rfl rfl ?_;intro w8 hb8 ho8
       have hA8:=hA.only ho8 (by omega)
       have hR8:=hR.only ho8 (by omega)
       have L8:=L7.only ho8 (by omega))
    | (refine Qa6 rfl _ rfl hb8 rfl ?_)
    | (refine Qaw rfl rfl _ _ rfl hA8 rfl rfl (Qay _) ?_;intro w9 hb9 ho9)
    | fail)
   go_roundw
   case rel=>
    rw[HS.out]at hb9
    exact⟨_,_,_,_,_,_,_,_,_,_,_,⟨m-P25,by omega,hid (by rw[←HM.out];exact (Nat.mod_eq_sub_mod hmp).symm),hb9,hR8.only ho9 (by omega),L8.only ho9 (by omega)⟩,rfl⟩
   case measure=>
    rw[HS.out]at hb9
    have e1:=Qzr hb9 (by omega)
    have e2:=Qzr h1 hm
    have:=Qbp
    omega
theorem Qjc {B:Nat} (x:Nat):∀k,(∀ j,j<k→x/B^j%B=0)→x%B^k=0
 | 0,_=>by simp[Nat.mod_one]
 | k+1,h=>by rw[Qcl,Qjc x k (fun j hj=>h j (by omega)),h k (by omega),Nat.mul_zero]
theorem QzC (n j:Nat):lem n (8+j)=lem (n/T256) j:=by rw[lem,lem,←Qfb,QHk,←QHW]
theorem QDh (n j:Nat) (h:j<8):lem n j=lem (n%T256) j:=by
 rw[lem,lem,←QdX B32 8 n j h,←QdX B32 8 _ j h,←Qfb,QgN]
theorem Qz4 (n:Nat) (hn:n<B32^17) (h:∀j,8≤j→j<17→lem n j=0):n<T256:=by
 have h9:n/T256<B32^9:=QHu (by rw[←Qfb,←QHW];exact hn)
 have:=Qjc (B:=B32) (n/T256) 9 (fun j hj=>by have:=h (8+j) (by omega) (by omega);rw[QzC]at this;exact this)
 rw[QGO h9]at this
 have hd:=QHn n T256
 rw[this,Nat.mul_zero,QGT]at hd
 rw[←hd]
 exact QGU _ (by decide)
theorem Qyq (n j:Nat) (h8:8≤j) (h:lem n j≠0): ¬n<T256:=by
 intro hn
 refine h ?_
 rw[lem,QHm,QII]
 exact QGN hn (by rw[←Qfb];exact QHt (by decide) h8)
theorem QpX {b c:Bool} (h:b=c):Ending.returned (.bool b)= .returned (.bool c):=by rw[h]
set_option maxHeartbeats 1000000 in
theorem QwI (n:Nat) (hn:n<B32^17) (w:World):
 Calls Tryz.prog 169 #[VV n] w fun e w'=>e= .returned (.bool (!decide (n<T256)))∧Later w w':=by
 have HNo:=hid (Qz4 n hn)
 have HYes:=hid (Qyq n)
 clear hn
 go_enter Tryz.func169,Tryz.ntmps169
 go_wp2
 go_loopw [3] (fun i wr=>∃k:Nat,8≤k∧k≤17∧i= .int .i64 k∧Hid (∀ j,8≤j→j<k→lem n j=0)∧Blk wr w.heap.size 258 (VL n)∧Later w wr) (fun i _=>17-(intOf i).toNat)
 case atStart=>exact⟨8,by omega,by omega,rfl,hid (fun j h1 h2=>by omega),Blk.new _ _ _,Qaa _ _⟩
 case round=>
  obtain⟨k,hk8,hk,rfl,HZ,h1,L⟩:=hrel
  by_cases hlt:k<17
  ·have d0:=h1.cellD k (QfQ n k hlt)
   by_cases hz:lem n k=0
   ·have hd:decide (0<lem n k)=false:=by simp[hz]
    have HZ':=hid hz
    clear hz
    go_wp2
    go_roundw
    case rel=>
     refine⟨k+1,by omega,by omega,by go_num,hid (fun j h1 h2=>?_),h1,L⟩
     by_cases hj:j=k
     ·rw[hj];exact HZ'.out
     ·exact HZ.out j h1 (by omega)
    case measure=>simp[intOf];omega
   ·have hd:decide (0<lem n k)=true:=by simp;omega
    have HR:=hid (HYes.out k hk8 hz)
    clear hz
    go_wp2
    go_ret
    exact⟨QpX (by simp only[HR.out,decide_false,Bool.not_false]),L⟩
  ·have HR:=hid (HNo.out (fun j h8 hj=>HZ.out j h8 (by omega)))
   go_wp2
   go_ret
   exact⟨QpX (by simp only[HR.out,decide_true,Bool.not_true]),L⟩
theorem Qvj (S:Nat) (hS:S<B32^10):QbM (VL S) (QGn 17 (.int .u64 0)) 10=VL S:=by
 have hl:=QdC S
 apply QIN (by rw[Qaz _ _ _ (by rw[hl];rfl),hl];rfl)
 intro i h1 h2
 rw[hl]at h2
 by_cases hi:i<10
 ·have e:(QbM (VL S) (QGn 17 (.int .u64 0)) 10)[i]?=(VL S)[i]?:=by
   rw[QbM,QGG (by rw[QGP,hl];omega),QHJ,if_pos hi]
  rw[QGt h1,QGt (by rw[hl];exact h2)]at e
  exact Option.some.inj e
 ·have e:=QeO (VL S) (QGn 17 (.int .u64 0)) 10 i (by rw[hl];rfl) (by omega) (by simpa using h2)
  rw[QGt h1,QH1,if_pos h2]at e
  rw[Option.some.inj e,QCL,lem,QHm,QII]
  ·rfl
  ·exact QGN hS (QHt (by decide) (by omega))
theorem Quz (m:Nat) (h:T256≤m):38*(m/T256)+m%T256<m∧(38*(m/T256)+m%T256)%P25=m%P25:=by
 unfold T256 P25 at *
 omega
set_option maxRecDepth 100000 in
set_option maxHeartbeats 2000000 in
theorem QkY (n:Nat) (hn:n<B32^17) (w:World):
 Calls Tryz.prog 137 #[VV n] w fun e w'=>e= .returned (NN (n%P25))∧Later w w':=by
 go_enter Tryz.func137,Tryz.ntmps137
 go_wp2
 go_loopw [] (fun wr=>∃m:Nat,m<B32^17∧Hid (m%P25=n%P25)∧Blk wr w.heap.size 258 (VL m)∧Blk wr (w.heap.size+1) 225 (QGn 8 (.int .u32 0))∧Later w wr) (fun wr=>lies B32 17 w.heap.size wr)
 case atStart=>exact⟨n,hn,hid rfl,(Blk.new _ _ _).later (Qaa _ _),Blk.new' _ _ (QGn 8 (Value.int .u32 0)) (by simp),(Qaa _ _).trans (Qaa _ _)⟩
 case round=>
  obtain⟨m,hm,HM,h1,h2,L⟩:=hrel
  have hhi:=hid (QwI m hm)
  rcases QHb m T256 with hlt|hge
  ·have hb:(!decide (m<T256))=false:=by simpa using hlt
   rw[hb]at hhi
   clear hb
   go_wp2_with (first
    | (refine QnF rfl _ rfl h1 rfl ?_)
    | (go_at_call 169;(with_reducible refine (hhi.out _).mono ?_);rintro e w2 ⟨rfl,hl2⟩
       have h12:=h1.later hl2
       have h22:=h2.later hl2
       have L2:=L.trans hl2
       clear hhi)
    | fail)
   have hlS:=Qay m
   have hlz:=h12.lt
   have hlz2:=h22.lt
   go_loopw [7] (fun i wx=>∃k:Nat,k≤8∧i= .int .i64 k∧Blk wx w.heap.size 258 (VL m)∧Blk wx (w.heap.size+1) 225 (QGn 8 (.int .u32 0))∧Blk wx w2.heap.size 225 (QbM (NL m) (QGn 8 (.int .u32 0)) k)∧Later w wx) (fun i _=>8-(intOf i).toNat)
   case atStart=>exact⟨0,by omega,rfl,h12.later (Qaa _ _),h22.later (Qaa _ _),by rw[Qbr];exact Blk.new _ _ (QGn 8 (Value.int .u32 0)),L2.trans (Qaa _ _)⟩
   case round=>
    clear h12 h22 L2
    obtain⟨k,hk,rfl,h3,h4,h5,L3⟩:=hrel
    by_cases hk8:k<8
    ·have d0:=h3.cellD k (QfQ m k (by omega))
     go_wp2_with (first
      | (refine Qad rfl rfl _ _ _ rfl _ _ _ _ h5 rfl ?hl rfl (by kernel_rfl) ?_;(case hl=>rw[Qaz _ _ _ (by rw[hlS];rfl)];simp;omega);intro v w6 hv hb6 ho6;simp[go_sem]at hv;subst hv))
     go_roundw
     case rel=>
      rw[Qa2 _ _ _ _ (by rw[hlS];rfl) (by simp;omega) (Qez _ _ (by omega))]at hb6
      exact⟨k+1,by omega,by go_num,h3.only ho6 (by omega),h4.only ho6 (by omega),hb6,L3.only ho6 (by have:=L.size;omega)⟩
     case measure=>simp[intOf];omega
    ·rw[show k=8 by omega,Qcg _ _ _ hlS rfl]at h5
     have hkf:decide ((k:Int)<8)=false:=by simp;omega
     go_wp2_with (first
      | (refine Qa6 rfl _ rfl h5 rfl ?_)
      | (go_at_call 135;(with_reducible refine (Qej m hlt _).mono ?_);rintro e w7 ⟨rfl,hl7⟩)
      | (refine Qaw rfl rfl _ _ rfl (h4.later hl7) rfl rfl rfl ?_;intro w9 hb9 ho9)
      | fail)
     exact bodyPost_ret (Qmd rfl hb9 rfl) rfl ⟨by rw[HM.out],(L3.trans hl7).only ho9 (by omega)⟩
  ·have hb:(!decide (m<T256))=true:=by simpa using hge
   rw[hb]at hhi
   clear hb
   obtain⟨hf1,hf2⟩:=Quz m hge
   have hh9:m/T256<B32^9:=QHu (by rw[←Qfb,←QHW];exact hm)
   have hhl:=fun j=>QzC m j
   have hll:=fun j h=>QDh m j h
   have hlm:=QGU m (show 0<T256 by decide)
   have hS10:38*(m/T256)+m%T256<B32^10:=by
    have e1:B32^10=4294967296*(4294967296*T256):=by decide
    have e2:B32^9=4294967296*T256:=by decide
    rw[e2]at hh9
    rw[e1]
    omega
   have hd10:(38*(m/T256)+m%T256)/B32^9<B32:=QHu (by rw[←QHq];exact hS10)
   have hdd:lem (38*(m/T256)+m%T256) 9=(38*(m/T256)+m%T256)/B32^9:=QGO hd10
   have hmE:mcar B32 38 (m/T256) (m%T256) 9=(38*(m/T256)+m%T256)/B32^9:=by
    rw[mcar,QGO hh9,QGO (QHr hlm (by decide))]
   rw[←hmE]at hdd
   have HDD:=hid hdd
   have HF2:=hid (hf2.trans HM.out)
   have HF1:=hid hf1
   have HVF:=hid (Qvj _ hS10)
   have HHL:=hid hhl
   have HLL:=hid hll
   have HS17:=hid (QGN hS10 (show B32^10≤B32^17 from QHt (by decide) (by omega)))
   have hz8:lem (m%T256) 8=0:=by rw[lem,QHm (by rw[Qfb];exact hlm),QII]
   have HZ8:=hid hz8
   clear hdd hmE hd10 hf1 hf2 hhl hll hS10 hz8 hh9 hlm
   generalize m/T256=H at *
   generalize m%T256=Lo at *
   have hlS:=QdC (38*H+Lo)
   go_wp2_with (first
    | (refine QnF rfl _ rfl h1 rfl ?_)
    | (go_at_call 169;(with_reducible refine (hhi.out _).mono ?_);rintro e w2 ⟨rfl,hl2⟩
       have h12:=(h1.later hl2).later (Qaa _ (.cells (QGn 17 (.int .u64 0)).toArray 258))
       have h22:=(h2.later hl2).later (Qaa _ (.cells (QGn 17 (.int .u64 0)).toArray 258))
       have L2:=(L.trans hl2).trans (Qaa _ (.cells (QGn 17 (.int .u64 0)).toArray 258))
       have hz1:=(h1.later hl2).lt
       have hz2:=(h2.later hl2).lt
       clear hhi)
    | fail)
   go_loopw [4,5] (fun c i wx=>∃k:Nat,k≤9∧i= .int .i64 k∧c=n64 (mcar B32 38 H Lo k)∧Blk wx w.heap.size 258 (VL m)∧Blk wx (w.heap.size+1) 225 (QGn 8 (.int .u32 0))∧Blk wx w2.heap.size 258 (QbM (VL (38*H+Lo)) (QGn 17 (.int .u64 0)) k)∧Later w wx) (fun _ i _=>9-(intOf i).toNat)
   case atStart=>exact⟨0,by omega,rfl,by rw[QnP];rfl,h12,h22,by rw[Qbr];exact Blk.new _ _ (QGn 17 (Value.int .u64 0)),L2⟩
   case round=>
    clear h12 h22 L2
    obtain⟨k,hk,rfl,rfl,h3,h4,h5,L3⟩:=hrel
    by_cases hk9:k<9
    ·have hc:=Quh (show 38<B32 by decide) H Lo k
     have S0:=hid (mdig Qbj 38 H Lo k)
     have S1:=hid (Qna Qbj 38 H Lo k)
     have d1:=h3.cellD (k+8) (QfQ m (k+8) (by omega))
     rw[QID k 8,HHL.out k,QID 8 k]at d1
     have hlH:lem H k<B32:=QGU _ Qbj
     have hlL:lem Lo k<B32:=QGU _ Qbj
     change Hid ((38*lem H k+lem Lo k+mcar B32 38 H Lo k)%B32=lem (38*H+Lo) k)at S0
     change Hid ((38*lem H k+lem Lo k+mcar B32 38 H Lo k)/B32=_)at S1
     by_cases hk8:k<8
     ·have d0:=h3.cellD k (QfQ m k (by omega))
      rw[HLL.out k hk8]at d0
      generalize mcar B32 38 H Lo k=c at *
      have hsm:(c+lem Lo k+38*lem H k<B64)=True:=eq_true (by unfold B64;unfold B32 at *;omega)
      have E0:=hid (show (c+lem Lo k+38*lem H k)%4294967296=lem (38*H+Lo) k by rw[←S0.out];unfold B32;congr 1;omega)
      have E1:=hid (show (c+lem Lo k+38*lem H k)/4294967296=mcar B32 38 H Lo (k+1) by rw[←S1.out];unfold B32;congr 1;omega)
      go_wp2_with (first
       | (refine Qad rfl rfl _ _ _ rfl _ _ _ _ h5 rfl ?hl rfl (by kernel_rfl) ?_;(case hl=>rw[Qaz _ _ _ (by rw[hlS];rfl)];simp;omega);intro v w6 hv hb6 ho6;simp[go_sem]at hv;subst hv))
      go_roundw
      case rel=>
       rw[E0.out,Qa2 _ _ _ _ (by rw[hlS];rfl) (by simp;omega) (QfQ _ _ (by omega))]at hb6
       exact⟨k+1,by omega,by go_num,by rw[E1.out],h3.only ho6 (by omega),h4.only ho6 (by omega),hb6,L3.only ho6 (by have:=L.size;omega)⟩
      case measure=>simp[intOf];omega
     ·have hk8e:lem Lo k=0:=by rw[show k=8 by omega];exact HZ8.out
      have HKE:=hid hk8e
      clear hk8e
      generalize mcar B32 38 H Lo k=c at *
      have hsm:(c+38*lem H k<B64)=True:=eq_true (by unfold B64;unfold B32 at *;omega)
      have E0:=hid (show (c+38*lem H k)%4294967296=lem (38*H+Lo) k by rw[←S0.out,HKE.out];unfold B32;congr 1;omega)
      have E1:=hid (show (c+38*lem H k)/4294967296=mcar B32 38 H Lo (k+1) by rw[←S1.out,HKE.out];unfold B32;congr 1;omega)
      go_wp2_with (first
       | (refine Qad rfl rfl _ _ _ rfl _ _ _ _ h5 rfl ?hl rfl (by kernel_rfl) ?_;(case hl=>rw[Qaz _ _ _ (by rw[hlS];rfl)];simp;omega);intro v w6 hv hb6 ho6;simp[go_sem]at hv;subst hv))
      go_roundw
      case rel=>
       rw[E0.out,Qa2 _ _ _ _ (by rw[hlS];rfl) (by simp;omega) (QfQ _ _ (by omega))]at hb6
       exact⟨k+1,by omega,by go_num,by rw[E1.out],h3.only ho6 (by omega),h4.only ho6 (by omega),hb6,L3.only ho6 (by have:=L.size;omega)⟩
      case measure=>simp[intOf];omega
    ·rw[show k=9 by omega]at h5
     have hkf:decide ((k:Int)<9)=false:=by simp;omega
     have HC9:=hid (show n64 (mcar B32 38 H Lo k)=n64 (lem (38*H+Lo) 9) by rw[show k=9 by omega,HDD.out])
     go_wp2_with (first
      | (refine Qad rfl rfl _ _ _ rfl _ _ _ _ h5 rfl ?hl rfl (by kernel_rfl) ?_;(case hl=>rw[Qaz _ _ _ (by rw[hlS];rfl)];simp);intro v w6 hv hb6 ho6;simp[go_sem]at hv;subst hv
         rw[HC9.out,Qa2 _ _ _ _ (by rw[hlS];rfl) (by simp) (QfQ _ 9 (by omega)),HVF.out]at hb6
         have h36:=h3.only ho6 (by omega))
      | (refine QnF rfl _ rfl hb6 rfl ?_)
      | (refine QAY rfl rfl _ _ rfl h36 rfl rfl (QdC _) ?_;intro w7 hb7 ho7)
      | fail)
     go_roundw
     case rel=>
      repeat apply Exists.intro
      exact⟨⟨38*H+Lo,HS17.out,hid HF2.out,hb7,(h4.only ho6 (by omega)).only ho7 (by omega),(L3.only ho6 (by have:=L.size;omega)).only ho7 (by omega)⟩,rfl⟩
     case measure=>
      have e1:=Qy2 hb7 HS17.out
      have e2:=Qy2 h1 hm
      have:=HF1.out
      omega
theorem Qr6 (S k:Nat) (hk:k≤17) (hS:S<B32^k):QbM (VL S) (QGn 17 (.int .u64 0)) k=VL S:=by
 have hl:=QdC S
 apply QIN (by rw[Qaz _ _ _ (by rw[hl];rfl),hl];rfl)
 intro i h1 h2
 rw[hl]at h2
 by_cases hi:i<k
 ·have e:(QbM (VL S) (QGn 17 (.int .u64 0)) k)[i]?=(VL S)[i]?:=by
   rw[QbM,QGG (by rw[QGP,hl];omega),QHJ,if_pos hi]
  rw[QGt h1,QGt (by rw[hl];exact h2)]at e
  exact Option.some.inj e
 ·have e:=QeO (VL S) (QGn 17 (.int .u64 0)) k i (by rw[hl];rfl) (by omega) (by simpa using h2)
  rw[QGt h1,QH1,if_pos h2]at e
  rw[Option.some.inj e,QCL,lem,QHm,QII]
  ·rfl
  ·exact QGN hS (QHt (by decide) (by omega))
set_option maxRecDepth 100000 in
set_option maxHeartbeats 2000000 in
theorem QB0 (a b:Nat) (ha:a<T256) (hb:b<T256) (w:World):
 Calls Tryz.prog 105 #[NN a,NN b] w fun e w'=>e= .returned (NN ((a+b)%P25))∧Later w w':=by
 have hS9:a+b<B32^9:=by
  have:B32^9=4294967296*T256:=by decide
  rw[this]
  omega
 have HVF:=hid (Qr6 (a+b) 9 (by omega) hS9)
 have hlS:=QdC (a+b)
 have h8:carr B32 a b 0 8=lem (a+b) 8:=by
  rw[Qyv _ _ _ _ (by rw[Qfb];exact ha) (by rw[Qfb];exact hb),lem,QGO,QIf]
  exact QHu (by rw[←QHq];exact hS9)
 have HC8:=hid h8
 have HF:=hid (QkY (a+b) (QGN hS9 (QHt (by decide) (by omega))))
 clear h8 hS9
 go_enter Tryz.func105,Tryz.ntmps105
 go_wp2
 go_loopw [6,7] (fun c i wr=>∃k:Nat,k≤8∧i= .int .i64 k∧c=n64 (carr B32 a b 0 k)∧Blk wr w.heap.size 225 (NL a)∧Blk wr (w.heap.size+1) 225 (NL b)∧Blk wr (w.heap.size+1+1) 225 (QGn 8 (.int .u32 0))∧Blk wr (w.heap.size+1+1+1) 258 (QbM (VL (a+b)) (QGn 17 (.int .u64 0)) k)∧Later w wr) (fun _ i _=>8-(intOf i).toNat)
 case atStart=>exact⟨0,by omega,rfl,by rw[QmO];rfl,(((Blk.new _ _ _).later (Qaa _ _)).later (Qaa _ _)).later (Qaa _ _),((Blk.new' _ _ (NL b) (by simp)).later (Qaa _ _)).later (Qaa _ _),(Blk.new' _ _ (QGn 8 (Value.int .u32 0)) (by simp)).later (Qaa _ _),by rw[Qbr];exact Blk.new' _ _ (QGn 17 (Value.int .u64 0)) (by simp),(((Qaa _ _).trans (Qaa _ _)).trans (Qaa _ _)).trans (Qaa _ _)⟩
 case round=>
  obtain⟨k,hk4,rfl,rfl,h1,h2,h3,h4,L⟩:=hrel
  by_cases hlt:k<8
  ·have d0:=h1.cellD k (Qez a _ (by omega))
   have d1:=h2.cellD k (Qez b _ (by omega))
   have hc:=QpG Qbj a b 0 k (by omega)
   have S0:=hid (Qpd Qbj a b 0 k)
   have S1:=hid (Qi7 Qbj a b 0 k)
   have hx:lem a k<B32:=QGU _ Qbj
   have hy:lem b k<B32:=QGU _ Qbj
   change Hid ((lem a k+lem b k+carr B32 a b 0 k)%B32=lem (a+b) k)at S0
   change Hid ((lem a k+lem b k+carr B32 a b 0 k)/B32=carr B32 a b 0 (k+1))at S1
   generalize carr B32 a b 0 k=c at *
   have hsm:(c+lem a k+lem b k<B64)=True:=eq_true (by unfold B64;unfold B32 at *;omega)
   have E0:=hid (show (c+lem a k+lem b k)%4294967296=lem (a+b) k by rw[←S0.out];unfold B32;congr 1;omega)
   have E1:=hid (show (c+lem a k+lem b k)/4294967296=carr B32 a b 0 (k+1) by rw[←S1.out];unfold B32;congr 1;omega)
   go_wp2_with fail
   refine Qaf [] [0,1,2,3,4,5,6,7,8,9,10,11] [] (by as_aux_lemma=>kernel_rfl) (by as_aux_lemma=>kernel_rfl) (by intro _ _ d _ _ h;cases d<;>exact h) ?_
   simp only[Qaj,pick,QGo,QGp,QGs,QGu,QGv]
   repeat (go_big_quiet_step (fail))
   refine wpQuiet_nil ?_
   go_wp2_with (first
    | (refine Qad rfl rfl _ _ _ rfl _ _ _ _ h4.drew rfl ?hl rfl (by kernel_rfl) ?_;(case hl=>rw[Qaz _ _ _ (by rw[hlS];rfl)];simp;omega);intro v w6 hv hb6 ho6;simp[go_sem]at hv;subst hv)
    | fail)
   go_roundw
   case rel=>
    rw[E0.out,Qa2 _ _ _ _ (by rw[hlS];rfl) (by simp;omega) (QfQ _ _ (by omega))]at hb6
    exact⟨k+1,by omega,by go_num,by rw[E1.out],h1.drew.only ho6 (by omega),h2.drew.only ho6 (by omega),h3.drew.only ho6 (by omega),hb6,(L.trans (Qab _)).only ho6 (by omega)⟩
   case measure=>simp[intOf];omega
  ·rw[show k=8 by omega]at h4
   have hkf:decide ((k:Int)<8)=false:=by simp;omega
   have HC9:=hid (show n64 (carr B32 a b 0 k)=n64 (lem (a+b) 8) by rw[show k=8 by omega,HC8.out])
   go_wp2_with (first
    | (refine Qad rfl rfl _ _ _ rfl _ _ _ _ h4 rfl ?hl rfl (by kernel_rfl) ?_;(case hl=>rw[Qaz _ _ _ (by rw[hlS];rfl)];simp);intro v w6 hv hb6 ho6;simp[go_sem]at hv;subst hv
       rw[HC9.out,Qa2 _ _ _ _ (by rw[hlS];rfl) (by simp) (QfQ _ 8 (by omega)),HVF.out]at hb6
       have h36:=h3.only ho6 (by omega)
       have L6:=L.only ho6 (by omega))
    | (refine QnF rfl _ rfl hb6 rfl ?_)
    | (go_at_call 137;(with_reducible refine (HF.out _).mono ?_);rintro e w7 ⟨rfl,hl7⟩)
    | (refine Qaw rfl rfl _ _ rfl (h36.later hl7) rfl rfl rfl ?_;intro w9 hb9 ho9)
    | fail)
   exact bodyPost_ret (Qmd rfl hb9 rfl) rfl ⟨rfl,(L6.trans hl7).only ho9 (by omega)⟩
theorem QyW {B:Nat} (hB:0<B) (a b k n:Nat) (ha:a<B^k) (hb:b<B^k) (hn:k+k≤n):Qb8 B (dig B k a) (dig B k b) n k=dig B n (a*b):=by
 have hl:=Qcn B (dig B k a) (dig B k b) n k
 have hlt:=QfD hB (dig B k a) (dig B k b) n (Qeh hB k a) (Qeh hB k b) k
 have hv:=QhI (B:=B) (dig B k a) (dig B k b) n k (by rw[QaS];omega) (by rw[QaS];omega)
 rw[QGD (by rw[QaS];omega),QeF,QeF,QGO ha,QGO hb]at hv
 have:=Qmn _ hlt
 rw[hl,hv]at this
 exact this.symm
set_option maxRecDepth 100000 in
set_option maxHeartbeats 4000000 in
theorem QlJ (a b:Nat) (ha:a<T256) (hb:b<T256) (w:World):
 Calls Tryz.prog 107 #[NN a,NN b] w fun e w'=>e= .returned (NN (a*b%P25))∧Later w w':=by
 have hab:a*b<B32^17:=by
  have h1:a*b≤(T256-1)*(T256-1):=Nat.mul_le_mul (by omega) (by omega)
  exact QHZ h1 (by decide)
 have HF:=hid (QkY (a*b) hab)
 have HP:=hid (show (Qb8 B32 (dig B32 8 a) (dig B32 8 b) 17 8).map n64=VL (a*b) by rw[QyW Qbj a b 8 17 (by rw[Qfb];exact ha) (by rw[Qfb];exact hb) (by omega)];rfl)
 clear hab
 have hla:=fun i (h:i<8)=>QdX B32 8 a i h
 have hlb:=fun i (h:i<8)=>QdX B32 8 b i h
 have hal:=Qeh Qbj 8 a
 have hbl:=Qeh Qbj 8 b
 have hBl:=QaS B32 8 b
 generalize hdA:dig B32 8 a=dA at *
 generalize hdB:dig B32 8 b=dB at *
 have HLA:=hid hla
 have HLB:=hid hlb
 have HBl:=hid hBl
 clear hdA hdB hla hlb hBl
 go_enter Tryz.func107,Tryz.ntmps107
 go_wp2
 go_loopw [6] (fun i wr=>∃k:Nat,k≤8∧i= .int .i64 k∧Blk wr w.heap.size 225 (NL a)∧Blk wr (w.heap.size+1) 225 (NL b)∧Blk wr (w.heap.size+1+1) 225 (QGn 8 (.int .u32 0))∧Blk wr (w.heap.size+1+1+1) 258 ((Qb8 B32 dA dB 17 k).map n64)∧Later w wr) (fun i _=>8-(intOf i).toNat)
 case atStart=>exact⟨0,by omega,rfl,(((Blk.new _ _ _).later (Qaa _ _)).later (Qaa _ _)).later (Qaa _ _),((Blk.new' _ _ (NL b) (by simp)).later (Qaa _ _)).later (Qaa _ _),(Blk.new' _ _ (QGn 8 (Value.int .u32 0)) (by simp)).later (Qaa _ _),Blk.new' _ _ (QGn 17 (Value.int .u64 0)) (by simp),(((Qaa _ _).trans (Qaa _ _)).trans (Qaa _ _)).trans (Qaa _ _)⟩
 case round=>
  obtain⟨k,hk4,rfl,h1,h2,h3,h4,L⟩:=hrel
  by_cases hlt:k<8
  ·have hpl:=Qcn B32 dA dB 17 k
   have hpt:=QfD Qbj dA dB 17 hal hbl k
   have HS:=hid (QiS B32 dA dB 17 k (lem a k) 8 (HLA.out k hlt) HBl.out)
   generalize Qb8 B32 dA dB 17 k=ws at *
   have HPL:=hid hpl
   clear hpl
   have hkb:decide ((k:Int)<8)=true:=by simp;omega
   go_wp2
   go_loopw [7,8] (fun c i wr=>∃j:Nat,j≤8∧i= .int .i64 j∧c=n64 (QbC B32 (lem a k) dB ws k j).2∧Blk wr w.heap.size 225 (NL a)∧Blk wr (w.heap.size+1) 225 (NL b)∧Blk wr (w.heap.size+1+1) 225 (QGn 8 (.int .u32 0))∧Blk wr (w.heap.size+1+1+1) 258 ((QbC B32 (lem a k) dB ws k j).1.map n64)∧Later w wr) (fun _ i _=>8-(intOf i).toNat)
   case atStart=>exact⟨0,by omega,rfl,rfl,h1,h2,h3,h4,L⟩
   case round=>
    clear h1 h2 h3 h4 L
    obtain⟨j,hj4,rfl,rfl,h1,h2,h3,h4,L⟩:=hrel
    have hrl:=QcZ B32 (lem a k) dB ws k j
    obtain⟨hrt,hct⟩:=QiA (B:=B32) (lem a k) dB ws k (QGU _ Qbj) hbl hpt j
    by_cases hlj:j<8
    ·have da:=h1.cellD k (Qez a k hlt)
     have db:=h2.cellD j (Qez b j hlj)
     have dw:=h4.cellD (k+j) (QtZ _ _ (by rw[hrl,HPL.out];omega))
     have hwl:=QjF Qbj hrt (k+j)
     have HR:=hid (Qkq B32 (lem a k) dB ws k j (lem b j) (HLB.out j hlj))
     generalize (QbC B32 (lem a k) dB ws k j).2=c at *
     generalize (QbC B32 (lem a k) dB ws k j).1.getD (k+j) 0=v at *
     generalize (QbC B32 (lem a k) dB ws k j).1=vs at *
     have HRL:=hid hrl
     clear hrl
     have hkj:IntKind.i64.wrap ((k:Int)+(j:Int))=((k+j:Nat):Int):=by rw[IntKind.wrap_i64];omega
     have hmul:lem a k*lem b j≤4294967295*4294967295:=Nat.mul_le_mul (Nat.le_of_lt_succ (QGU _ Qbj)) (Nat.le_of_lt_succ (QGU _ Qbj))
     have hsm:(c+v+lem a k*lem b j<B64)=True:=eq_true (by unfold B64;unfold B32 at *;omega)
     have HE:(c+v+lem a k*lem b j)=lem a k*lem b j+v+c:=by omega
     have E0:=hid (show (c+v+lem a k*lem b j)%4294967296=(lem a k*lem b j+v+c)%B32 by rw[HE];rfl)
     have E1:=hid (show (c+v+lem a k*lem b j)/4294967296=(lem a k*lem b j+v+c)/B32 by rw[HE];rfl)
     clear HE hmul
     go_wp2_with fail
     refine Qaf [] [0,1,2,3,4,5,6,7,8,9,10,11,12,13,14,15,16,17] [] (by as_aux_lemma=>kernel_rfl) (by as_aux_lemma=>kernel_rfl) (by intro _ _ d _ _ h;cases d<;>exact h) ?_
     simp only[Qaj,pick,QGo,QGp,QGs,QGu,QGv]
     repeat (go_big_quiet_step (fail))
     refine wpQuiet_nil ?_
     go_wp2_with (first
      | (refine Qad rfl rfl _ _ _ rfl _ _ _ _ h4.drew rfl ?hl rfl (by kernel_rfl) ?_;(case hl=>rw[QGr,HRL.out,HPL.out];omega);intro v w2 hv hb2 ho2;simp[go_sem]at hv;subst hv)
      | fail)
     go_roundw
     case rel=>
      rw[Ql5,E0.out]at hb2
      exact⟨j+1,by omega,by go_num,by rw[HR.out,E1.out],h1.drew.only ho2 (by omega),h2.drew.only ho2 (by omega),h3.drew.only ho2 (by omega),by rw[HR.out];exact hb2,(L.trans (Qab _)).only ho2 (by omega)⟩
     case measure=>simp[intOf];omega
    ·obtain rfl:j=8:=by omega
     generalize hc4:(QbC B32 (lem a k) dB ws k 8).2=c at *
     generalize hv4:(QbC B32 (lem a k) dB ws k 8).1=vs at *
     have HRL:=hid hrl
     have HC4:=hid hc4
     have HV4:=hid hv4
     clear hrl hc4 hv4
     have hk8:IntKind.i64.wrap ((k:Int)+8)=((k+8:Nat):Int):=by rw[IntKind.wrap_i64];omega
     go_wp2_with (first
      | (refine Qad rfl rfl _ _ _ rfl _ _ _ _ h4 rfl ?hl rfl (by kernel_rfl) ?_;(case hl=>rw[QGr,HRL.out,HPL.out];omega);intro v w2 hv hb2 ho2;simp[go_sem]at hv;subst hv)
      | fail)
     go_roundw
     case rel=>
      rw[Ql5]at hb2
      exact⟨k+1,by omega,by go_num,h1.only ho2 (by omega),h2.only ho2 (by omega),h3.only ho2 (by omega),by rw[HS.out];exact hb2,L.only ho2 (by omega)⟩
     case measure=>simp[intOf];omega
  ·rw[show k=8 by omega,HP.out]at h4
   have hkf:decide ((k:Int)<8)=false:=by simp;omega
   go_wp2_with (first
    | (refine QnF rfl _ rfl h4 rfl ?_)
    | (go_at_call 137;(with_reducible refine (HF.out _).mono ?_);rintro e w7 ⟨rfl,hl7⟩)
    | (refine Qaw rfl rfl _ _ rfl (h3.later hl7) rfl rfl rfl ?_;intro w9 hb9 ho9)
    | fail)
   exact bodyPost_ret (Qmd rfl hb9 rfl) rfl ⟨rfl,(L.trans hl7).only ho9 (by omega)⟩
theorem QyO (a:Nat) (w:World):
 Calls Tryz.prog 138 #[NN a,NN 38] w fun e w'=>e= .returned (.tuple #[NN (a+T256-38),.bool (owed B32 a 38 8==1)])∧Later w w':=QjR a 38 (by decide) w
set_option maxRecDepth 100000 in
set_option maxHeartbeats 2000000 in
theorem QAs (a b:Nat) (ha:a<T256) (hb:b<T256) (w:World):
 Calls Tryz.prog 106 #[NN a,NN b] w fun e w'=>e= .returned (NN ((a+(P25-b%P25))%P25))∧Later w w':=by
 have h1:Blk (((w.alloc (.cells (NL a).toArray 225)).alloc (.cells (NL b).toArray 225)).alloc (.cells (QGn 8 (.int .u32 0)).toArray 225)) w.heap.size 225 (NL a):=((Blk.new _ _ _).later (Qaa _ _)).later (Qaa _ _)
 have h2:Blk (((w.alloc (.cells (NL a).toArray 225)).alloc (.cells (NL b).toArray 225)).alloc (.cells (QGn 8 (.int .u32 0)).toArray 225)) (w.heap.size+1) 225 (NL b):=(Blk.new' _ _ (NL b) (by simp)).later (Qaa _ _)
 have h3:Blk (((w.alloc (.cells (NL a).toArray 225)).alloc (.cells (NL b).toArray 225)).alloc (.cells (QGn 8 (.int .u32 0)).toArray 225)) (w.heap.size+1+1) 225 (QGn 8 (.int .u32 0)):=Blk.new' _ _ (QGn 8 (Value.int .u32 0)) (by simp)
 have L:Later w (((w.alloc (.cells (NL a).toArray 225)).alloc (.cells (NL b).toArray 225)).alloc (.cells (QGn 8 (.int .u32 0)).toArray 225)):=((Qaa _ _).trans (Qaa _ _)).trans (Qaa _ _)
 have hmin:=fun w=>QjR (a%P25) (b%P25) (QHr (QGU _ Qbp) (by decide)) w
 rw[QqI _ _ 8 (by rw[Qfb];exact QHr (QGU _ Qbp) (by decide)) (by rw[Qfb];exact QHr (QGU _ Qbp) (by decide))]at hmin
 have HMIN:=hid hmin
 clear hmin
 go_enter Tryz.func106,Tryz.ntmps106
 go_wp2_with fail
 refine QaC [0,2] [([],1,1),([],1,3),([],1,4),([5,6,7],2,8)] [] [9,10] [8] (fun _=>(fun g=>.pointer (some ⟨g,0,none⟩),.cells (QGn 8 (Value.int .u32 0)).toArray 225)) (by as_aux_lemma=>kernel_rfl) (by as_aux_lemma=>kernel_rfl) (by intro _ _ d _ _ h;cases d<;>exact h) (by intro _ _ d _ _ h;cases d<;>exact h) ?_
 simp only[pick,QGo,QGp,QGs,QGu,QGv]
 repeat (first|go_big_quiet_skip|(go_big_quiet_want;(first|refine QbF _ rfl h1.drew rfl ?_|refine QbF _ rfl h2.drew rfl ?_);simp only[Act.put,QGw,QGB,QGz];go_big_quiet_on)|(go_big_quiet_step (fail)))
 refine wpQuiet_nil ?_
 refine⟨?mk,?_⟩
 case mk=>
  refine⟨fun o ho=>?_,trivial⟩
  simp only[QGo,QGp,Option.some.injEq]at ho
  subst ho
  refine⟨rfl,fun W=>?_⟩
  unfold execOp
  simp[go_sem]
 simp only[Qbu,pick,QGo,QGp,QGs,QGu,QGv]
 refine wpQuiet_nil ?_
 intro v1 j1
 go_wp2_with fail
 (with_reducible refine (Qej a ha _).mono ?_);rintro e v2 ⟨rfl,j2⟩
 go_wp2_with fail
 try refine⟨by first|assumption|exact Qab _|exact Qaa _ _|exact Later.refl _,?_⟩
 try simp only[Qaj,pick,QGo,QGp,QGs,QGu,QGv]
 repeat (go_big_quiet_step (fail))
 refine wpQuiet_nil ?_
 intro v3 j3
 go_wp2_with fail
 (with_reducible refine (Qej b hb _).mono ?_);rintro e v4 ⟨rfl,j4⟩
 go_wp2_with fail
 try refine⟨by first|assumption|exact Qab _|exact Qaa _ _|exact Later.refl _,?_⟩
 try simp only[Qaj,pick,QGo,QGp,QGs,QGu,QGv]
 repeat (go_big_quiet_step (fail))
 refine wpQuiet_nil ?_
 intro v5 j5
 go_wp2_with fail
 (with_reducible refine (HMIN.out _).mono ?_);rintro e v6 ⟨rfl,j6⟩
 obtain⟨X,hX⟩:∃X:Bool,X=((if a%P25<b%P25 then 1 else 0)==1):=⟨_,rfl⟩
 rw[←hX]
 have HX:=hid hX
 clear hX
 go_wp2_with fail
 try refine⟨by first|assumption|exact Qab _|exact Qaa _ _|exact Later.refl _,?_⟩
 try simp only[Qaj,pick,QGo,QGp,QGs,QGu,QGv]
 repeat (go_big_quiet_step (fail))
 refine wpQuiet_nil ?_
 intro v7 g7 j7 hg7 _ hb7
 refine wpQuiet_nil ?_
 intro v8 j8
 have Lr:=(((((((Qab _).trans j1).trans j2).trans j3).trans j4).trans j5).trans j6).trans (j7.trans j8)
 have hB:Blk v8 g7 225 (QGn 8 (Value.int .u32 0)):=Blk.later hb7 j8
 have hR:=h3.later Lr
 have hlt3:w.heap.size+1+1<g7:=QGN h3.lt hg7
 have L8:=L.trans Lr
 clear h1 h2 h3 j1 j2 j3 j4 j5 j6 j7 j8 hb7 Lr L
 have hap:a%P25<P25:=QGU _ Qbp
 have hbp:b%P25<P25:=QGU _ Qbp
 have hres:(a+(P25-b%P25))%P25=(a%P25+(P25-b%P25))%P25:=by rw[Nat.mod_add_mod]
 have HRES:=hid hres
 clear hres
 rcases QHb (a%P25) (b%P25) with hmp|hmp
 ·obtain rfl:X=true:=by rw[HX.out,if_pos hmp];rfl
  have hfin:(a%P25+T256-b%P25-38)%P25=(a%P25+(P25-b%P25))%P25:=by unfold T256 P25 at *;omega
  have hc1:NL (a%P25+T256-b%P25+T256-38)=NL (a%P25+T256-b%P25-38):=Qom (by unfold T256 P25 at *;omega)
  have hbd:a%P25+T256-b%P25-38<T256:=by omega
  have HC:=hid hc1
  have HFN:=hid hfin
  clear hc1 hfin hap hbp
  generalize a%P25+T256-b%P25=y at *
  go_wp2_with (first
   | (refine Qaw rfl rfl _ _ rfl hB rfl rfl rfl ?_;intro w1 hb1 ho1
      have hR1:=hR.only ho1 (by omega)
      have L1:=L8.only ho1 (by have:=L8.size;omega))
   | (refine Qa6 rfl _ rfl hb1 rfl ?_)
   | (refine Qap rfl 225 _ rfl (NL 38) ?hb ?_;(case hb=>kernel_rfl))
   | (go_at_call 138;(with_reducible refine (QyO y _).mono ?_);rintro e w2 ⟨rfl,hl2⟩)
   | (refine Qaw rfl rfl _ _ rfl (hb1.later hl2) rfl rfl (Qay _) ?_;intro w3 hb3 ho3
      rw[HC.out]at hb3
      have hR3:=(hR1.later hl2).only ho3 (by omega)
      have L3:=(L1.trans hl2).only ho3 (by have:=L8.size;omega))
   | (refine Qa6 rfl _ rfl hb3 rfl ?_)
   | (go_at_call 135;(with_reducible refine (Qej _ hbd _).mono ?_);rintro e w4 ⟨rfl,hl4⟩)
   | (refine Qaw rfl rfl _ _ rfl (hR3.later hl4) rfl rfl rfl ?_;intro w5 hb5 ho5)
   | fail)
  exact bodyPost_ret (Qmd rfl hb5 rfl) rfl ⟨by rw[HRES.out,←HFN.out],(L3.trans hl4).only ho5 (by omega)⟩
 ·obtain rfl:X=false:=by rw[HX.out,if_neg (by omega)];rfl
  have hfin:(a%P25-b%P25)%P25=(a%P25+(P25-b%P25))%P25:=by unfold T256 P25 at *;omega
  have hc1:NL (a%P25+T256-b%P25)=NL (a%P25-b%P25):=Qom (by unfold T256 P25 at *;omega)
  have hbd:a%P25-b%P25<T256:=by unfold T256 P25 at *;omega
  have HC:=hid hc1
  have HFN:=hid hfin
  clear hc1 hfin hap hbp
  generalize a%P25+T256-b%P25=y at *
  generalize a%P25-b%P25=z at *
  go_wp2_with (first
   | (refine Qaw rfl rfl _ _ rfl hB rfl rfl rfl ?_;intro w1 hb1 ho1
      rw[HC.out]at hb1
      have hR1:=hR.only ho1 (by omega)
      have L1:=L8.only ho1 (by have:=L8.size;omega))
   | (refine Qa6 rfl _ rfl hb1 rfl ?_)
   | (go_at_call 135;(with_reducible refine (Qej _ hbd _).mono ?_);rintro e w4 ⟨rfl,hl4⟩)
   | (refine Qaw rfl rfl _ _ rfl (hR1.later hl4) rfl rfl rfl ?_;intro w5 hb5 ho5)
   | fail)
  exact bodyPost_ret (Qmd rfl hb5 rfl) rfl ⟨by rw[HRES.out,←HFN.out],(L1.trans hl4).only ho5 (by omega)⟩
end Go.Proofs.YtdhgpkdjdmlphaaGreat
