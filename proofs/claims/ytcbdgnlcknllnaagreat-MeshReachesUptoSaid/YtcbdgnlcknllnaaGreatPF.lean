/-
  Lemmas for the last text of this claim (part 6 of 20).
-/
import Derived.BigQuiet
import Derived.BigRegion
import Derived.ChangeOld
import Derived.Deep.RegionWith
import Derived.DeepKeys4
import Derived.JoinedCond
import Derived.LaidMore
import Derived.Laws.CopyOwn
import Derived.Laws.Externs
import Derived.Laws.IdiomStrings
import Derived.Laws.Tables
import Derived.Lib.AppendStr
import Derived.Lib.AppendZerosOnto
import Derived.Lib.Mul64
import Derived.Lib.SlBytesConst
import Derived.LoopN
import Derived.Maps.OwnSet
import Derived.OpenShut
import Derived.OrdersHeld
import Derived.ProofKit
import Derived.Shelf.Spec.BitsCarry
import Derived.ShutString
import Derived.Test.YtcbdgnlcknllnaaGreatProg
import Derived.Test.YtcbdgnlcknllnaaGreatRows
import Derived.WalkKit
import Derived.WalkLawsBesides
import Derived.WalkSpells
open List renaming replicate → QFu, getElem?_cons_succ → QFv, cons_append → QFy, getElem?_eq_getElem → QFB, getD_eq_getElem?_getD → QFC, set_cons_zero → QFG, set_cons_succ → QFH, getElem?_append_right → QFK, append_assoc → QFL, mem_cons → QFP, length_take → QFY, take_succ_eq_append_getElem → QF5, set_append_right → QF9, length_set → QGd, getElem?_eq_none → QGm, length_cons → QGo, drop_of_length_le → QGw, getElem_mem → QGy, drop_eq_getElem_cons → QGA, getElem?_drop → QGR, getElem?_replicate → QHe, replicate_succ → QHv
open Nat renaming le_refl → QFE, mod_eq_of_lt → QFT, zero_add → QFX, mod_lt → QF1, div_div_eq_div_mul → QGj, div_eq_of_lt → QGn, pow_succ → QGs, div_lt_of_lt_mul → QGz, div_add_mod → QGB, lt_or_ge → QGE, min_eq_left → QGG, mul_assoc → QGO, mul_add → QGP, pow_add → QGW, mul_le_mul_left → QG2, mod_mod → QG3, add_zero → QG6, add_mul_div_left → QG7, mul_one → QHj, pow_succ' → QHo, add_comm → QHr, pow_pos → QHw, add_assoc → QHx, mul_left_comm → QHD, zero_mul → QHJ, add_mod → QHL, mod_one → QHP
namespace Go.Proofs.YtcbdgnlcknllnaaGreat
def val (B:Nat):List Nat→Nat
 | []=>0
 | x :: l=>x+B*val B l
def dig (B:Nat):Nat→Nat→List Nat
 | 0,_=>[]
 | k+1,n=>n%B :: dig B k (n/B)
theorem QaT (B:Nat):∀k n,(dig B k n).length=k
 | 0,_=>rfl
 | k+1,n=>by rw[dig,QGo,QaT B k]
theorem QeI (B:Nat):∀k n,val B (dig B k n)=n%B^k
 | 0,n=>by simp[dig,val,QHP]
 | k+1,n=>by rw[dig,val,QeI B k,QHo,Nat.mod_mul]
theorem Qeu {B:Nat} (hB:0<B):∀k n,∀x∈dig B k n,x<B
 | 0,_,x,h=>by cases h
 | k+1,n,x,h=>by
   rcases QFP.1 h with rfl|h
   ·exact QF1 _ hB
   ·exact Qeu hB k _ x h
theorem QlQ {B:Nat}:∀l:List Nat,(∀ x∈l,x<B)→dig B l.length (val B l)=l
 | [],_=>rfl
 | x :: l,h=>by
   have hx:x<B:=h x (by simp)
   rw[QGo,val,dig,Nat.add_mul_mod_self_left,QFT hx,QG7 _ _ (by omega),QGn hx,QFX,QlQ l (fun y hy=>h y (by simp[hy]))]
theorem Qy3 {B:Nat}:∀l:List Nat,(∀ x∈l,x<B)→val B l<B^l.length
 | [],_=>by simp[val]
 | x :: l,h=>by
   have hx:x<B:=h x (by simp)
   have:=Qy3 l (fun y hy=>h y (by simp[hy]))
   rw[val,QGo,QHo]
   have h2:B*(val B l+1)≤B*B^l.length:=QG2 B this
   rw[QGP,QHj]at h2
   omega
theorem QgF (B:Nat):∀k n i,i<k→(dig B k n)[i]?=some (n/B^i%B)
 | 0,_,_,h=>by omega
 | k+1,n,0,_=>by simp[dig]
 | k+1,n,i+1,h=>by
   rw[dig,QFv,QgF B k _ i (by omega),QGj,←QHo]
theorem QdN (B k n i:Nat) (h:i<k):(dig B k n).getD i 0=n/B^i%B:=by
 rw[QFC,QgF B k n i h]
 rfl
theorem Qf1 (B:Nat):∀k n,dig B (k+1) n=dig B k n++[n/B^k%B]
 | 0,n=>by simp[dig]
 | k+1,n=>by
   rw[dig,Qf1 B k (n/B),dig,QFy,QGj,←QHo]
theorem Qhu (B:Nat):∀l m:List Nat,val B (l++m)=val B l+B^l.length*val B m
 | [],m=>by simp[val]
 | x :: l,m=>by
   rw[QFy,val,Qhu B l m,val,QGo,QHo,QGP,QGO,QHx]
theorem Qn2 (B:Nat):∀(l:List Nat) (i v:Nat),i<l.length→val B (l.set i v)+B^i*l.getD i 0=val B l+B^i*v
 | [],_,_,h=>by simp at h
 | x :: l,0,v,_=>by simp[val];omega
 | x :: l,i+1,v,h=>by
   have ih:=Qn2 B l i v (by simpa using h)
   have e1:B*(val B (l.set i v)+B^i*l.getD i 0)=B*(val B l+B^i*v):=by rw[ih]
   rw[QFH,val,val,List.getD_cons_succ,QHo,QGO,QGO]
   rw[QGP,QGP]at e1
   omega
theorem QmM (B:Nat):∀n,val B (QFu n 0)=0
 | 0=>rfl
 | n+1=>by rw[QHv,val,QmM B n,Nat.mul_zero]
theorem QgL {B:Nat}:∀k n,dig B k (n%B^k)=dig B k n
 | 0,_=>rfl
 | k+1,n=>by
   rw[dig,dig,QHo,Nat.mod_mul_right_mod,Nat.mod_mul_right_div_self,QgL k]
theorem QtG {B k n m:Nat} (hn:n<B^k) (hm:m<B^k) (h:dig B k n=dig B k m):n=m:=by
 have:=QeI B k n
 rw[h,QeI,QFT hn,QFT hm]at this
 exact this.symm
def carr (B a b c k:Nat):Nat:=(a%B^k+b%B^k+c)/B^k
theorem Qm7 (B a b c:Nat):carr B a b c 0=c:=by simp[carr,QHP]
theorem Qcc (B a k:Nat):a%B^(k+1)=a%B^k+B^k*(a/B^k%B):=by rw[QGs,Nat.mod_mul]
theorem QiZ {B:Nat} (hB:0<B) (a b c k:Nat):(a/B^k%B+b/B^k%B+carr B a b c k)/B=carr B a b c (k+1):=by
 have hp:0<B^k:=QHw hB
 rw[carr,carr,Qcc,Qcc,QGs,←QGj]
 congr 1
 have e:a%B^k+B^k*(a/B^k%B)+(b%B^k+B^k*(b/B^k%B))+c=(a%B^k+b%B^k+c)+B^k*(a/B^k%B+b/B^k%B):=by rw[QGP];omega
 rw[e,QG7 _ _ hp,QHr]
theorem Qoc {B:Nat} (hB:0<B) (a b c k:Nat):(a/B^k%B+b/B^k%B+carr B a b c k)%B=(a+b+c)/B^k%B:=by
 have hp:0<B^k:=QHw hB
 have ea:=QGB a (B^k)
 have eb:=QGB b (B^k)
 have e:a+b+c=(a%B^k+b%B^k+c)+B^k*(a/B^k+b/B^k):=by rw[QGP];omega
 rw[e,QG7 _ _ hp,←carr,QHL,QHL (a/B^k%B),QG3,QG3,←QHL (a/B^k),←QHL,QHr]
theorem QoN {B:Nat} (hB:0<B) (a b c k:Nat) (hc:c≤1):carr B a b c k≤1:=by
 have hp:0<B^k:=QHw hB
 rw[carr]
 refine Nat.le_of_lt_succ (QGz ?_)
 have:=QF1 a hp
 have:=QF1 b hp
 omega
theorem QxW {B:Nat} (a b c k:Nat) (ha:a<B^k) (hb:b<B^k):carr B a b c k=(a+b+c)/B^k:=by rw[carr,QFT ha,QFT hb]
def owed (B a b k:Nat):Nat:=if a%B^k<b%B^k then 1 else 0
theorem Qne (B a b:Nat):owed B a b 0=0:=by simp[owed,QHP]
theorem Qlv (B a b k:Nat):owed B a b k≤1:=by
 unfold owed
 split<;>omega
theorem QnV {B:Nat} (hB:0<B) (a b k:Nat):owed B a b (k+1)=if a/B^k%B<b/B^k%B+owed B a b k then 1 else 0:=by
 have hp:0<B^k:=QHw hB
 rw[owed,owed,Qcc,Qcc]
 have ha:=QF1 a hp
 have hb:=QF1 b hp
 generalize a%B^k=x at *
 generalize b%B^k=y at *
 generalize a/B^k%B=p at *
 generalize b/B^k%B=q at *
 generalize B^k=M at *
 have e:∀p q:Nat,p+1≤q→M*p+M≤M*q:=fun p q h=>by
  have:=QG2 M h
  rwa [QGP,QHj]at this
 rcases Nat.lt_trichotomy p q with h|h|h
 ·have:=e p q h
  rw[if_pos (by omega),if_pos (by split<;>omega)]
 ·subst h
  by_cases hxy:x<y
  ·rw[if_pos (by omega),if_pos (by rw[if_pos hxy];omega)]
  ·rw[if_neg (by omega),if_neg (by rw[if_neg hxy];omega)]
 ·have:=e q p h
  rw[if_neg (by omega),if_neg (by split<;>omega)]
theorem Qw9 (a b M N qa ra qb rb w:Nat) (ea:M*qa+ra=a) (eb:M*qb+rb=b) (hb:rb<M) (ha:ra<M) (hq:qb+1≤N) (hw:w=if ra<rb then 1 else 0):
 a+M*N-b=(ra+w*M-rb)+M*(qa+N-qb-w)∧ra+w*M-rb<M:=by
 obtain⟨t,rfl⟩:∃t,N=qb+1+t:=⟨N-qb-1,by omega⟩
 subst ea
 subst eb
 subst hw
 by_cases h:ra<rb
 ·rw[if_pos h,show qa+(qb+1+t)-qb-1=qa+t by omega]
  simp only[QGP,QHj,Nat.one_mul]
  omega
 ·rw[if_neg h,show qa+(qb+1+t)-qb-0=qa+1+t by omega]
  simp only[QGP,QHj,QHJ]
  omega
theorem Qqm {B:Nat} (hB:0<B) (a b k n:Nat) (hk:k<n) (hb:b<B^n):(a/B^k%B+B-b/B^k%B-owed B a b k)%B=(a+B^n-b)/B^k%B:=by
 have hp:0<B^k:=QHw hB
 obtain⟨m,rfl⟩:∃m,n=k+(m+1):=⟨n-k-1,by omega⟩
 have hbk:b/B^k<B^(m+1):=by
  rw[QGW]at hb
  exact QGz hb
 obtain⟨key,hr⟩:=Qw9 a b (B^k) (B^(m+1)) (a/B^k) (a%B^k) (b/B^k) (b%B^k) (owed B a b k) (QGB a _) (QGB b _) (QF1 b hp) (QF1 a hp) hbk rfl
 rw[←QGW]at key
 rw[key,QG7 _ _ hp,QGn hr,QFX]
 have hq:b/B^k%B<B:=QF1 _ hB
 have e3:=QGB (a/B^k) B
 have e4:=QGB (b/B^k) B
 have hle:b/B^k/B<B^m:=QGz (by rw[QHo]at hbk;exact hbk)
 have hol:=Qlv B a b k
 have key2:a/B^k+B^(m+1)-b/B^k-owed B a b k=(a/B^k%B+B-b/B^k%B-owed B a b k)+B*(a/B^k/B+B^m-b/B^k/B-1):=by
  rw[QHo,Nat.mul_sub,Nat.mul_sub,QGP,QHj]
  have e1:B*(b/B^k/B)+B≤B*B^m:=by
   have:=QG2 B hle
   rwa [Nat.succ_eq_add_one,QGP,QHj]at this
  omega
 rw[key2,Nat.add_mul_mod_self_left]
theorem Qqy {B:Nat} (a b k:Nat) (ha:a<B^k) (hb:b<B^k):owed B a b k=if a<b then 1 else 0:=by rw[owed,QFT ha,QFT hb]
def QbK {α:Type} (S A:List α) (k:Nat):List α:=S.take k++A.drop k
theorem QaD {α:Type} (S A:List α) (k:Nat) (h:S.length=A.length):(QbK S A k).length=A.length:=by
 simp[QbK,h]
 omega
theorem Qbw {α:Type} (S A:List α):QbK S A 0=A:=by simp[QbK]
theorem Qb7 {α:Type} (S A:List α) (k:Nat) (h:S.length=k) (h2:A.length=k):QbK S A k=S:=by simp[QbK,←h,QGw,h2]
theorem QeW {α:Type} (S A:List α) (k j:Nat) (h:S.length=A.length) (hk:k≤j) (hj:j<A.length):(QbK S A k)[j]?=A[j]?:=by
 rw[QbK,QFK (by simp;omega),QGR]
 congr 1
 simp
 omega
theorem Qa3 {α:Type} (S A:List α) (k:Nat) (v:α) (h:S.length=A.length) (hk:k<A.length) (hv:S[k]?=some v):(QbK S A k).set k v=QbK S A (k+1):=by
 rw[QbK,QbK,QF9 _ _ (by simp;omega),List.take_add_one,hv,QFL]
 congr 1
 rw[QGA hk]
 have:k-(S.take k).length=0:=by simp;omega
 rw[this,QFG]
 rfl
def QbB (B x:Nat) (ys ws:List Nat) (i:Nat):Nat→List Nat×Nat
 | 0=>(ws,0)
 | j+1=>((QbB B x ys ws i j).1.set (i+j) ((x*ys.getD j 0+(QbB B x ys ws i j).1.getD (i+j) 0+(QbB B x ys ws i j).2)%B),
    (x*ys.getD j 0+(QbB B x ys ws i j).1.getD (i+j) 0+(QbB B x ys ws i j).2)/B)
theorem QcV (B x:Nat) (ys ws:List Nat) (i:Nat):∀j,(QbB B x ys ws i j).1.length=ws.length
 | 0=>rfl
 | j+1=>by rw[QbB,QGd,QcV]
theorem Qyn {B:Nat} {l:List Nat} (h:∀x∈l,x<B) (i v:Nat) (hv:v<B):∀x∈l.set i v,x<B:=by
 intro x hx
 rcases List.mem_or_eq_of_mem_set hx with hx|rfl
 ·exact h x hx
 ·exact hv
theorem Qje {B:Nat} (hB:0<B) {l:List Nat} (h:∀x∈l,x<B) (i:Nat):l.getD i 0<B:=by
 rw[QFC]
 rcases QGE i l.length with hi|hi
 ·rw[QFB hi]
  exact h _ (QGy hi)
 ·rw[QGm hi]
  exact hB
theorem QCv {B x y w c:Nat} (hx:x<B) (hy:y<B) (hw:w<B) (hc:c<B):(x*y+w+c)/B<B:=by
 refine QGz ?_
 have h1:x*y≤(B-1)*(B-1):=Nat.mul_le_mul (by omega) (by omega)
 have h2:(B-1)*(B-1)+(B-1)+(B-1)<B*B:=by
  obtain⟨k,rfl⟩:∃k,B=k+1:=⟨B-1,by omega⟩
  rw[Nat.add_sub_cancel,Nat.add_mul,QGP]
  omega
 omega
theorem Qiy {B:Nat} (x:Nat) (ys ws:List Nat) (i:Nat) (hx:x<B) (hy:∀y∈ys,y<B) (hw:∀y∈ws,y<B):∀j,(∀ y∈(QbB B x ys ws i j).1,y<B)∧(QbB B x ys ws i j).2<B
 | 0=>⟨hw,by rw[QbB];omega⟩
 | j+1=>by
   have hB:0<B:=by omega
   obtain⟨h1,h2⟩:=Qiy x ys ws i hx hy hw j
   exact⟨Qyn h1 _ _ (QF1 _ hB),QCv hx (Qje hB hy j) (Qje hB h1 _) h2⟩
theorem Qjv (B x:Nat) (ys ws:List Nat) (i k:Nat):∀j,i+j≤k→(QbB B x ys ws i j).1[k]?=ws[k]?
 | 0,_=>rfl
 | j+1,h=>by rw[QbB,List.getElem?_set_ne (by omega),Qjv B x ys ws i k j (by omega)]
theorem Qfk (B:Nat) (l:List Nat) (k:Nat) (h:k<l.length):val B (l.take (k+1))=val B (l.take k)+B^k*l.getD k 0:=by
 rw[QF5 h,Qhu,QFY,QGG (by omega),QFC,QFB h]
 simp[val]
theorem QnI {B:Nat} (x:Nat) (ys ws:List Nat) (i:Nat):∀j,j≤ys.length→i+j≤ws.length→
 val B (QbB B x ys ws i j).1+B^(i+j)*(QbB B x ys ws i j).2=val B ws+B^i*(x*val B (ys.take j))
 | 0,_,_=>by simp[QbB,val]
 | j+1,h1,h2=>by
   have ih:=QnI (B:=B) x ys ws i j (by omega) (by omega)
   have hs:=Qn2 B (QbB B x ys ws i j).1 (i+j) ((x*ys.getD j 0+(QbB B x ys ws i j).1.getD (i+j) 0+(QbB B x ys ws i j).2)%B) (by rw[QcV];omega)
   have hd:=QGB (x*ys.getD j 0+(QbB B x ys ws i j).1.getD (i+j) 0+(QbB B x ys ws i j).2) B
   rw[QbB,Qfk B ys j (by omega)]
   simp only
   generalize (QbB B x ys ws i j).1.getD (i+j) 0=w at *
   generalize (QbB B x ys ws i j).2=c at *
   generalize ys.getD j 0=y at *
   generalize (x*y+w+c)/B=q at *
   generalize (x*y+w+c)%B=r at *
   generalize val B ((QbB B x ys ws i j).1.set (i+j) r)=V at *
   generalize val B (QbB B x ys ws i j).1=U at *
   generalize val B (ys.take j)=Y at *
   generalize val B ws=W at *
   have e1:B^(i+(j+1))=B^(i+j)*B:=by rw[←QHx,QGs]
   have e2:B^i*(x*(Y+B^j*y))=B^i*(x*Y)+B^(i+j)*(x*y):=by
    rw[QGW,QGP,QGP]
    congr 1
    rw[QGO,QHD x]
   have e3:B^(i+j)*(B*q+r)=B^(i+j)*(x*y+w+c):=by rw[hd]
   rw[e1,e2,QGO]
   rw[QGP,QGP,QGP]at e3
   generalize B^(i+j)*(B*q)=A1 at *
   generalize B^(i+j)*r=A2 at *
   generalize B^(i+j)*(x*y)=A3 at *
   generalize B^(i+j)*w=A4 at *
   generalize B^(i+j)*c=A5 at *
   generalize B^i*(x*Y)=A6 at *
   omega
def Qb1 (B:Nat) (xs ys:List Nat) (n:Nat):Nat→List Nat
 | 0=>QFu n 0
 | i+1=>(QbB B (xs.getD i 0) ys (Qb1 B xs ys n i) i ys.length).1.set (i+ys.length) (QbB B (xs.getD i 0) ys (Qb1 B xs ys n i) i ys.length).2
theorem Qce (B:Nat) (xs ys:List Nat) (n:Nat):∀i,(Qb1 B xs ys n i).length=n
 | 0=>by simp[Qb1]
 | i+1=>by rw[Qb1,QGd,QcV,Qce]
theorem QfN {B:Nat} (hB:0<B) (xs ys:List Nat) (n:Nat) (hx:∀x∈xs,x<B) (hy:∀y∈ys,y<B):∀i,∀w∈Qb1 B xs ys n i,w<B
 | 0,w,h=>by
   have:=List.eq_of_mem_replicate h
   omega
 | i+1,w,h=>by
   have:=Qiy (xs.getD i 0) ys (Qb1 B xs ys n i) i (Qje hB hx i) hy (QfN hB xs ys n hx hy i) ys.length
   exact Qyn this.1 _ _ this.2 w h
theorem QkT (B:Nat) (xs ys:List Nat) (n k:Nat):∀i,i+ys.length≤k→k<n→(Qb1 B xs ys n i)[k]?=some 0
 | 0,_,hk=>by rw[Qb1,QHe,if_pos hk]
 | i+1,h,hk=>by rw[Qb1,List.getElem?_set_ne (by omega),Qjv _ _ _ _ _ _ _ (by omega),QkT B xs ys n k i (by omega) hk]
theorem QhK {B:Nat} (xs ys:List Nat) (n:Nat):∀i,i≤xs.length→i+ys.length≤n→val B (Qb1 B xs ys n i)=val B (xs.take i)*val B ys
 | 0,_,_=>by simp[Qb1,QmM,val]
 | i+1,h1,h2=>by
   have ih:=QhK (B:=B) xs ys n i (by omega) (by omega)
   have hr:=QnI (B:=B) (xs.getD i 0) ys (Qb1 B xs ys n i) i ys.length (QFE _) (by rw[Qce];omega)
   have hf:=Qjv B (xs.getD i 0) ys (Qb1 B xs ys n i) i (i+ys.length) ys.length (QFE _)
   rw[QkT B xs ys n _ i (QFE _) (by omega)]at hf
   have hs:=Qn2 B (QbB B (xs.getD i 0) ys (Qb1 B xs ys n i) i ys.length).1 (i+ys.length) (QbB B (xs.getD i 0) ys (Qb1 B xs ys n i) i ys.length).2 (by rw[QcV,Qce];omega)
   have hf':(QbB B (xs.getD i 0) ys (Qb1 B xs ys n i) i ys.length).1.getD (i+ys.length) 0=0:=by rw[QFC,hf];rfl
   rw[hf',Nat.mul_zero,QG6,hr,ih,List.take_length]at hs
   rw[Qb1,hs,Qfk B xs i (by omega),Nat.add_mul,QGO]
end Go.Proofs.YtcbdgnlcknllnaaGreat
