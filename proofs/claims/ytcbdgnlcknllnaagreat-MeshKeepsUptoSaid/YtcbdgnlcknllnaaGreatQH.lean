/-
  Lemmas for the last text of this claim (part 8 of 20).
-/
import Derived.ArgAppend
import Derived.BigQuiet
import Derived.BigRegion
import Derived.ChangeOld
import Derived.Deep.RegionWith
import Derived.DeepKeys4
import Derived.JoinedCond
import Derived.LaidMore
import Derived.Laws.CopyOwn
import Derived.Laws.Externs
import Derived.Laws.IdiomStrings
import Derived.Laws.Tables
import Derived.Lib.AppendStr
import Derived.Lib.AppendZerosOnto
import Derived.Lib.Mul64
import Derived.Lib.SlBytesConst
import Derived.LoopN
import Derived.Maps.OwnSet
import Derived.OpenShut
import Derived.OrdersHeld
import Derived.ProofKit
import Derived.Shelf.Spec.BitsCarry
import Derived.ShutString
import Derived.Test.YtcbdgnlcknllnaaGreatProg
import Derived.Test.YtcbdgnlcknllnaaGreatRows
import Derived.WalkKit
import Derived.WalkLawsBesides
import Derived.WalkSpells
import Derived.Test.YtcbdgnlcknllnaaGreatQG
open BitVec renaming toNat_ushiftRight → Qzy, toNat_shiftLeft → QzU
open Bool renaming and_eq_true → QyH, eq_iff_iff → Qy7, or_eq_true → QAn
open List renaming replicate → Qyl, getElem?_cons_succ → Qym, getElem?_cons_zero → Qyn, length_map → Qyo, getElem?_eq_getElem → Qyq, nil_append → Qyr, cons_append → Qys, getD_eq_getElem?_getD → Qyt, setIfInBounds_toArray → Qyu, map_toArray → Qyw, set_cons_zero → Qyx, set_cons_succ → Qyy, take_of_length_le → QyA, getElem?_eq_some_iff → QyB, getElem?_append_right → QyC, map_nil → QyD, getElem?_map → QyF, getElem?_append_left → QyG, mem_cons → QyI, map_cons → QyJ, not_mem_nil → QyN, take_succ_eq_append_getElem → QyR, length_take → QyW, length_set → QyY, map_append → QyZ, range → Qy0, mem_map → Qy1, eq_nil_of_length_eq_zero → Qy4, all_eq_true → Qy6, length_cons → Qzd, drop_of_length_le → Qze, getElem_mem → Qzk, flatMap_cons → Qzl, map_take → Qzp, mem_range → Qzr, mem_singleton → QzI, take_zero → QzK, nodup_cons → QzL, range_succ → QAf
open Nat renaming zero_add → QyE, lt_of_lt_of_le → QyL, mod_eq_of_lt → QyS, mod_lt → QyV, le_trans → QyX, mul_one → Qzb, div_add_mod → Qzm, lt_or_ge → Qzn, div_eq_of_lt → Qzq, shiftRight_eq_div_pow → Qzs, mul_comm → Qzt, div_lt_of_lt_mul → Qzu, div_div_eq_div_mul → Qzv, lt_of_le_of_lt → Qzw, mul_assoc → Qzx, pow_le_pow_right → QzE, add_mul_div_left → QzG, pow_succ → QzH, min_eq_left → QzN, lt_trans → QzT, mul_le_mul_left → QzY, pow_succ' → QzZ, add_zero → Qz3, eq_zero_or_pos → Qz5, shiftLeft_eq → Qz7, pow_add → Qz8, zero_le → QAa, mul_left_comm → QAd, pow_pos → QAl, mul_mod → QAm, add_mod → QAs, pow_mul → QAv, mod_mod → QAw
open Option renaming toList_some → Qyp, map_some → Qzz
open UInt32 renaming ofNat → QyU, toNat_ofNat' → QAe, toNat_inj → QAt
open UInt64 renaming ofInt → Qzf
open UInt8 renaming ofNat → Qy2, toNat_inj → Qz2, toNat_ofNat' → QAj
set_option linter.unusedSimpArgs false
namespace Go.Proofs.YtcbdgnlcknllnaaGreat
def Prm (n:Nat):Prop:=2≤n∧∀d,d ∣ n→d=1∨d=n
def small (n:Nat):Bool:=decide (2≤n)&&(Qy0 n).all fun d=>d≤1||n%d != 0
theorem QjF {n:Nat} (h:small n=true):Prm n:=by
 simp only[small,QyH,decide_eq_true_eq,Qy6,Qzr,QAn,bne_iff_ne]at h
 refine⟨h.1,fun d hd=>?_⟩
 have hle:=Nat.le_of_dvd (by omega) hd
 by_cases he:d=n
 ·exact .inr he
 ·rcases h.2 d (by omega) with h1|h1
  ·rcases Qzn 0 d with h0|h0
   ·exact .inl (by omega)
   ·have:d=0:=by omega
    subst this
    have:=Nat.eq_zero_of_zero_dvd hd
    omega
  ·exact absurd (Nat.mod_eq_zero_of_dvd hd) h1
def pwm (m:Nat):Nat→Nat→Nat→Nat
 | 0,_,_=>1%m
 | f+1,b,e=>if e=0 then 1%m else if e%2=1 then b*pwm m f (b*b%m) (e/2)%m else pwm m f (b*b%m) (e/2)
theorem QdZ (b e m:Nat):(b%m)^e%m=b^e%m:=(Nat.pow_mod b e m).symm
theorem Qll (m:Nat):∀(f b e:Nat),e<2^f→pwm m f b e=b^e%m
 | 0,b,e,h=>by
   obtain rfl:e=0:=by simpa using h
   rfl
 | f+1,b,e,h=>by
   have ih:=Qll m f (b*b%m) (e/2) (by rw[QzH]at h;omega)
   rw[QdZ]at ih
   have hb:(b*b)^(e/2)=b^(2*(e/2)):=by rw[QAv,Nat.pow_two]
   rw[hb]at ih
   rw[pwm]
   split
   ·rename_i h0
    rw[h0]
    rfl
   ·split
    ·rename_i h1
     rw[ih,Nat.mul_mod_mod,←QzZ]
     congr 2
     omega
    ·rw[ih]
     congr 2
     omega
theorem QeF (t:Nat) (ht:1<t):∀fs:List Nat,(∀ q∈fs,Prm q)→t ∣ fs.foldr (· *·) 1→∃q∈fs,q ∣ t
 | [],_,h=>by
   have:=Nat.le_of_dvd (by decide) h
   simp at this
   omega
 | q :: fs,hp,h=>by
   have hq:=hp q (by simp)
   rcases hq.2 (Nat.gcd t q) (Nat.gcd_dvd_right t q) with h1|h1
   ·obtain⟨r,hr,hd⟩:=QeF t ht fs (fun r hr=>hp r (by simp[hr])) (Nat.Coprime.dvd_of_dvd_mul_left h1 h)
    exact⟨r,by simp[hr],hd⟩
   ·exact⟨q,by simp,h1 ▸ Nat.gcd_dvd_left t q⟩
theorem QcV:∀(l m:List Nat),l.Nodup→(∀ x∈l,x∈m)→l.length≤m.length
 | [],_,_,_=>QAa _
 | x :: l,m,h,hs=>by
   rw[QzL]at h
   have hx:=hs x (by simp)
   have:=QcV l (m.erase x) h.2 (fun y hy=>(List.mem_erase_of_ne (fun e=>by subst e;exact h.1 hy)).2 (hs y (by simp[hy])))
   rw[List.length_erase_of_mem hx]at this
   have:=List.length_pos_of_mem hx
   simp only[Qzd]
   omega
theorem Qj5 (l:List Nat) (n:Nat) (hd:l.Nodup) (hl:l.length=n) (hb:∀x∈l,0<x∧x<n+1) (a:Nat) (h0:0<a) (h1:a<n+1):a∈l:=by
 refine Classical.byContradiction fun ha=>?_
 have:=QcV (0 :: a :: l) (Qy0 (n+1)) (by
  rw[QzL,QzL]
  refine⟨?_,ha,hd⟩
  intro h
  rcases QyI.1 h with h|h
  ·omega
  ·have:=hb 0 h
   omega) (by
  intro x hx
  rw[Qzr]
  rcases QyI.1 hx with rfl|hx
  ·omega
  ·rcases QyI.1 hx with rfl|hx
   ·omega
   ·exact (hb x hx).2)
 simp[hl]at this
 omega
theorem QeA {g n k:Nat} (hn:2≤n) (h:g^k%n=1) (j:Nat):g^(k*j)%n=1:=by
 rw[QAv,Nat.pow_mod,h,Nat.one_pow]
 exact QyS (by omega)
theorem Qg1 {a b n:Nat} (ha:a%n=1):a*b%n=b%n:=by
 rw[QAm,ha,Nat.one_mul,QAw]
theorem QdS (f:Nat→Nat):∀n,(∀ i j,i<j→j<n→f i≠f j)→((Qy0 n).map f).Nodup
 | 0,_=>by simp
 | n+1,h=>by
   rw[QAf,QyZ,List.nodup_append]
   refine⟨QdS f n fun i j hi hj=>h i j hi (by omega),by simp,?_⟩
   intro a ha b hb
   obtain⟨i,hi,rfl⟩:=Qy1.1 ha
   rw[Qzr]at hi
   simp only[QyJ,QyD,QzI]at hb
   subst hb
   exact h i n hi (by omega)
theorem QxO (n g:Nat) (fs:List Nat) (hn:2≤n) (hprod:fs.foldr (· *·) 1=n-1) (hpr:∀q∈fs,Prm q) (h1:g^(n-1)%n=1) (h2:∀q∈fs,g^((n-1)/q)%n≠1):
 Prm n∧∀a,a%n≠0→a^(n-1)%n=1:=by
 have hord:∀k,0<k→k<n-1→g^k%n≠1:=by
  intro k
  induction k using Nat.strongRecOn with
  | _ m ih=>
    intro h0 hlt hg
    by_cases hr:(n-1)%m=0
    ·have ht:m*((n-1)/m)=n-1:=Nat.mul_div_cancel' (Nat.dvd_of_mod_eq_zero hr)
     generalize (n-1)/m=t at ht
     have ht1:1<t:=by
      rcases Qzn 1 t with h|h
      ·exact h
      ·have:m*t≤m*1:=QzY m h
       omega
     obtain⟨q,hq,u,hu⟩:=QeF t ht1 fs hpr (by rw[hprod,←ht];exact Nat.dvd_mul_left t m)
     have hqp:=(hpr q hq).1
     refine h2 q hq ?_
     have:(n-1)/q=m*u:=by
      rw[←ht,hu,QAd]
      exact Nat.mul_div_cancel_left _ (by omega)
     rw[this]
     exact QeA hn hg u
    ·refine ih ((n-1)%m) (QyV _ h0) (by omega) (by have:=QyV (n-1) h0;omega) ?_
     have hd:g^(m*((n-1)/m))*g^((n-1)%m)=g^(n-1):=by rw[←Qz8,Qzm]
     have e:=Qg1 (b:=g^((n-1)%m)) (QeA hn hg ((n-1)/m))
     rw[hd,h1]at e
     exact e.symm
 have hinv:∀i,i≤n-1→g^i*g^(n-1-i)%n=1:=by
  intro i hi
  rw[←Qz8,show i+(n-1-i)=n-1 by omega]
  exact h1
 have hnz:∀i,i≤n-1→g^i%n≠0:=by
  intro i hi h
  have:=hinv i hi
  rw[QAm,h,Nat.zero_mul,Nat.zero_mod]at this
  omega
 have hall:∀a,a%n≠0→∃i,i<n-1∧g^i%n=a%n:=by
  intro a ha
  have:=Qj5 ((Qy0 (n-1)).map fun i=>g^i%n) (n-1) (QdS _ _ (by
   intro i j hi hj he
   refine hord (j-i) (by omega) (by omega) ?_
   have e1:g^j=g^i*g^(j-i):=by rw[←Qz8];congr 1;omega
   have e2:=hinv i (by omega)
   have e3:g^(n-1-i)*g^j%n=g^(n-1-i)*g^i%n:=by rw[QAm,←he,←QAm]
   rw[e1,←Qzx,Qzt (g^(n-1-i)),Qg1 e2,e2]at e3
   exact e3)) (by simp) (by
   intro x hx
   obtain⟨i,hi,rfl⟩:=Qy1.1 hx
   rw[Qzr]at hi
   have:=hnz i (by omega)
   have:=QyV (g^i) (show 0<n by omega)
   omega) (a%n) (by omega) (by have:=QyV a (show 0<n by omega);omega)
  obtain⟨i,hi,he⟩:=Qy1.1 this
  exact⟨i,Qzr.1 hi,he⟩
 have hfer:∀a,a%n≠0→a^(n-1)%n=1:=by
  intro a ha
  obtain⟨i,_,he⟩:=hall a ha
  rw[←QdZ,←he,QdZ,←QAv,Qzt]
  exact QeA hn h1 i
 refine⟨⟨hn,fun d hd=>?_⟩,hfer⟩
 by_cases hdn:d=n
 ·exact .inr hdn
 ·refine .inl ?_
  have hle:=Nat.le_of_dvd (by omega) hd
  have hd0:d≠0:=fun h=>by
   subst h
   have:=Nat.eq_zero_of_zero_dvd hd
   omega
  have h3:=hfer d (by rw[QyS (by omega)];exact hd0)
  have h4:d ∣ d^(n-1):=by
   obtain⟨k,hk⟩:∃k,n-1=k+1:=⟨n-2,by omega⟩
   rw[hk,QzH]
   exact Nat.dvd_mul_left d _
  have h5:d ∣ d^(n-1)%n:=(Nat.dvd_mod_iff hd).2 h4
  rw[h3]at h5
  exact Nat.dvd_one.1 h5
def Qv0 (n g:Nat) (fs:List Nat):Bool:=
 decide (2≤n)&&decide (n<2^256)&&(fs.foldr (· *·) 1==n-1)&&(pwm n 256 g (n-1)==1)&&fs.all fun q=>pwm n 256 g ((n-1)/q) != 1
theorem QaU (n g:Nat) (fs:List Nat) (h:Qv0 n g fs=true) (hpr:∀q∈fs,Prm q):Prm n∧∀a,a%n≠0→a^(n-1)%n=1:=by
 simp only[Qv0,QyH,decide_eq_true_eq,beq_iff_eq,Qy6,bne_iff_ne]at h
 obtain⟨⟨⟨⟨h1,h2⟩,h3⟩,h4⟩,h5⟩:=h
 refine QxO n g fs h1 h3 hpr ?_ ?_
 ·rw[Qll _ _ _ _ (by omega)]at h4
  exact h4
 ·intro q hq
  have:=h5 q hq
  rw[Qll _ _ _ _ (Qzw (Nat.div_le_self _ _) (by omega))]at this
  exact this
def Qj0:List Nat:=[2,3,5,7,13,17,19,23,29,31,41,43,47,59,83,97,103,107,127,131,173,223,353,419,479,487,991]
theorem Qac:∀q∈Qj0,Prm q:=fun q hq=>QjF (Qy6.1 (show Qj0.all small=true by decide +kernel) q hq)
theorem Qpv:Prm 32573∧∀a,a%32573≠0→a^(32573-1)%32573=1:=
 QaU 32573 2 [2,2,17,479] (by decide +kernel) (by
  intro q hq
  simp only[QyI,QyN,or_false]at hq
  rcases hq with rfl|rfl|rfl|rfl
  ·exact Qac _ (by decide)
  ·exact Qac _ (by decide)
  ·exact Qac _ (by decide)
  ·exact Qac _ (by decide))
theorem Qpm:Prm 65147∧∀a,a%65147≠0→a^(65147-1)%65147=1:=
 QaU 65147 2 [2,32573] (by decide +kernel) (by
  intro q hq
  simp only[QyI,QyN,or_false]at hq
  rcases hq with rfl|rfl
  ·exact Qac _ (by decide)
  ·exact Qpv.1)
theorem Qpn:Prm 57467∧∀a,a%57467≠0→a^(57467-1)%57467=1:=
 QaU 57467 2 [2,59,487] (by decide +kernel) (by
  intro q hq
  simp only[QyI,QyN,or_false]at hq
  rcases hq with rfl|rfl|rfl
  ·exact Qac _ (by decide)
  ·exact Qac _ (by decide)
  ·exact Qac _ (by decide))
theorem Qml:Prm 132049∧∀a,a%132049≠0→a^(132049-1)%132049=1:=
 QaU 132049 26 [2,2,2,2,3,3,7,131] (by decide +kernel) (by
  intro q hq
  simp only[QyI,QyN,or_false]at hq
  rcases hq with rfl|rfl|rfl|rfl|rfl|rfl|rfl|rfl
  ·exact Qac _ (by decide)
  ·exact Qac _ (by decide)
  ·exact Qac _ (by decide)
  ·exact Qac _ (by decide)
  ·exact Qac _ (by decide)
  ·exact Qac _ (by decide)
  ·exact Qac _ (by decide)
  ·exact Qac _ (by decide))
theorem Qq5:Prm 3727∧∀a,a%3727≠0→a^(3727-1)%3727=1:=
 QaU 3727 3 [2,3,3,3,3,23] (by decide +kernel) (by
  intro q hq
  simp only[QyI,QyN,or_false]at hq
  rcases hq with rfl|rfl|rfl|rfl|rfl|rfl
  ·exact Qac _ (by decide)
  ·exact Qac _ (by decide)
  ·exact Qac _ (by decide)
  ·exact Qac _ (by decide)
  ·exact Qac _ (by decide)
  ·exact Qac _ (by decide))
theorem Qk0:Prm 1923133∧∀a,a%1923133≠0→a^(1923133-1)%1923133=1:=
 QaU 1923133 2 [2,2,3,43,3727] (by decide +kernel) (by
  intro q hq
  simp only[QyI,QyN,or_false]at hq
  rcases hq with rfl|rfl|rfl|rfl|rfl
  ·exact Qac _ (by decide)
  ·exact Qac _ (by decide)
  ·exact Qac _ (by decide)
  ·exact Qac _ (by decide)
  ·exact Qq5.1)
theorem QlJ:Prm 1723∧∀a,a%1723≠0→a^(1723-1)%1723=1:=
 QaU 1723 3 [2,3,7,41] (by decide +kernel) (by
  intro q hq
  simp only[QyI,QyN,or_false]at hq
  rcases hq with rfl|rfl|rfl|rfl
  ·exact Qac _ (by decide)
  ·exact Qac _ (by decide)
  ·exact Qac _ (by decide)
  ·exact Qac _ (by decide))
theorem QmJ:Prm 430751∧∀a,a%430751≠0→a^(430751-1)%430751=1:=
 QaU 430751 17 [2,5,5,5,1723] (by decide +kernel) (by
  intro q hq
  simp only[QyI,QyN,or_false]at hq
  rcases hq with rfl|rfl|rfl|rfl|rfl
  ·exact Qac _ (by decide)
  ·exact Qac _ (by decide)
  ·exact Qac _ (by decide)
  ·exact Qac _ (by decide)
  ·exact QlJ.1)
theorem QrM:Prm 4153∧∀a,a%4153≠0→a^(4153-1)%4153=1:=
 QaU 4153 5 [2,2,2,3,173] (by decide +kernel) (by
  intro q hq
  simp only[QyI,QyN,or_false]at hq
  rcases hq with rfl|rfl|rfl|rfl|rfl
  ·exact Qac _ (by decide)
  ·exact Qac _ (by decide)
  ·exact Qac _ (by decide)
  ·exact Qac _ (by decide)
  ·exact Qac _ (by decide))
theorem QdR:Prm 31757755568855353∧∀a,a%31757755568855353≠0→a^(31757755568855353-1)%31757755568855353=1:=
 QaU 31757755568855353 10 [2,2,2,3,31,107,223,4153,430751] (by decide +kernel) (by
  intro q hq
  simp only[QyI,QyN,or_false]at hq
  rcases hq with rfl|rfl|rfl|rfl|rfl|rfl|rfl|rfl|rfl
  ·exact Qac _ (by decide)
  ·exact Qac _ (by decide)
  ·exact Qac _ (by decide)
  ·exact Qac _ (by decide)
  ·exact Qac _ (by decide)
  ·exact Qac _ (by decide)
  ·exact Qac _ (by decide)
  ·exact QrM.1
  ·exact QmJ.1)
theorem QrG:Prm 9463∧∀a,a%9463≠0→a^(9463-1)%9463=1:=
 QaU 9463 3 [2,3,19,83] (by decide +kernel) (by
  intro q hq
  simp only[QyI,QyN,or_false]at hq
  rcases hq with rfl|rfl|rfl|rfl
  ·exact Qac _ (by decide)
  ·exact Qac _ (by decide)
  ·exact Qac _ (by decide)
  ·exact Qac _ (by decide))
theorem QoZ:Prm 37853∧∀a,a%37853≠0→a^(37853-1)%37853=1:=
 QaU 37853 2 [2,2,9463] (by decide +kernel) (by
  intro q hq
  simp only[QyI,QyN,or_false]at hq
  rcases hq with rfl|rfl|rfl
  ·exact Qac _ (by decide)
  ·exact Qac _ (by decide)
  ·exact QrG.1)
theorem Qpz:Prm 75707∧∀a,a%75707≠0→a^(75707-1)%75707=1:=
 QaU 75707 2 [2,37853] (by decide +kernel) (by
  intro q hq
  simp only[QyI,QyN,or_false]at hq
  rcases hq with rfl|rfl
  ·exact Qac _ (by decide)
  ·exact QoZ.1)
theorem Qr0:Prm 2437∧∀a,a%2437≠0→a^(2437-1)%2437=1:=
 QaU 2437 2 [2,2,3,7,29] (by decide +kernel) (by
  intro q hq
  simp only[QyI,QyN,or_false]at hq
  rcases hq with rfl|rfl|rfl|rfl|rfl
  ·exact Qac _ (by decide)
  ·exact Qac _ (by decide)
  ·exact Qac _ (by decide)
  ·exact Qac _ (by decide)
  ·exact Qac _ (by decide))
theorem Qm5:Prm 569003∧∀a,a%569003≠0→a^(569003-1)%569003=1:=
 QaU 569003 2 [2,7,97,419] (by decide +kernel) (by
  intro q hq
  simp only[QyI,QyN,or_false]at hq
  rcases hq with rfl|rfl|rfl|rfl
  ·exact Qac _ (by decide)
  ·exact Qac _ (by decide)
  ·exact Qac _ (by decide)
  ·exact Qac _ (by decide))
theorem Qhe:Prm 2773320623∧∀a,a%2773320623≠0→a^(2773320623-1)%2773320623=1:=
 QaU 2773320623 5 [2,2437,569003] (by decide +kernel) (by
  intro q hq
  simp only[QyI,QyN,or_false]at hq
  rcases hq with rfl|rfl|rfl
  ·exact Qac _ (by decide)
  ·exact Qr0.1
  ·exact Qm5.1)
theorem QgF:Prm 72106336199∧∀a,a%72106336199≠0→a^(72106336199-1)%72106336199=1:=
 QaU 72106336199 7 [2,13,2773320623] (by decide +kernel) (by
  intro q hq
  simp only[QyI,QyN,or_false]at hq
  rcases hq with rfl|rfl|rfl
  ·exact Qac _ (by decide)
  ·exact Qac _ (by decide)
  ·exact Qhe.1)
theorem QkX:Prm 8574133∧∀a,a%8574133≠0→a^(8574133-1)%8574133=1:=
 QaU 8574133 2 [2,2,3,7,103,991] (by decide +kernel) (by
  intro q hq
  simp only[QyI,QyN,or_false]at hq
  rcases hq with rfl|rfl|rfl|rfl|rfl|rfl
  ·exact Qac _ (by decide)
  ·exact Qac _ (by decide)
  ·exact Qac _ (by decide)
  ·exact Qac _ (by decide)
  ·exact Qac _ (by decide)
  ·exact Qac _ (by decide))
theorem Qd9:Prm 1919519569386763∧∀a,a%1919519569386763≠0→a^(1919519569386763-1)%1919519569386763=1:=
 QaU 1919519569386763 2 [2,3,7,19,47,47,127,8574133] (by decide +kernel) (by
  intro q hq
  simp only[QyI,QyN,or_false]at hq
  rcases hq with rfl|rfl|rfl|rfl|rfl|rfl|rfl|rfl
  ·exact Qac _ (by decide)
  ·exact Qac _ (by decide)
  ·exact Qac _ (by decide)
  ·exact Qac _ (by decide)
  ·exact Qac _ (by decide)
  ·exact Qac _ (by decide)
  ·exact Qac _ (by decide)
  ·exact QkX.1)
theorem Qbu:Prm 75445702479781427272750846543864801∧∀a,a%75445702479781427272750846543864801≠0→a^(75445702479781427272750846543864801-1)%75445702479781427272750846543864801=1:=
 QaU 75445702479781427272750846543864801 7 [2,2,2,2,2,3,3,5,5,75707,72106336199,1919519569386763] (by decide +kernel) (by
  intro q hq
  simp only[QyI,QyN,or_false]at hq
  rcases hq with rfl|rfl|rfl|rfl|rfl|rfl|rfl|rfl|rfl|rfl|rfl|rfl
  ·exact Qac _ (by decide)
  ·exact Qac _ (by decide)
  ·exact Qac _ (by decide)
  ·exact Qac _ (by decide)
  ·exact Qac _ (by decide)
  ·exact Qac _ (by decide)
  ·exact Qac _ (by decide)
  ·exact Qac _ (by decide)
  ·exact Qac _ (by decide)
  ·exact Qpz.1
  ·exact QgF.1
  ·exact Qd9.1)
theorem QaB:Prm 74058212732561358302231226437062788676166966415465897661863160754340907∧∀a,a%74058212732561358302231226437062788676166966415465897661863160754340907≠0→a^(74058212732561358302231226437062788676166966415465897661863160754340907-1)%74058212732561358302231226437062788676166966415465897661863160754340907=1:=
 QaU 74058212732561358302231226437062788676166966415465897661863160754340907 2 [2,3,353,57467,132049,1923133,31757755568855353,75445702479781427272750846543864801] (by decide +kernel) (by
  intro q hq
  simp only[QyI,QyN,or_false]at hq
  rcases hq with rfl|rfl|rfl|rfl|rfl|rfl|rfl|rfl
  ·exact Qac _ (by decide)
  ·exact Qac _ (by decide)
  ·exact Qac _ (by decide)
  ·exact Qpn.1
  ·exact Qml.1
  ·exact Qk0.1
  ·exact QdR.1
  ·exact Qbu.1)
theorem QxG:Prm 57896044618658097711785492504343953926634992332820282019728792003956564819949∧∀a,a%57896044618658097711785492504343953926634992332820282019728792003956564819949≠0→a^(57896044618658097711785492504343953926634992332820282019728792003956564819949-1)%57896044618658097711785492504343953926634992332820282019728792003956564819949=1:=
 QaU 57896044618658097711785492504343953926634992332820282019728792003956564819949 2 [2,2,3,65147,74058212732561358302231226437062788676166966415465897661863160754340907] (by decide +kernel) (by
  intro q hq
  simp only[QyI,QyN,or_false]at hq
  rcases hq with rfl|rfl|rfl|rfl|rfl
  ·exact Qac _ (by decide)
  ·exact Qac _ (by decide)
  ·exact Qac _ (by decide)
  ·exact Qpm.1
  ·exact QaB.1)
end Go.Proofs.YtcbdgnlcknllnaaGreat
namespace Go.Proofs.YtcbdgnlcknllnaaGreat
open Go.RowKit
def num (bs:List UInt8):Nat:=val 256 (bs.map UInt8.toNat)
theorem Qq0 (bs:List UInt8) (j:Nat) (h:j<bs.length):num (bs.drop j)=(bs.getD j 0).toNat+256*num (bs.drop (j+1)):=by
 rw[List.drop_eq_getElem_cons h,num,QyJ,val,num,Qyt,Qyq h]
 rfl
def dn:Nat→Int
 | 0=> -1
 | j+1=>j
theorem Qkj:dn 0= -1:=rfl
theorem Qj2 (j:Nat):dn (j+1)=j:=rfl
theorem Qfc (j:Nat):(j:Int)-1=dn j:=by
 cases j with
 | zero=>rfl
 | succ j=>simp only[dn];omega
theorem Qox (x:UInt8) (m:Nat):(shr8 x m &&& 1).toNat=x.toNat/2^m%2:=by
 rw[UInt8.toNat_and]
 have e:(shr8 x m).toNat=x.toNat/2^m:=by
  rw[shr8]
  show (BitVec.toNat _)=_
  rw[Qzy,Qzs]
  rfl
 rw[e]
 exact Nat.and_two_pow_sub_one_eq_mod _ 1
theorem QsP (x:UInt8) (m:Nat):(shr8 x m &&& 1==1)=decide (x.toNat/2^m%2=1):=by
 rw[←Qox,Qy7,beq_iff_eq,decide_eq_true_eq,←Qz2]
 rfl
theorem pow_two (a e P:Nat):(a^e%P)*(a^e%P)%P=a^(2*e)%P:=by rw[←QAm,←Qz8,Nat.two_mul]
theorem Qj3 (a e P:Nat):(a^e%P)*(a^e%P)*a%P=a^(2*e+1)%P:=by
 rw[QzH,QAm,pow_two,←QAm]
theorem QqX (N x m:Nat) (hm:m<8):N*2^(8-m)+x/2^m=2*(N*2^(8-(m+1))+x/2^(m+1))+x/2^m%2:=by
 rw[show 8-m=(8-(m+1))+1 by omega,QzH,QzH,←Qzv,←Qzx]
 omega
theorem of_1 (w:World):Calls Tryz.prog 111 #[.int .u64 1] w fun e w'=>e= .returned (E 1)∧Later w w':=Qsr 1 (by decide) w
set_option maxRecDepth 100000 in
set_option maxHeartbeats 2000000 in
theorem Qpg (a:Nat) (ha:a<T256) (A:Option Addr) (n c:Nat) (bs:List UInt8) (w:World) (hr:RdB w A n bs) (hn:n≤140737488355328):
 Calls Tryz.prog 157 #[E a,.slice A n c] w fun e w'=>e= .returned (E (a^num bs%P25))∧Later w w':=by
 have hbl:=hr.len
 have h1:Blk ((w.alloc (.cells (EL a).toArray 228)).alloc (.cells (Qyl 4 (.int .u64 0)).toArray 228)) w.heap.size 228 (EL a):=(Blk.new _ _ _).later (Qaa _ _)
 have h2:Blk ((w.alloc (.cells (EL a).toArray 228)).alloc (.cells (Qyl 4 (.int .u64 0)).toArray 228)) (w.heap.size+1) 228 (Qyl 4 (.int .u64 0)):=Blk.new' _ _ _ (by simp)
 have L0:Later w ((w.alloc (.cells (EL a).toArray 228)).alloc (.cells (Qyl 4 (.int .u64 0)).toArray 228)):=(Qaa _ _).trans (Qaa _ _)
 go_enter Tryz.func157,Tryz.ntmps157
 go_wp2_with (first
  | (go_at_call 111;(with_reducible refine (of_1 _).mono ?_);rintro e w2 ⟨rfl,hl2⟩)
  | (refine Qav rfl rfl _ _ rfl (Blk.new w2 _ (Qyl 4 (.int .u64 0))) rfl rfl rfl ?_;intro w3 hb3 ho3)
  | fail)
 have h13:=((h1.later hl2).later (Qaa _ (.cells (Qyl 4 (.int .u64 0)).toArray 228))).only ho3 (by have:=(h1.later hl2).lt;omega)
 have h23:=((h2.later hl2).later (Qaa _ (.cells (Qyl 4 (.int .u64 0)).toArray 228))).only ho3 (by have:=(h2.later hl2).lt;omega)
 have L3:=((L0.trans hl2).alloc (.cells (Qyl 4 (.int .u64 0)).toArray 228)).only ho3 (by have:=(L0.trans hl2).size;omega)
 have hg:w.heap.size+1<w2.heap.size:=(h2.later hl2).lt
 generalize w2.heap.size=g at *
 clear h1 h2 L0 hl2 ho3
 go_loopw [6] (fun i wr=>∃k:Nat,k≤n∧i= .int .i64 (dn k)∧Blk wr w.heap.size 228 (EL a)∧Blk wr (w.heap.size+1) 228 (Qyl 4 (.int .u64 0))∧Blk wr g 228 (EL (a^num (bs.drop k)%P25))∧Later w wr) (fun i _=>(intOf i+1).toNat)
 case atStart=>
  refine⟨n,by omega,by rw[←Qfc],h13,h23,?_,L3⟩
  rw[Qze (by omega)]
  exact hb3
 case round=>
  clear h13 h23 hb3 L3
  obtain⟨k,hk,rfl,h1,h2,h3,L⟩:=hrel
  cases k with
  | zero=>
    rw[List.drop_zero]at h3
    obtain⟨y,hy⟩:∃y,y=a^num bs%P25:=⟨_,rfl⟩
    rw[←hy]at h3
    have HY:=hid hy
    clear hy
    simp only[Qkj]
    go_wp2_with (first
     | (refine Qa6 rfl _ rfl h3 rfl ?_)
     | (refine Qav rfl rfl _ _ rfl h2 rfl rfl rfl ?_;intro w9 hb9 ho9)
     | fail)
    exact bodyPost_ret (Qfb rfl hb9 rfl) rfl ⟨by rw[HY.out],L.only ho9 (by omega)⟩
  | succ j=>
    obtain⟨b,o,rfl,hb,hc⟩:=hr.at_ (by omega)
    have HC:=hid (hc j (by omega))
    have HN:=hid (Qq0 bs j (by omega))
    clear hc hr
    simp only[Qj2]
    generalize bs.getD j 0=x at *
    generalize num (bs.drop (j+1))=N at *
    generalize hNN:num (bs.drop j)=N' at *
    have HNN:=hid hNN
    clear hNN
    go_wp2_with fail
    go_loopw [7] (fun i wr=>∃m:Nat,m≤8∧i= .int .i64 (dn m)∧Blk wr w.heap.size 228 (EL a)∧Blk wr (w.heap.size+1) 228 (Qyl 4 (.int .u64 0))∧Blk wr g 228 (EL (a^(N*2^(8-m)+x.toNat/2^m)%P25))∧Later w wr) (fun i _=>(intOf i+1).toNat)
    case atStart=>
     refine⟨8,by omega,rfl,h1,h2,?_,L⟩
     have:x.toNat/2^8=0:=Qzq x.toNat_lt
     rw[this,Nat.sub_self,Nat.pow_zero,Qzb,Qz3]
     exact h3
    case round=>
     clear h1 h2 h3 L
     obtain⟨m,hm,rfl,h1,h2,h3,L⟩:=hrel
     cases m with
     | zero=>
       simp only[Qkj]
       go_wp2_with fail
       go_roundw
       case rel=>
        refine⟨j,by omega,by rw[Qfc],h1,h2,?_,L⟩
        have e:N*2^(8-0)+x.toNat/2^0=N':=by
         rw[HN.out,Nat.pow_zero,Nat.div_one]
         show N*256+_=_
         omega
        rw[e]at h3
        have hn':num (bs.drop j)=N':=HNN.out
        rw[hn']
        exact h3
       case measure=>simp[intOf]
     | succ m=>
       have d0:wr.cell? ⟨b,o+j,none⟩=some (W8 x):=(L.below.cell (p:=⟨b,o+j,none⟩) hb).trans HC.out
       have HE:=hid (QqX N x.toNat m (by omega))
       obtain⟨y,hy⟩:∃y,y=a^(N*2^(8-(m+1))+x.toNat/2^(m+1))%P25:=⟨_,rfl⟩
       rw[←hy]at h3
       have hyT:y<T256:=by rw[hy];exact QzT (QyV _ QbK) (by decide)
       have HY:=hid hy
       clear hy
       have hyy:y*y%P25<T256:=QzT (QyV _ QbK) (by decide)
       have hbe:=QsP x m
       have hcnt:cnt (Qzf (m:Int))=m:=by rw[QdN,cnt,tn64 (by unfold B64;omega)]
       simp only[Qj2]
       rcases Nat.mod_two_eq_zero_or_one (x.toNat/2^m) with hz|hz
       ·have hd:(shr8 x m &&& 1==1)=false:=by rw[hbe,hz];rfl
        have HZ:=hid hz
        clear hbe hz
        go_wp2_with (first
         | (refine Qa6 rfl _ rfl h3 rfl ?_)
         | (go_at_call 135;(with_reducible refine (Qfg y hyT _).mono ?_);rintro e w4 ⟨rfl,hl4⟩)
         | (refine Qav rfl rfl _ _ rfl (h3.later hl4) rfl rfl (Qai _) ?_;intro w5 hb5 ho5
            have d5:w5.cell? ⟨b,o+j,none⟩=some (W8 x):=(((L.trans hl4).only ho5 (by omega)).below.cell (p:=⟨b,o+j,none⟩) hb).trans HC.out)
         | fail)
        go_roundw
        case rel=>
         refine⟨m,by omega,by rw[Qfc],(h1.later hl4).only ho5 (by omega),(h2.later hl4).only ho5 (by omega),?_,(L.trans hl4).only ho5 (by omega)⟩
         rw[HE.out,HZ.out,Qz3,←pow_two,←HY.out]
         exact hb5
        case measure=>simp[intOf]
       ·have hd:(shr8 x m &&& 1==1)=true:=by rw[hbe,hz];rfl
        have HZ:=hid hz
        clear hbe hz
        go_wp2_with (first
         | (refine Qa6 rfl _ rfl h3 rfl ?_)
         | (go_at_call 135;(with_reducible refine (Qfg y hyT _).mono ?_);rintro e w4 ⟨rfl,hl4⟩)
         | (refine Qav rfl rfl _ _ rfl (h3.later hl4) rfl rfl (Qai _) ?_;intro w5 hb5 ho5
            have d5:w5.cell? ⟨b,o+j,none⟩=some (W8 x):=(((L.trans hl4).only ho5 (by omega)).below.cell (p:=⟨b,o+j,none⟩) hb).trans HC.out
            have h15:=(h1.later hl4).only ho5 (by omega))
         | (refine Qa6 rfl _ rfl hb5 rfl ?_)
         | (refine Qa6 rfl _ rfl h15 rfl ?_)
         | (go_at_call 137;(with_reducible refine (QcX (y*y%P25) a hyy ha _).mono ?_);rintro e w6 ⟨rfl,hl6⟩)
         | (refine Qav rfl rfl _ _ rfl (hb5.later hl6) rfl rfl (Qai _) ?_;intro w7 hb7 ho7)
         | fail)
        go_roundw
        case rel=>
         refine⟨m,by omega,by rw[Qfc],(h15.later hl6).only ho7 (by omega),(((h2.later hl4).only ho5 (by omega)).later hl6).only ho7 (by omega),?_,(((L.trans hl4).only ho5 (by omega)).trans hl6).only ho7 (by omega)⟩
         rw[HE.out,HZ.out,←Qj3,←HY.out]
         first|exact hb7|(rw [Nat.mod_mul_mod]at hb7;exact hb7)
        case measure=>simp[intOf]
theorem QvS {w:World} {g:Nat} {t:TypeId} {l:List Value} {n:Nat} (h:Blk w g t l) (hn:l.length=n):Rd w (some ⟨g,0,none⟩) n l:=
 ⟨hn,fun _=>⟨g,0,rfl,h.lt,fun j u hu=>by rw[QyE];exact h.cellD j hu⟩⟩
theorem QgB {w:World} {g:Nat} {t:TypeId} {bs:List UInt8} {n:Nat} (h:Blk w g t (bs.map W8)) (hn:bs.length=n):RdB w (some ⟨g,0,none⟩) n bs:=QvS h (by simpa using hn)
def Qip:List UInt8:=235 :: (Qyl 30 255++[127])
theorem Qtz:num Qip=P25-2:=by decide
def pinv (a:Nat):Nat:=a^(P25-2)%P25
theorem QrU (l:List Value) (hl:l=Qyl 32 (Value.int .u8 255)):(l.set 0 (.int .u8 235)).set 31 (.int .u8 127)=Qip.map W8:=by
 subst hl
 rfl
set_option maxRecDepth 100000 in
set_option maxHeartbeats 2000000 in
theorem Quk (a:Nat) (ha:a<T256) (w:World):
 Calls Tryz.prog 138 #[E a] w fun e w'=>e= .returned (E (pinv a))∧Later w w':=by
 have h1:Blk ((w.alloc (.cells (EL a).toArray 228)).alloc (.cells (Qyl 4 (.int .u64 0)).toArray 228)) w.heap.size 228 (EL a):=(Blk.new _ _ _).later (Qaa _ _)
 have h2:Blk ((w.alloc (.cells (EL a).toArray 228)).alloc (.cells (Qyl 4 (.int .u64 0)).toArray 228)) (w.heap.size+1) 228 (Qyl 4 (.int .u64 0)):=Blk.new' _ _ _ (by simp)
 have L0:Later w ((w.alloc (.cells (EL a).toArray 228)).alloc (.cells (Qyl 4 (.int .u64 0)).toArray 228)):=(Qaa _ _).trans (Qaa _ _)
 have HP:=hid (Qpg a ha)
 have HN:=hid Qtz
 go_enter Tryz.func138,Tryz.ntmps138
 go_wp2_with (first
  | (refine QaT rfl _ _ 25 rfl 5 (.int .u8 0) 1 Tryz.underlying25 QcG rfl _ _ _ _ 32 rfl rfl rfl rfl (by omega) (by omega) ?_;intro w2 hb2 hl2)
  | fail)
 have h12:=h1.later hl2
 have h22:=h2.later hl2
 have L2:=L0.trans hl2
 replace hb2:Blk w2 (w.heap.size+1+1) 5 (Qyl 32 (.int .u8 0)):=Eq.mp (congrArg (fun g=>Blk w2 g 5 (Qyl 32 (.int .u8 0))) (by simp)) hb2
 clear h1 h2 L0 hl2
 go_loopw [8] (fun i wr=>∃k:Nat,k≤32∧i= .int .i64 k∧Blk wr w.heap.size 228 (EL a)∧Blk wr (w.heap.size+1) 228 (Qyl 4 (.int .u64 0))∧Blk wr (w.heap.size+1+1) 5 (Qb1 (Qyl 32 (.int .u8 255)) (Qyl 32 (.int .u8 0)) k)∧Later w wr) (fun i _=>32-(intOf i).toNat)
 case atStart=>exact⟨0,by omega,rfl,h12,h22,by rw[Qb6];exact hb2,L2⟩
 case round=>
  clear h12 h22 hb2 L2
  obtain⟨k,hk,rfl,h1,h2,h3,L⟩:=hrel
  by_cases hlt:k<32
  ·go_wp2_with (first
    | (refine Qag rfl rfl _ _ _ rfl _ _ _ _ h3 rfl ?hl rfl (by kernel_rfl) ?_;(case hl=>rw[Qbc _ _ _ (by rfl)];exact hlt);intro v w6 hv hb6 ho6;simp[go_sem]at hv;subst hv)
    | fail)
   go_roundw
   case rel=>
    rw[QbI _ _ _ _ (by rfl) hlt (by rw[List.getElem?_replicate,if_pos hlt])]at hb6
    exact⟨k+1,by omega,by go_num,h1.only ho6 (by omega),h2.only ho6 (by omega),hb6,L.only ho6 (by omega)⟩
   case measure=>simp[intOf];omega
  ·have HF:=hid (QrU _ (Qcu (Qyl 32 (Value.int .u8 255)) (Qyl 32 (.int .u8 0)) 32 rfl rfl))
   rw[show k=32 by omega]at h3
   have hkf:decide ((k:Int)<32)=false:=by simp;omega
   go_wp2_with (first
    | (refine Qag rfl rfl _ _ _ rfl _ _ _ _ h3 rfl ?hl rfl (by kernel_rfl) ?_;(case hl=>rw[Qbc _ _ _ (by rfl)];decide);intro v w6 hv hb6 ho6;simp[go_sem]at hv;subst hv)
    | (refine Qag rfl rfl _ _ _ rfl _ _ _ _ hb6 rfl ?hl rfl (by kernel_rfl) ?_;(case hl=>rw[QyY,Qbc _ _ _ (by rfl)];decide);intro v w7 hv hb7 ho7;simp[go_sem]at hv;subst hv
       rw[HF.out]at hb7
       have h17:=(h1.only ho6 (by omega)).only ho7 (by omega)
       have h27:=(h2.only ho6 (by omega)).only ho7 (by omega)
       have L7:=(L.only ho6 (by omega)).only ho7 (by omega))
    | (refine Qa6 rfl _ rfl h17 rfl ?_)
    | (go_at_call 157;(with_reducible refine (HP.out _ 32 _ Qip _ (QgB hb7 rfl) (by omega)).mono ?_);rintro e w8 ⟨rfl,hl8⟩
       rw[HN.out])
    | (refine Qav rfl rfl _ _ rfl (h27.later hl8) rfl rfl rfl ?_;intro w9 hb9 ho9)
    | fail)
   exact bodyPost_ret (Qfb rfl hb9 rfl) rfl ⟨rfl,(L7.trans hl8).only ho9 (by omega)⟩
def RdE (w:World) (A:Option Addr) (n:Nat) (ns:List Nat):Prop:=
 ns.length=n∧(0<n→∃b o,A=some ⟨b,o,none⟩∧b<w.heap.size∧∀j i v,j<n→(EL (ns.getD j 0))[i]?=some v→w.cell? ⟨b,o+j*4+i,none⟩=some v)
theorem RdE.later {w w':World} {A:Option Addr} {n:Nat} {ns:List Nat} (h:RdE w A n ns) (hl:Later w w'):RdE w' A n ns:=by
 refine⟨h.1,fun hn=>?_⟩
 obtain⟨b,o,hA,hb,hc⟩:=h.2 hn
 exact⟨b,o,hA,QyL hb hl.size,fun j i v hj hv=>(hl.below.cell (p:=⟨b,o+j*4+i,none⟩) hb).trans (hc j i v hj hv)⟩
theorem Qrb (l:List Nat) (k:Nat) (h:k<l.length):(l.take (k+1)).sum=(l.take k).sum+l.getD k 0:=by
 rw[QyR h,List.sum_append,Qyt,Qyq h]
 simp
def QdF:List Nat→Nat
 | []=>1
 | x :: l=>x*QdF l
theorem Qfy:∀l m:List Nat,QdF (l++m)=QdF l*QdF m
 | [],m=>by simp[QdF]
 | x :: l,m=>by rw[Qys,QdF,Qfy l m,QdF,Qzx]
theorem QoW (l:List Nat) (k:Nat) (h:k<l.length):QdF (l.take (k+1))=QdF (l.take k)*l.getD k 0:=by
 rw[QyR h,Qfy,Qyt,Qyq h]
 simp[QdF]
theorem QiG {l:List Nat} {j:Nat} (h:j<l.length):l.getD j 0∈l:=by
 rw[Qyt,Qyq h]
 exact Qzk h
set_option maxRecDepth 100000 in
set_option maxHeartbeats 2000000 in
theorem Qs6 (A:Option Addr) (n c:Nat) (ns:List Nat) (w:World) (hr:RdE w A n ns) (hns:∀x∈ns,x<T256) (hn:n≤140737488355328):
 Calls Tryz.prog 133 #[.slice A n c] w fun e w'=>e= .returned (E (ns.sum%P25))∧Later w w':=by
 have hnl:=hr.1
 go_enter Tryz.func133,Tryz.ntmps133
 go_wp2
 go_loopw [8] (fun i wr=>∃k:Nat,k≤n∧i= .int .i64 k∧Blk wr w.heap.size 228 (Qyl 4 (.int .u64 0))∧Blk wr (w.heap.size+1) 228 (EL ((ns.take k).sum%P25))∧Later w wr) (fun i _=>n-(intOf i).toNat)
 case atStart=>exact⟨0,by omega,rfl,(Blk.new w _ (Qyl 4 (Value.int .u64 0))).later (Qaa _ _),by rw[QzK];exact Blk.new' _ _ (Qyl 4 (Value.int .u64 0)) (by simp),(Qaa _ _).trans (Qaa _ _)⟩
 case round=>
  obtain⟨k,hk,rfl,h1,h2,L⟩:=hrel
  by_cases hlt:k<n
  ·obtain⟨b,o,rfl,hb,hc⟩:=(hr.later L).2 (by omega)
   have HT:=hid (Qrb ns k (by omega))
   have hx:ns.getD k 0<T256:=hns _ (QiG (by omega))
   have hc':=fun i v hv=>hc k i v hlt hv
   generalize ns.getD k 0=x at *
   have HC:=hid hc'
   clear hc hc' hr
   generalize hs:(ns.take k).sum=s at *
   have HSS:=hid hs
   clear hs
   go_wp2_with (first
    | (refine Qau rfl 228 _ rfl b (o+k*4) (EL x) ?hc ?hx _ Tryz.underlying228 rfl ?hi ?_;(case hx=>rfl);(case hi=>rw[Qai];exact Qft);(case hc=>intro j v hv;exact HC.out j v hv))
    | (refine Qav (g:=wr.heap.size) rfl rfl _ _ rfl (Blk.new _ _ (Qyl 4 (.int .u64 0))) rfl rfl rfl ?_;intro w3 hb3 ho3)
    | fail)
   have L3:Later wr w3:=(Qaa _ _).only ho3 (by omega)
   have h23:=h2.later L3
   go_wp2_with fail
   refine Qad [([0,1],2)] [] [3,4] (by as_aux_lemma=>kernel_rfl) (by as_aux_lemma=>kernel_rfl) (by intro _ _ d _ _ h;cases d<;>exact h) ?_
   simp only[Qaj,pick,Qym,Qyn,Qyp,Qys,Qyr]
   repeat (first|go_big_quiet_skip|(go_big_quiet_want;(first|refine QbH _ rfl h23.drew rfl ?_|refine QbH _ rfl hb3.drew rfl ?_);simp only[Act.put,Qyu,Qyy,Qyx];go_big_quiet_on)|(go_big_quiet_step (fail)))
   refine wpQuiet_nil ?_
   go_wp2_with fail
   (with_reducible refine (QcW x hx _).mono ?_);rintro e w4 ⟨rfl,hl4⟩
   go_wp2_with fail
   try refine⟨by first|assumption|exact Qab _|exact Qaa _ _|exact Later.refl _,?_⟩
   try simp only[Qaj,pick,Qym,Qyn,Qyp,Qys,Qyr]
   repeat (go_big_quiet_step (fail))
   refine wpQuiet_nil ?_
   go_wp2_with fail
   (with_reducible refine (Qlv (s%P25) (x%P25) (by have:=QyV s QbK;have:=QyV x QbK;unfold P25 at *;unfold T256;omega) _).mono ?_);rintro e w5 ⟨rfl,hl5⟩
   have h25:=((h23.drew).later hl4).later hl5
   go_wp2_with (first
    | (refine Qav rfl rfl _ _ rfl h25 rfl rfl (Qai _) ?_;intro w6 hb6 ho6)
    | fail)
   have L5:Later wr w5:=(((L3.trans (Qab _)).trans hl4).trans hl5)
   go_roundw
   case rel=>
    refine⟨k+1,by omega,by go_num,(h1.later L5).only ho6 (by omega),?_,(L.trans L5).only ho6 (by omega)⟩
    rw[HT.out]
    first|exact hb6|(rw [←QAs];exact hb6)|(rw [QAs];exact hb6)
   case measure=>simp[intOf];omega
  ·rw[show k=n by omega,QyA (by omega)]at h2
   have hkf:decide ((k:Int)<(n:Int))=false:=by simp;omega
   go_wp2_with (first
    | (refine Qa6 rfl _ rfl h2 rfl ?_)
    | (refine Qav rfl rfl _ _ rfl h1 rfl rfl rfl ?_;intro w9 hb9 ho9)
    | fail)
   exact bodyPost_ret (Qfb rfl hb9 rfl) rfl ⟨rfl,L.only ho9 (by omega)⟩
theorem Qg0 {P:Program} {t e:TypeId} (s:Nat) (ht:P.underlying t=some (.slice e)) (hs:(P.info? e).map (·.size)=some s) (A:Option Addr) (n c:Nat) (kl:IntKind) (l:Nat) (h1:l≤n) (W:World):
 (Instr.sliceAt t (.slice A n c) (some (.int kl l)) none none).run P W= .ok (.slice (if c=l then A else A.map (·.add (l*s))) (n-l) (c-l)) W:=by
 have he:P.elem t=e:=by unfold Program.elem;rw[ht]
 have ht':P.underlying t=some (.slice (P.elem t)):=by rw[he];exact ht
 rw[run_sliceAt_slice _ _ _ _ _ _ ht',run_slice_l (ht:=ht') (h0:=by omega) (h1:=by omega),he]
 cases hq:P.info? e with
 | none=>simp[hq]at hs
 | some i=>
   have hsz:i.size=s:=by simpa [hq] using hs
   simp[sizeOf,typeInfo,hq,hsz,sliced]
theorem RdE.cut1 {w:World} {A:Option Addr} {n:Nat} {ns:List Nat} (h:RdE w A n ns) (h1:1<n):RdE w (A.map (·.add 4)) (n-1) ns.tail:=by
 refine⟨by rw[List.length_tail,h.1],fun hn=>?_⟩
 obtain⟨b,o,rfl,hb,hc⟩:=h.2 (by omega)
 refine⟨b,o+4,by rw[Qzz,QbM],hb,fun j i v hj hv=>?_⟩
 have e:ns.tail.getD j 0=ns.getD (j+1) 0:=by rw[Qyt,Qyt,List.getElem?_tail]
 rw[e]at hv
 have:=hc (j+1) i v (by omega) hv
 rw[show o+4+j*4+i=o+(j+1)*4+i by omega]
 exact this
set_option maxRecDepth 100000 in
set_option maxHeartbeats 2000000 in
theorem Qkd (A:Option Addr) (n c:Nat) (ns:List Nat) (w:World) (hr:RdE w A n ns) (hns:∀x∈ns,x<T256) (hn:n≤c) (hc0:n≤140737488355328):
 Calls Tryz.prog 136 #[.slice A n c] w fun e w'=>e= .returned (E (QdF ns%P25))∧Later w w':=by
 have hnl:=hr.1
 have hb0:=Blk.new w 228 (Qyl 4 (Value.int .u64 0))
 rcases Qz5 n with hz|hz
 ·subst hz
  obtain rfl:ns=[]:=Qy4 hnl
  go_enter Tryz.func136,Tryz.ntmps136
  go_wp2_with (first
   | (go_at_call 111;(with_reducible refine (of_1 _).mono ?_);rintro e w2 ⟨rfl,hl2⟩)
   | (refine Qav rfl rfl _ _ rfl (hb0.later hl2) rfl rfl rfl ?_;intro w3 hb3 ho3)
   | fail)
  exact bodyPost_ret (Qfb rfl hb3 rfl) rfl ⟨rfl,((Qaa _ _).trans hl2).only ho3 (by omega)⟩
 ·have hne:((n:Int)==0)=false:=by simp;omega
  have hlt0:decide ((0:Int)<(n:Int))=true:=by simp;omega
  obtain⟨T,d,hcutT,hT⟩:∃(T:Option Addr) (d:Nat),(∀ W,(Instr.sliceAt 279 (.slice A n c) (some (.int .i64 1)) none none).run Tryz.prog W= .ok (.slice T (n-1) d) W)∧RdE w T (n-1) ns.tail:=by
   refine⟨_,_,Qg0 4 Tryz.underlying279 Qft A n c .i64 1 hz,?_⟩
   by_cases h1:1<n
   ·rw[if_neg (by omega)]
    exact hr.cut1 h1
   ·refine⟨by rw[List.length_tail,hnl],fun h=>by omega⟩
  obtain⟨b,o,rfl,hb,hc⟩:=hr.2 hz
  have hx0:ns.getD 0 0<T256:=hns _ (QiG (by omega))
  have hc0':∀i v,(EL (ns.getD 0 0))[i]?=some v→w.cell? ⟨b,o+i,none⟩=some v:=fun i v hv=>by have:=hc 0 i v hz hv;rwa [Nat.zero_mul,Qz3]at this
  have HX:=hid (show ns.take 1=[ns.getD 0 0] by cases ns with|nil=>simp at hnl;omega|cons y l=>rfl)
  have hnt:∀x∈ns.tail,x<T256:=fun x hx=>hns x (List.mem_of_mem_tail hx)
  have HTL:=hid (show ∀k,k<n-1→QdF (ns.take (k+1+1))=QdF (ns.take (k+1))*ns.tail.getD k 0 by
   intro k hk
   rw[QoW ns (k+1) (by omega)]
   congr 1
   rw[Qyt,Qyt,List.getElem?_tail])
  have HC0:=hid hc0'
  clear hc hc0' hr
  generalize hX0:ns.getD 0 0=x0 at *
  go_enter Tryz.func136,Tryz.ntmps136
  clear hX0
  go_wp2_with (first
   | (refine Qau rfl 228 _ rfl b o (EL x0) ?hc ?hx _ Tryz.underlying228 rfl ?hi ?_;(case hx=>rfl);(case hi=>rw[Qai];exact Qft);(case hc=>intro j v hv;exact ((Qaa w _).below.cell (p:=⟨b,o+j,none⟩) hb).trans (HC0.out j v hv)))
   | (go_at_call 132;(with_reducible refine (QcW x0 hx0 _).mono ?_);rintro e w2 ⟨rfl,hl2⟩)
   | (refine Qav rfl rfl _ _ rfl (Blk.new w2 _ (Qyl 4 (.int .u64 0))) rfl rfl rfl ?_;intro w3 hb3 ho3)
   | fail)
  have hb03:=((hb0.later hl2).later (Qaa _ (.cells (Qyl 4 (.int .u64 0)).toArray 228))).only ho3 (Nat.ne_of_lt (hb0.later hl2).lt)
  have L3:Later w w3:=(((Qaa _ _).trans hl2).trans (Qaa _ _)).only ho3 (by have:=((Qaa w _).trans hl2).size;omega)
  have hg:w.heap.size<w2.heap.size:=(hb0.later hl2).lt
  generalize w2.heap.size=g at *
  clear hb0 hl2 ho3 HC0
  go_loopw [17] (fun i wr=>∃k:Nat,k≤n-1∧i= .int .i64 k∧Blk wr w.heap.size 228 (Qyl 4 (.int .u64 0))∧Blk wr g 228 (EL (QdF (ns.take (k+1))%P25))∧Later w wr) (fun i _=>n-1-(intOf i).toNat)
  case atStart=>exact⟨0,by omega,rfl,hb03,by rw[QyE,HX.out];simpa [QdF] using hb3,L3⟩
  case round=>
   clear hb03 hb3 L3
   obtain⟨k,hk,rfl,h1,h2,L⟩:=hrel
   by_cases hlt:k<n-1
   ·obtain⟨b1,o1,rfl,hb1,hc1⟩:=(hT.later L).2 (by omega)
    have HT:=hid (HTL.out k hlt)
    have hx:ns.tail.getD k 0<T256:=hnt _ (QiG (by rw[List.length_tail];omega))
    have hc':=fun i v hv=>hc1 k i v hlt hv
    generalize ns.tail.getD k 0=x at *
    have HC:=hid hc'
    clear hc1 hc'
    obtain⟨y,hy⟩:∃y,y=QdF (ns.take (k+1))%P25:=⟨_,rfl⟩
    rw[←hy]at h2
    have hyT:y<T256:=by rw[hy];exact QzT (QyV _ QbK) (by decide)
    have HY:=hid hy
    clear hy
    have hkb:decide ((k:Int)<((n-1:Nat):Int))=true:=by simp;omega
    have hkx:(k<n-1)=True:=eq_true hlt
    go_wp2_with (first
     | (refine Qau rfl 228 _ rfl b1 (o1+k*4) (EL x) ?hc ?hx _ Tryz.underlying228 rfl ?hi ?_;(case hx=>rfl);(case hi=>rw[Qai];exact Qft);(case hc=>intro j v hv;exact HC.out j v hv))
     | (refine Qav (g:=wr.heap.size) rfl rfl _ _ rfl (Blk.new _ _ (Qyl 4 (.int .u64 0))) rfl rfl rfl ?_;intro w4 hb4 ho4
        have L4:Later wr w4:=(Qaa _ _).only ho4 (by omega)
        have h24:=h2.later L4)
     | (refine Qa6 rfl _ rfl h24 rfl ?_)
     | (refine Qa6 rfl _ rfl hb4 rfl ?_)
     | (go_at_call 137;(with_reducible refine (QcX y x hyT hx _).mono ?_);rintro e w5 ⟨rfl,hl5⟩)
     | (refine Qav rfl rfl _ _ rfl (h24.later hl5) rfl rfl (Qai _) ?_;intro w6 hb6 ho6)
     | fail)
    go_roundw
    case rel=>
     refine⟨k+1,by omega,by go_num,((h1.later L4).later hl5).only ho6 (by omega),?_,((L.trans L4).trans hl5).only ho6 (by omega)⟩
     rw[HT.out,QAm,←HY.out]
     first|exact hb6|(rw [QAm,HY.out,QAw,←HY.out]at hb6;exact hb6)
    case measure=>simp[intOf];omega
   ·rw[show k+1=n by omega,QyA (by omega)]at h2
    have hkf:decide ((k:Int)<((n-1:Nat):Int))=false:=by simp;omega
    have hkx:(k<n-1)=False:=eq_false hlt
    go_wp2_with (first
     | (refine Qa6 rfl _ rfl h2 rfl ?_)
     | (refine Qav rfl rfl _ _ rfl h1 rfl rfl rfl ?_;intro w9 hb9 ho9)
     | fail)
    exact bodyPost_ret (Qfb rfl hb9 rfl) rfl ⟨rfl,L.only ho9 (by omega)⟩
def nb (n:Nat):List UInt8:=(dig 256 32 n).map Qy2
abbrev BB (n:Nat):Value:=.agg ((nb n).map W8).toArray
theorem QgS (n:Nat):(nb n).length=32:=by rw[nb,Qyo,QaG]
theorem Qvl (n i:Nat) (h:i<32):(nb n)[i]?=some (Qy2 (n/256^i%256)):=by rw[nb,QyF,Qez _ _ _ _ h];rfl
theorem QdP:∀l:List Nat,(∀ x∈l,x<256)→(l.map Qy2).map UInt8.toNat=l
 | [],_=>rfl
 | x :: l,h=>by
   rw[QyJ,QyJ,QdP l (fun y hy=>h y (by simp[hy])),QAj,QyS (h x (by simp))]
theorem QuM (n:Nat) (h:n<T256):num (nb n)=n:=by
 rw[num,nb,QdP _ (Qeh (by decide) 32 n),Qfr,QyS (show n<256^32 from h)]
theorem Qvq (bs:List UInt8):num bs<256^bs.length:=by
 have:=QsK (B:=256) (bs.map UInt8.toNat) (by intro x hx;obtain⟨y,_,rfl⟩:=Qy1.1 hx;exact y.toNat_lt)
 rwa [Qyo]at this
theorem Qrq (bs:List UInt8) (k:Nat) (h:k<bs.length):num (bs.take (k+1))=num (bs.take k)+256^k*(bs.getD k 0).toNat:=by
 have:=Qds 256 (bs.map UInt8.toNat) k (by simpa using h)
 rw[←Qzp,←Qzp]at this
 have e:(bs.map UInt8.toNat).getD k 0=(bs.getD k 0).toNat:=by
  rw[Qyt,Qyt,QyF,Qyq h]
  rfl
 rw[e]at this
 exact this
theorem Qf4 (k:Nat):256^k=B64^(k/8)*256^(k%8):=by
 have e:B64=256^8:=by decide
 rw[e,←QAv,←Qz8,Qzm]
theorem Qj6 (x a b c:Nat) (ha:0<a) (h:b*c ∣ a) (_hb:0<b):x%a/b%c=x/b%c:=by
 obtain⟨d,rfl⟩:=h
 rw[Qzx,Nat.mod_mul_right_div_self,Nat.mod_mul_right_mod]
theorem QrN (n k:Nat) (_hk:k<32):lim n (k/8)/2^(8*(k%8))%256=n/256^k%256:=by
 rw[Qf4 k,←Qzv,lim,QAv]
 generalize n/B64^(k/8)=x
 refine Qj6 x B64 (256^(k%8)) 256 QaA ?_ (QAl (by decide))
 have:B64=256^8:=by decide
 rw[this,←QzH]
 exact Nat.pow_dvd_pow 256 (by omega)
theorem QtV (V x k:Nat) (_hk:k<32) (hV:V<256^k) (hx:x<256):(EL V).set (k/8) (n64 (lim V (k/8)+x*2^(8*(k%8))))=EL (V+256^k*x):=by
 have hp:=Qf4 k
 have hB:B64=256^8:=by decide
 have hlt:V+256^k*x<256^(k+1):=by
  rw[QzH]
  have:256^k*x≤256^k*255:=QzY _ (by omega)
  omega
 have hbound:256^(k+1)≤B64^(k/8+1):=by
  rw[hB,←QAv]
  exact QzE (by decide) (by omega)
 apply List.ext_getElem (by rw[QyY,Qai,Qai])
 intro j h1 h2
 rw[Qai]at h2
 rw[List.getElem_set]
 split
 ·rename_i hj
  subst hj
  rw[Qog]
  congr 1
  rw[lim,lim,hp,Qzx,QzG _ _ (QAl QaA),QAv]
  have hV1:V/B64^(k/8)<256^(k%8):=Qzu (by rw[←hp];exact hV)
  have hle:256^(k%8)*256≤B64:=by
   rw[hB,←QzH]
   exact QzE (by decide) (by omega)
  have hxx:256^(k%8)*x≤256^(k%8)*255:=QzY _ (by omega)
  have e:(2:Nat)^8=256:=by decide
  rw[e,Qzt x]
  rw[QyS (show V/B64^(k/8)<B64 by omega),QyS (show V/B64^(k/8)+256^(k%8)*x<B64 by omega)]
 ·rename_i hj
  rw[Qog,Qog]
  congr 1
  rcases Qzn j (k/8) with hl|hl
  ·rw[lim,lim,hp]
   obtain⟨d,hd⟩:∃d,k/8=j+1+d:=⟨k/8-j-1,by omega⟩
   rw[hd,Qz8,QzH,Qzx,Qzx,Qzx,QzG _ _ (QAl QaA),Nat.add_mul_mod_self_left]
  ·have hjj:k/8+1≤j:=by omega
   have hpp:B64^(k/8+1)≤B64^j:=QzE (by decide) hjj
   have hVk:V<B64^j:=QyL hV (QyX (QzE (by decide) (by omega)) (QyX hbound hpp))
   rw[lim,lim,Qzq hVk,Qzq (QyL hlt (QyX hbound hpp))]
theorem QuZ (a s y:Nat) (h:a<2^s):a ||| (y*2^s)=a+y*2^s:=by
 have:=Nat.two_pow_add_eq_or_of_lt h y
 rw[Nat.or_comm,Qzt y,←this,Nat.add_comm]
theorem Qtl (V k:Nat) (hV:V<256^k):lim V (k/8)<2^(8*(k%8)):=by
 have hV1:V/B64^(k/8)<256^(k%8):=Qzu (by rw[←Qf4];exact hV)
 rw[lim,QAv]
 exact Qzw (Nat.mod_le _ _) hV1
@[go_sem] theorem Qwh (T:TypeId) (x:Nat) (hx:x<B64) (k:UInt64):binOp .shr T (n64 x) (W64 k)=pure (n64 (x/2^(cnt k))):=by
  have:=QtM T x hx .u64 (k.toNat:Int) (by omega)
  rw[Int.toNat_natCast]at this
  exact this
@[go_sem] theorem Qxx (T:TypeId) (x:Nat) (hx:x<B64) (y:UInt64):binOp .or T (n64 x) (W64 y)=pure (n64 (x ||| y.toNat)):=by
  rw[n64,Qor,QfQ]
  rw[UInt64.toNat_or,tn64 hx,QyS (show (x ||| y.toNat)<B64 from Nat.or_lt_two_pow (n:=64) hx y.toNat_lt)]
theorem QlI (i:Nat) (h:i<32):cnt (8*Qzf ((i:Int)%8))=8*(i%8):=by
 have:∀k:Fin 32,cnt (8*Qzf ((k.val:Int)%8))=8*(k.val%8):=by decide
 exact this ⟨i,h⟩
theorem Qb5:(Tryz.prog.info? 45).map (·.size)=some 32:=by kernel_rfl
theorem Qxg {n m:Nat} (h:n%256=m%256):n8 n=n8 m:=by
 rw[n8]
 apply n8_w
 rw[QAj,←h]
set_option maxRecDepth 100000 in
set_option maxHeartbeats 2000000 in
theorem Qo4 (n:Nat) (hn:n<T256) (w:World):
 Calls Tryz.prog 114 #[E n] w fun e w'=>e= .returned (BB (n%P25))∧Later w w':=by
 have h1:Blk ((w.alloc (.cells (EL n).toArray 228)).alloc (.cells (Qyl 32 (Value.int .u8 0)).toArray 45)) w.heap.size 228 (EL n):=(Blk.new _ _ _).later (Qaa _ _)
 have h2:Blk ((w.alloc (.cells (EL n).toArray 228)).alloc (.cells (Qyl 32 (Value.int .u8 0)).toArray 45)) (w.heap.size+1) 45 (Qyl 32 (.int .u8 0)):=Blk.new' _ _ _ (by simp)
 have L0:Later w ((w.alloc (.cells (EL n).toArray 228)).alloc (.cells (Qyl 32 (Value.int .u8 0)).toArray 45)):=(Qaa _ _).trans (Qaa _ _)
 have hlS:((nb (n%P25)).map W8).length=32:=by rw[Qyo,QgS]
 have HGet:=hid (fun k (h:k<32)=>show ((nb (n%P25)).map W8)[k]?=some (n8 (n%P25/256^k%256)) by rw[QyF,Qvl _ _ h];rfl)
 go_enter Tryz.func114,Tryz.ntmps114
 go_wp2_with (first
  | (refine Qa6 rfl _ rfl h1 rfl ?_)
  | (go_at_call 132;(with_reducible refine (QcW n hn _).mono ?_);rintro e w2 ⟨rfl,hl2⟩)
  | (refine Qav rfl rfl _ _ rfl (h1.later hl2) rfl rfl (Qai _) ?_;intro w3 hb3 ho3
     have h23:=(h2.later hl2).only ho3 (by omega)
     have L3:=(L0.trans hl2).only ho3 (by omega))
  | fail)
 have hg:w.heap.size+1<w3.heap.size:=h23.lt
 clear h1 h2 L0 hl2 ho3
 generalize hM:n%P25=M at *
 have HM:=hid hM
 clear hM
 go_loopw [7] (fun i wr=>∃k:Nat,k≤32∧i= .int .i64 k∧Blk wr w.heap.size 228 (EL M)∧Blk wr (w.heap.size+1) 45 (Qyl 32 (.int .u8 0))∧Blk wr w3.heap.size 45 (Qb1 ((nb M).map W8) (Qyl 32 (.int .u8 0)) k)∧Later w wr) (fun i _=>32-(intOf i).toNat)
 case atStart=>exact⟨0,by omega,rfl,hb3.later (Qaa _ _),h23.later (Qaa _ _),by rw[Qb6];exact Blk.new _ _ (Qyl 32 (Value.int .u8 0)),L3.trans (Qaa _ _)⟩
 case round=>
  clear hb3 h23
  have hL3:=L3.size
  clear L3
  obtain⟨k,hk,rfl,h1,h2,h3,L⟩:=hrel
  by_cases hlt:k<32
  ·have d0:=h1.cellD (k/8) (QbP M (k/8) (by omega))
   have hct:=QlI k hlt
   have hbl:=hid (QrN M k hlt)
   go_wp2_with (first
    | (refine Qag rfl rfl _ _ _ rfl _ _ _ _ h3 rfl ?hl rfl (by kernel_rfl) ?_;(case hl=>rw[Qbc _ _ _ (by rw[hlS];rfl)];exact hlt);intro v w6 hv hb6 ho6;simp[go_sem]at hv;subst hv)
    | fail)
   go_roundw
   case rel=>
    rw[Qxg (show lim M (k/8)/2^(8*(k%8))%256=M/256^k%256%256 by rw[hbl.out,QAw]),QbI _ _ _ _ (by rw[hlS];rfl) hlt (HGet.out k hlt)]at hb6
    exact⟨k+1,by omega,by go_num,h1.only ho6 (by omega),h2.only ho6 (by omega),hb6,L.only ho6 (by omega)⟩
   case measure=>simp[intOf];omega
  ·rw[show k=32 by omega,Qcu _ _ _ hlS rfl]at h3
   have hkf:decide ((k:Int)<32)=false:=by simp;omega
   go_wp2_with (first
    | (refine Qby rfl 45 _ rfl _ _ _ h3 rfl _ Tryz.underlying45 rfl 32 Qb5 hlS ?_)
    | (refine Qae rfl rfl 45 _ _ rfl _ _ _ _ h2 rfl rfl 32 Qb5 hlS rfl (QaC _) ?_;intro w9 hb9 ho9)
    | fail)
   exact bodyPost_ret (QaK rfl _ _ _ _ ((nb M).map W8) _ hb9 rfl Tryz.underlying45 rfl (by rw[hlS];exact Qb5)) rfl ⟨by rw[HM.out],L.only ho9 (by omega)⟩
theorem Qq8 (x:UInt8) (r:Nat) (hr:r<8):(Qg8 x.toUInt64 (8*r)).toNat=x.toNat*2^(8*r):=by
 rw[Qg8]
 show (BitVec.toNat _)=_
 rw[QzU,Qz7]
 show x.toUInt64.toNat*_%_=_
 rw[UInt8.toNat_toUInt64,QyS]
 have hx:=x.toNat_lt
 have h1:2^(8*r)≤2^56:=QzE (by decide) (by omega)
 have h2:x.toNat*2^(8*r)≤255*2^56:=Nat.mul_le_mul (by omega) h1
 omega
def Qfd (bs:List UInt8):Nat:=if bs.length=32 then num bs%T255%P25 else 0
def QdG (bs:List UInt8):Nat:=if bs.length=32 then 0 else 2
set_option maxRecDepth 100000 in
set_option maxHeartbeats 2000000 in
theorem Qrg (A:Option Addr) (n c:Nat) (bs:List UInt8) (w:World) (hr:RdB w A n bs) (hn:n≤140737488355328):
 Calls Tryz.prog 110 #[.slice A n c] w fun e w'=>e= .returned (.tuple #[E (Qfd bs),.int .i64 (QdG bs:Nat)])∧Later w w':=by
 have hbl:=hr.len
 have hb0:=Blk.new w 228 (Qyl 4 (Value.int .u64 0))
 by_cases h32:n=32
 ·subst h32
  have hRN:=hid (show Qfd bs=num bs%T255%P25 by rw[Qfd,if_pos hbl])
  have hRE:=hid (show QdG bs=0 by rw[QdG,if_pos hbl])
  obtain⟨b,o,rfl,hb,hc⟩:=hr.at_ (by omega)
  have HC:=hid hc
  have HT:=hid (fun k (h:k<32)=>Qrq bs k (by omega))
  have HL:=hid (fun k (h:k≤32)=>show num (bs.take k)<256^k by have:=Qvq (bs.take k);rwa [QyW,QzN (by omega)]at this)
  have HF:=hid (show bs.take 32=bs from QyA (by omega))
  clear hc hr
  go_enter Tryz.func110,Tryz.ntmps110
  go_wp2
  go_loopw [13] (fun i wr=>∃k:Nat,k≤32∧i= .int .i64 k∧Blk wr w.heap.size 228 (Qyl 4 (.int .u64 0))∧Blk wr (w.heap.size+1) 228 (EL (num (bs.take k)))∧Later w wr) (fun i _=>32-(intOf i).toNat)
  case atStart=>exact⟨0,by omega,rfl,hb0.later (Qaa _ _),by rw[QzK];exact Blk.new' _ _ (Qyl 4 (Value.int .u64 0)) (by simp),(Qaa _ _).trans (Qaa _ _)⟩
  case round=>
   clear hb0
   obtain⟨k,hk,rfl,h1,h2,L⟩:=hrel
   by_cases hlt:k<32
   ·have d0:=h2.cellD (k/8) (QbP _ (k/8) (by omega))
    have c0:wr.cell? ⟨b,o+k,none⟩=some (W8 (bs.getD k 0)):=(L.below.cell (p:=⟨b,o+k,none⟩) hb).trans (HC.out k hlt)
    have hct:=QlI k hlt
    have hsb:=Qq8 (bs.getD k 0) (k%8) (by omega)
    have HM:=hid (QtV (num (bs.take k)) (bs.getD k 0).toNat k hlt (HL.out k (by omega)) (UInt8.toNat_lt _))
    have HO:=hid (QuZ (lim (num (bs.take k)) (k/8)) (8*(k%8)) (bs.getD k 0).toNat (Qtl _ k (HL.out k (by omega))))
    have HTk:=hid (HT.out k hlt)
    generalize bs.getD k 0=x at *
    generalize num (bs.take k)=V at *
    go_wp2_with (first
     | (refine Qag rfl rfl _ _ _ rfl _ _ _ _ h2 rfl ?hl rfl (by kernel_rfl) ?_;(case hl=>rw[Qai];omega);intro v w6 hv hb6 ho6;simp[go_sem]at hv;subst hv)
     | fail)
    go_roundw
    case rel=>
     refine⟨k+1,by omega,by go_num,h1.only ho6 (by omega),?_,L.only ho6 (by omega)⟩
     rw[HTk.out,←HM.out,←HO.out]
     first|exact hb6|(rw [hsb]at hb6;exact hb6)
    case measure=>simp[intOf];omega
   ·rw[show k=32 by omega,HF.out]at h2
    have hkf:decide ((k:Int)<32)=false:=by simp;omega
    have d3:=h2.cellD 3 (QbP _ 3 (by omega))
    have hlT:num bs%T255<T256:=QzT (QyV _ (by decide)) (by decide)
    go_wp2_with (first
     | (refine Qag rfl rfl _ _ _ rfl _ _ _ _ h2 rfl ?hl rfl (by kernel_rfl) ?_;(case hl=>rw[Qai];omega);intro v w6 hv hb6 ho6;simp[go_sem]at hv;subst hv
        rw[QlD]at hb6
        have h16:=h1.only ho6 (by omega)
        have L6:=L.only ho6 (by omega))
     | (refine Qa6 rfl _ rfl hb6 rfl ?_)
     | (go_at_call 132;(with_reducible refine (QcW (num bs%T255) hlT _).mono ?_);rintro e w7 ⟨rfl,hl7⟩)
     | (refine Qav rfl rfl _ _ rfl (h16.later hl7) rfl rfl rfl ?_;intro w9 hb9 ho9)
     | fail)
    exact bodyPost_ret (Qaf rfl _ _ _ _ _ _ hb9 rfl Tryz.underlying228 rfl (by rw[Qai];exact Qft)) rfl ⟨by rw[hRN.out,hRE.out];rfl,(L6.trans hl7).only ho9 (by omega)⟩
 ·have hRN:=hid (show Qfd bs=0 by rw[Qfd,if_neg (by omega)])
  have hRE:=hid (show QdG bs=2 by rw[QdG,if_neg (by omega)])
  have hne:((n:Int) != 32)=true:=by simp;omega
  go_enter Tryz.func110,Tryz.ntmps110
  go_wp2_with (first
   | (refine Qar rfl 228 _ rfl (EL 0) ?hb ?_;(case hb=>kernel_rfl))
   | (refine Qav (n:=0) rfl rfl _ _ rfl hb0 rfl rfl rfl ?_;intro w9 hb9 ho9)
   | fail)
  exact bodyPost_ret (Qaf rfl _ _ _ _ _ _ hb9 rfl Tryz.underlying228 rfl (by rw[Qai];exact Qft)) rfl ⟨by rw[hRN.out,hRE.out];rfl,(Qaa _ _).only ho9 (by omega)⟩
@[go_sem] theorem Qxa (T:TypeId) (x:Nat) (hx:x<B32) (yk:IntKind) (k:Int) (h0:0≤k):binOp .shr T (n32 x) (.int yk k)=pure (n32 (x/2^k.toNat)):=by
  rw[n32,Qh7 _ _ _ _ h0,Qr3]
  rw[QbJ]
  show (BitVec.toNat _)=_
  rw[Qzy]
  show (QyU x).toNat >>> _=_
  rw[tn32 hx,Qzs]
  have:x/2^k.toNat<B32:=Qzw (Nat.div_le_self _ _) hx
  rw[QyS this]
@[go_sem] theorem Qls {P:Program} (w:World) (S D:TypeId) (x:Nat) (hs:(P.underlying S).isSome=true) (hd:P.underlying D=some (.int .u8)):(convert S D (n32 x)).run P w= .ok (n8 x) w:=by
  rw[n32,Qe6 _ _ _ _ hs hd,n8_w]
  rw[UInt32.toNat_toUInt8,QAe]
  omega
@[go_sem] theorem Qwl (T:TypeId) (x:Nat) (y:UInt64):binOp .mul T (n64 x) (W64 y)=pure (n64 (x*y.toNat)):=by
  rw[QxE y,Qkl]
@[go_sem] theorem Qx7 (T:TypeId) (x:Nat) (hx:x<B32):binOp .rem T (n32 x) (.int .u32 2147483648)=pure (n32 (x%2147483648)):=by
  rw[n32,QlA _ _ _ (by omega) (by omega) (by decide),Qr3]
  rw[UInt32.toNat_mod,tn32 hx]
  have:x%2147483648<B32:=by unfold B32;omega
  rw[QyS this]
  rfl
theorem QvO (a:Nat) (h:a%P25≠0):a^(P25-1)%P25=1:=by
 have:=QxG.2 a (by unfold P25 at h;exact h)
 unfold P25
 exact this
theorem QrR (a:Nat) (h:a%P25≠0):a*pinv a%P25=1:=by
 rw[pinv,Nat.mul_mod_mod,←QzZ,show (P25-2).succ=P25-1 by unfold P25;rfl]
 exact QvO a h
theorem Qt6 (a:Nat):pinv a<P25:=QyV _ QbK
theorem Qsf (a:Nat):pinv a<T256:=QzT (Qt6 a) (by decide)
@[go_sem] theorem Qw8 (a:Nat):(pinv a<T256)=True:=eq_true (Qsf a)
@[go_sem] theorem one_T:(1<T256)=True:=eq_true (by decide)
@[go_sem] theorem Qyk:(0<T256)=True:=eq_true (by decide)
@[go_sem] theorem T37:(37<T256)=True:=eq_true (by decide)
section
variable {ops:Array Oper} {rest:List Oper} {o:Oper} {a:Act} {w:World} {Q:Exit→Act→World→Prop}
theorem Qgj (hgd:Region.wanted o (yielded ops a.tmps)=true) (x:Operand) (ho:o.op= .load 45 x) {g:Nat} {t:TypeId} {bs:List UInt8} (hb:Blk w g t (bs.map W8)) (hl:bs.length=32) (hx:a.eval x= .pointer (some ⟨g,0,none⟩))
 (h:wpList Tryz.prog ops Q rest (a.put o.dst (.agg (bs.map W8).toArray)) w):wpList Tryz.prog ops Q (o :: rest) a w:=
 Qby hgd _ x ho g t _ hb hx _ Tryz.underlying45 rfl 32 Qb5 (by rw[Qyo,hl]) h
theorem QbT (hgd:o.guard=none) (hd:o.dst=none) (x y:Operand) (ho:o.op= .store 45 x y) {g:Nat} {t:TypeId} {l:List Value} {bs:List UInt8} (hg:Blk w g t l) (hx:a.eval x= .pointer (some ⟨g,0,none⟩)) (hy:a.eval y= .agg (bs.map W8).toArray) (hbl:bs.length=32) (hl:l.length=32)
 (h:∀w',Blk w' g t (bs.map W8)→Only g w w'→wpList Tryz.prog ops Q rest a w'):wpList Tryz.prog ops Q (o :: rest) a w:=
 Qae hgd hd _ x y ho g t l _ hg hx hy 32 Qb5 (by rw[Qyo,hbl]) hl (QaC _) h
end
theorem Qb4 (n:Nat):EL n=[n64 (lim n 0),n64 (lim n 1),n64 (lim n 2),n64 (lim n 3)]:=by
 apply List.ext_getElem (Qai n)
 intro i hi1 hi2
 rw[Qog]
 have:i=0∨i=1∨i=2∨i=3:=by rw[Qai]at hi1;omega
 rcases this with rfl|rfl|rfl|rfl<;>rfl
theorem Qhl (a0 a1 a2 a3 b0 b1 b2 b3:Value) (W:World):
 (Instr.buildSlice 279 2 #[(0,.agg #[a0,a1,a2,a3]),(1,.agg #[b0,b1,b2,b3])]).run Tryz.prog W= .ok (.slice (some ⟨W.heap.size,0,none⟩) 2 2) (W.alloc (.cells #[a0,a1,a2,a3,b0,b1,b2,b3] 228)):=by kernel_rfl
theorem QhU (a b:Nat) (W:World):
 (Instr.buildSlice 279 2 #[(0,E a),(1,E b)]).run Tryz.prog W= .ok (.slice (some ⟨W.heap.size,0,none⟩) 2 2) (W.alloc (.cells (EL a++EL b).toArray 228)):=by
 rw[E,E,Qb4 a,Qb4 b]
 exact Qhl ..
section
variable {ops:Array Oper} {rest:List Oper} {o:Oper} {a:Act} {w:World} {Q:Exit→Act→World→Prop}
theorem Qcw (hw:Region.wanted o (yielded ops a.tmps)=true) (x y:Operand) (ho:o.op= .buildSlice 279 2 #[(0,x),(1,y)]) (n m:Nat) (hx:a.eval x=E n) (hy:a.eval y=E m)
 (h:wpList Tryz.prog ops Q rest (a.put o.dst (.slice (some ⟨w.heap.size,0,none⟩) 2 2)) (w.alloc (.cells (EL n++EL m).toArray 228))):wpList Tryz.prog ops Q (o :: rest) a w:=
 BigFrame.wpList_want hw fun K hK=>by
  have hr:=QhU n m w
  unfold Oper.wp
  simp only[execOp,ho,Qyw,QyJ,QyD,hx,hy,Sem.run_bind,hr,Result.andThen_ok,Sem.run_pure]
  exact hK _ _ h
end
theorem QpS {w:World} {g:Nat} {t:TypeId} {l:List Value} (ns:List Nat) (n:Nat) (hb:Blk w g t l) (hl:l=ns.flatMap EL) (hn:ns.length=n):RdE w (some ⟨g,0,none⟩) n ns:=by
 refine⟨hn,fun _=>⟨g,0,rfl,hb.lt,fun j i v hj hv=>?_⟩⟩
 refine hb.cellD _ ?_
 rw[hl]
 have key:∀(ns:List Nat) (j:Nat),j<ns.length→(EL (ns.getD j 0))[i]?=some v→(ns.flatMap EL)[0+j*4+i]?=some v:=by
  intro ns
  induction ns with
  | nil=>intro j hj;simp at hj
  | cons x ns ih=>
    intro j hj hv
    cases j with
    | zero=>
      rw[Qzl,QyG]
      ·simpa using hv
      ·have:i<(EL x).length:=by
        have:=QyB.1 hv
        exact this.1
       omega
    | succ j=>
      rw[Qzl,QyC (by rw[Qai];omega),Qai]
      have:=ih j (by simpa using hj) (by simpa using hv)
      rw[show 0+(j+1)*4+i-4=0+j*4+i by omega]
      exact this
 exact key ns j (by omega) hv
end Go.Proofs.YtcbdgnlcknllnaaGreat
namespace Go.Proofs.YtcbdgnlcknllnaaGreat
open Go.RowKit
open Go.BigFrame
def Qhh (l:List Nat):List UInt32:=l.map QyU
theorem QsN (n:Nat):NL n=(Qhh (dig B32 8 n)).map W32:=by rw[NL,Qhh,List.map_map];rfl
theorem Qoi {l m:List Nat} (hl:∀x∈l,x<B32) (hm:∀x∈m,x<B32) (h:Qhh l=Qhh m):l=m:=by
 have e:∀l:List Nat,(∀ x∈l,x<B32)→(Qhh l).map UInt32.toNat=l:=by
  intro l hl
  rw[Qhh,List.map_map]
  conv=>rhs;rw[←List.map_id l]
  apply List.map_congr_left
  intro x hx
  exact tn32 (hl x hx)
 rw[←e l hl,←e m hm,h]
theorem QpH {x y:Nat} (hx:x<T256) (hy:y<T256):(Qhh (dig B32 8 x)==Qhh (dig B32 8 y))=(x==y):=by
 rw[Qy7,beq_iff_eq,beq_iff_eq]
 refine⟨fun h=>?_,fun h=>by rw[h]⟩
 have:=Qoi (Qeh Qfv 8 x) (Qeh Qfv 8 y) h
 exact Qom (k:=8) (B:=B32) (by rw[QvM];exact hx) (by rw[QvM];exact hy) this
theorem Qv1:(Tryz.prog.info? 50).map (·.size)=some 1:=by kernel_rfl
theorem Qxb:Tryz.prog.eqGuardType Tryz.prog.depth 141=false:=by kernel_rfl
@[go_sem high] theorem QvT (op:BinOp) (x y:Operand) (xs ys:Array Value) (w:World):(eqGuard op 141 x y (.agg xs) (.agg ys)).run Tryz.prog w= .ok () w:=run_eqGuard_agg w op _ x y xs ys Qxb
@[go_sem high] theorem Qu3 (x y:Nat) (hx:x<T256) (hy:y<T256) (w:World):(binOp .eql 141 (NN x) (NN y)).run Tryz.prog w= .ok (.bool (x==y)) w:=by
  rw[run_eql_struct,QsN,QsN,QaS w 0 W32 9998 141 50 8 Tryz.underlying141 Qv1 Tryz.underlying50 rfl (Qpe _ _ Tryz.underlying50) _ _ (by rw[Qhh,Qyo,QaG]) (by rw[Qhh,Qyo,QaG]),QpH hx hy]
  rfl
@[go_sem] theorem Qvj (T:TypeId) (x:Nat) (hx:x<B32):binOp .rem T (n32 x) (.int .u32 2)=pure (n32 (x%2)):=by
  rw[n32,QlA _ _ _ (by omega) (by omega) (by decide),Qr3]
  rw[UInt32.toNat_mod,tn32 hx]
  have:x%2<B32:=by unfold B32;omega
  rw[QyS this]
  rfl
@[go_sem] theorem QwD (T:TypeId) (x:Nat) (k:Int) (hx:x<B32) (h0:0≤k) (h1:k<4294967296):binOp .eql T (n32 x) (.int .u32 k)=pure (.bool (x==k.toNat)):=by
  rw[QtS k h0 h1,n32,n32,QkC]
  congr 2
  rw[Qy7]
  simp only[beq_iff_eq,←QAt,tn32 hx]
  rw[tn32 (show k.toNat<B32 by unfold B32;omega)]
end Go.Proofs.YtcbdgnlcknllnaaGreat
