/-
  Lemmas for the last text of this claim (part 7 of 20).
-/
import Derived.ArgAppend
import Derived.BigQuiet
import Derived.BigRegion
import Derived.ChangeOld
import Derived.Deep.RegionWith
import Derived.DeepKeys4
import Derived.JoinedCond
import Derived.LaidMore
import Derived.Laws.BytesArg
import Derived.Laws.CopyOwn
import Derived.Laws.Externs
import Derived.Laws.IdiomStrings
import Derived.Laws.Tables
import Derived.Lib.AppendStr
import Derived.Lib.AppendZerosOnto
import Derived.Lib.Mul64
import Derived.Lib.SlBytesConst
import Derived.LoopN
import Derived.Maps.OwnSet
import Derived.OpenShut
import Derived.OrdersHeld
import Derived.ProofKit
import Derived.Shelf.Spec.BitsCarry
import Derived.ShutString
import Derived.Test.YtdhgpkdjdmlphaaGreatProg
import Derived.Test.YtdhgpkdjdmlphaaGreatRows
import Derived.WalkKit
import Derived.WalkLawsBesides
import Derived.WalkSpells
import Derived.Test.YtdhgpkdjdmlphaaGreatUF
open BitVec renaming toNat_ushiftRight → QHz, toNat_shiftLeft → QIy
open Bool renaming and_eq_true → QGM, eq_iff_iff → QHh, or_eq_true → QH4
open Int renaming toNat_natCast → QIq
open List renaming replicate → QGn, getElem?_cons_succ → QGo, getElem?_cons_zero → QGp, getD_eq_getElem?_getD → QGq, length_map → QGr, getElem?_eq_getElem → QGt, cons_append → QGu, nil_append → QGv, setIfInBounds_toArray → QGw, set_cons_zero → QGz, set_cons_succ → QGB, map_toArray → QGC, take_of_length_le → QGD, getElem?_append_right → QGE, getElem?_map → QGF, getElem?_append_left → QGG, map_nil → QGH, mem_cons → QGJ, not_mem_nil → QGK, getElem?_eq_some_iff → QGL, length_take → QGP, length_drop → QGQ, map_cons → QGR, length_set → QGV, take_append_drop → QGX, take_succ_eq_append_getElem → QGY, range → QG0, mem_map → QG2, map_append → QG6, eq_nil_of_length_eq_zero → QG7, all_eq_true → QHa, length_cons → QHe, mem_range → QHg, getElem_mem → QHi, drop_of_length_le → QHj, drop_eq_getElem_cons → QHw, getElem?_drop → QHA, flatMap_cons → QHB, mem_singleton → QHO, map_take → QH0, getElem?_replicate → QH1, range_succ → QH5, nodup_cons → QIj, drop_zero → QIk, map_congr_left → QIB, ext_getElem → QIN, take_zero → QIS
open Nat renaming lt_of_lt_of_le → QGN, mod_eq_of_lt → QGO, zero_add → QGT, mod_lt → QGU, le_trans → QG9, lt_or_ge → QHb, div_div_eq_div_mul → QHk, div_eq_of_lt → QHm, div_add_mod → QHn, mul_comm → QHp, pow_succ → QHq, lt_trans → QHr, pow_le_pow_right → QHt, div_lt_of_lt_mul → QHu, shiftRight_eq_div_pow → QHv, min_eq_left → QHx, le_mul_of_pos_right → QHE, sub_self → QHG, mul_assoc → QHL, mul_mod → QHP, pow_add → QHW, mod_mod → QHX, lt_of_le_of_lt → QHZ, add_mul_div_left → QH6, eq_zero_or_pos → QH8, mul_le_mul_left → QIb, pow_mul → QId, add_zero → QIf, mul_one → QIm, pow_succ' → QIu, pow_pos → QIA, add_comm → QID, shiftLeft_eq → QIF, zero_mod → QII, mul_left_comm → QIJ, zero_mul → QIQ, pow_zero → QIR, add_mod → QIT
open Option renaming toList_some → QGs, map_some → QH9
open UInt32 renaming ofNat → QG5, toNat_ofNat' → QIz, toNat_inj → QIV
open UInt64 renaming ofInt → QHo
open UInt8 renaming ofNat → QG3, toNat_inj → QHl, toNat_ofNat' → QHy, toNat → QIW
set_option linter.all false
namespace Go.Proofs.YtdhgpkdjdmlphaaGreat
def Prm (n:Nat):Prop:=2≤n∧∀d,d ∣ n→d=1∨d=n
def small (n:Nat):Bool:=decide (2≤n)&&(QG0 n).all fun d=>d≤1||n%d != 0
theorem QnC {n:Nat} (h:small n=true):Prm n:=by
 simp only[small,QGM,decide_eq_true_eq,QHa,QHg,QH4,bne_iff_ne]at h
 refine⟨h.1,fun d hd=>?_⟩
 have hle:=Nat.le_of_dvd (by omega) hd
 by_cases he:d=n
 ·exact .inr he
 ·rcases h.2 d (by omega) with h1|h1
  ·rcases QHb 0 d with h0|h0
   ·exact .inl (by omega)
   ·have:d=0:=by omega
    subst this
    have:=Nat.eq_zero_of_zero_dvd hd
    omega
  ·exact absurd (Nat.mod_eq_zero_of_dvd hd) h1
def pwm (m:Nat):Nat→Nat→Nat→Nat
 | 0,_,_=>1%m
 | f+1,b,e=>if e=0 then 1%m else if e%2=1 then b*pwm m f (b*b%m) (e/2)%m else pwm m f (b*b%m) (e/2)
theorem QeD (b e m:Nat):(b%m)^e%m=b^e%m:=(Nat.pow_mod b e m).symm
theorem QqO (m:Nat):∀(f b e:Nat),e<2^f→pwm m f b e=b^e%m
 | 0,b,e,h=>by
   obtain rfl:e=0:=by simpa using h
   rfl
 | f+1,b,e,h=>by
   have ih:=QqO m f (b*b%m) (e/2) (by rw[QHq]at h;omega)
   rw[QeD]at ih
   have hb:(b*b)^(e/2)=b^(2*(e/2)):=by rw[QId,Nat.pow_two]
   rw[hb]at ih
   rw[pwm]
   split
   ·rename_i h0
    rw[h0]
    rfl
   ·split
    ·rename_i h1
     rw[ih,Nat.mul_mod_mod,←QIu]
     congr 2
     omega
    ·rw[ih]
     congr 2
     omega
theorem Qhf (t:Nat) (ht:1<t):∀fs:List Nat,(∀ q∈fs,Prm q)→t ∣ fs.foldr (· *·) 1→∃q∈fs,q ∣ t
 | [],_,h=>by
   have:=Nat.le_of_dvd (by decide) h
   simp at this
   omega
 | q :: fs,hp,h=>by
   have hq:=hp q (by simp)
   rcases hq.2 (Nat.gcd t q) (Nat.gcd_dvd_right t q) with h1|h1
   ·obtain⟨r,hr,hd⟩:=Qhf t ht fs (fun r hr=>hp r (by simp[hr])) (Nat.Coprime.dvd_of_dvd_mul_left h1 h)
    exact⟨r,by simp[hr],hd⟩
   ·exact⟨q,by simp,h1 ▸ Nat.gcd_dvd_left t q⟩
theorem Qei:∀(l m:List Nat),l.Nodup→(∀ x∈l,x∈m)→l.length≤m.length
 | [],_,_,_=>Nat.zero_le _
 | x :: l,m,h,hs=>by
   rw[QIj]at h
   have hx:=hs x (by simp)
   have:=Qei l (m.erase x) h.2 (fun y hy=>(List.mem_erase_of_ne (fun e=>by subst e;exact h.1 hy)).2 (hs y (by simp[hy])))
   rw[List.length_erase_of_mem hx]at this
   have:=List.length_pos_of_mem hx
   simp only[QHe]
   omega
theorem Qpg (l:List Nat) (n:Nat) (hd:l.Nodup) (hl:l.length=n) (hb:∀x∈l,0<x∧x<n+1) (a:Nat) (h0:0<a) (h1:a<n+1):a∈l:=by
 refine Classical.byContradiction fun ha=>?_
 have:=Qei (0 :: a :: l) (QG0 (n+1)) (by
  rw[QIj,QIj]
  refine⟨?_,ha,hd⟩
  intro h
  rcases QGJ.1 h with h|h
  ·omega
  ·have:=hb 0 h
   omega) (by
  intro x hx
  rw[QHg]
  rcases QGJ.1 hx with rfl|hx
  ·omega
  ·rcases QGJ.1 hx with rfl|hx
   ·omega
   ·exact (hb x hx).2)
 simp[hl]at this
 omega
theorem QgO {g n k:Nat} (hn:2≤n) (h:g^k%n=1) (j:Nat):g^(k*j)%n=1:=by
 rw[QId,Nat.pow_mod,h,Nat.one_pow]
 exact QGO (by omega)
theorem QiI {a b n:Nat} (ha:a%n=1):a*b%n=b%n:=by
 rw[QHP,ha,Nat.one_mul,QHX]
theorem QfZ (f:Nat→Nat):∀n,(∀ i j,i<j→j<n→f i≠f j)→((QG0 n).map f).Nodup
 | 0,_=>by simp
 | n+1,h=>by
   rw[QH5,QG6,List.nodup_append]
   refine⟨QfZ f n fun i j hi hj=>h i j hi (by omega),by simp,?_⟩
   intro a ha b hb
   obtain⟨i,hi,rfl⟩:=QG2.1 ha
   rw[QHg]at hi
   simp only[QGR,QGH,QHO]at hb
   subst hb
   exact h i n hi (by omega)
theorem QF9 (n g:Nat) (fs:List Nat) (hn:2≤n) (hprod:fs.foldr (· *·) 1=n-1) (hpr:∀q∈fs,Prm q) (h1:g^(n-1)%n=1) (h2:∀q∈fs,g^((n-1)/q)%n≠1):
 Prm n∧∀a,a%n≠0→a^(n-1)%n=1:=by
 have hord:∀k,0<k→k<n-1→g^k%n≠1:=by
  intro k
  induction k using Nat.strongRecOn with
  | _ m ih=>
    intro h0 hlt hg
    by_cases hr:(n-1)%m=0
    ·have ht:m*((n-1)/m)=n-1:=Nat.mul_div_cancel' (Nat.dvd_of_mod_eq_zero hr)
     generalize (n-1)/m=t at ht
     have ht1:1<t:=by
      rcases QHb 1 t with h|h
      ·exact h
      ·have:m*t≤m*1:=QIb m h
       omega
     obtain⟨q,hq,u,hu⟩:=Qhf t ht1 fs hpr (by rw[hprod,←ht];exact Nat.dvd_mul_left t m)
     have hqp:=(hpr q hq).1
     refine h2 q hq ?_
     have:(n-1)/q=m*u:=by
      rw[←ht,hu,QIJ]
      exact Nat.mul_div_cancel_left _ (by omega)
     rw[this]
     exact QgO hn hg u
    ·refine ih ((n-1)%m) (QGU _ h0) (by omega) (by have:=QGU (n-1) h0;omega) ?_
     have hd:g^(m*((n-1)/m))*g^((n-1)%m)=g^(n-1):=by rw[←QHW,QHn]
     have e:=QiI (b:=g^((n-1)%m)) (QgO hn hg ((n-1)/m))
     rw[hd,h1]at e
     exact e.symm
 have hinv:∀i,i≤n-1→g^i*g^(n-1-i)%n=1:=by
  intro i hi
  rw[←QHW,show i+(n-1-i)=n-1 by omega]
  exact h1
 have hnz:∀i,i≤n-1→g^i%n≠0:=by
  intro i hi h
  have:=hinv i hi
  rw[QHP,h,QIQ,QII]at this
  omega
 have hall:∀a,a%n≠0→∃i,i<n-1∧g^i%n=a%n:=by
  intro a ha
  have:=Qpg ((QG0 (n-1)).map fun i=>g^i%n) (n-1) (QfZ _ _ (by
   intro i j hi hj he
   refine hord (j-i) (by omega) (by omega) ?_
   have e1:g^j=g^i*g^(j-i):=by rw[←QHW];congr 1;omega
   have e2:=hinv i (by omega)
   have e3:g^(n-1-i)*g^j%n=g^(n-1-i)*g^i%n:=by rw[QHP,←he,←QHP]
   rw[e1,←QHL,QHp (g^(n-1-i)),QiI e2,e2]at e3
   exact e3)) (by simp) (by
   intro x hx
   obtain⟨i,hi,rfl⟩:=QG2.1 hx
   rw[QHg]at hi
   have:=hnz i (by omega)
   have:=QGU (g^i) (show 0<n by omega)
   omega) (a%n) (by omega) (by have:=QGU a (show 0<n by omega);omega)
  obtain⟨i,hi,he⟩:=QG2.1 this
  exact⟨i,QHg.1 hi,he⟩
 have hfer:∀a,a%n≠0→a^(n-1)%n=1:=by
  intro a ha
  obtain⟨i,_,he⟩:=hall a ha
  rw[←QeD,←he,QeD,←QId,QHp]
  exact QgO hn h1 i
 refine⟨⟨hn,fun d hd=>?_⟩,hfer⟩
 by_cases hdn:d=n
 ·exact .inr hdn
 ·refine .inl ?_
  have hle:=Nat.le_of_dvd (by omega) hd
  have hd0:d≠0:=fun h=>by
   subst h
   have:=Nat.eq_zero_of_zero_dvd hd
   omega
  have h3:=hfer d (by rw[QGO (by omega)];exact hd0)
  have h4:d ∣ d^(n-1):=by
   obtain⟨k,hk⟩:∃k,n-1=k+1:=⟨n-2,by omega⟩
   rw[hk,QHq]
   exact Nat.dvd_mul_left d _
  have h5:d ∣ d^(n-1)%n:=(Nat.dvd_mod_iff hd).2 h4
  rw[h3]at h5
  exact Nat.dvd_one.1 h5
def QCJ (n g:Nat) (fs:List Nat):Bool:=
 decide (2≤n)&&decide (n<2^256)&&(fs.foldr (· *·) 1==n-1)&&(pwm n 256 g (n-1)==1)&&fs.all fun q=>pwm n 256 g ((n-1)/q) != 1
theorem Qau (n g:Nat) (fs:List Nat) (h:QCJ n g fs=true) (hpr:∀q∈fs,Prm q):Prm n∧∀a,a%n≠0→a^(n-1)%n=1:=by
 simp only[QCJ,QGM,decide_eq_true_eq,beq_iff_eq,QHa,bne_iff_ne]at h
 obtain⟨⟨⟨⟨h1,h2⟩,h3⟩,h4⟩,h5⟩:=h
 refine QF9 n g fs h1 h3 hpr ?_ ?_
 ·rw[QqO _ _ _ _ (by omega)]at h4
  exact h4
 ·intro q hq
  have:=h5 q hq
  rw[QqO _ _ _ _ (QHZ (Nat.div_le_self _ _) (by omega))]at this
  exact this
def Qmq:List Nat:=[2,3,5,7,13,17,19,23,29,31,41,43,47,59,83,97,103,107,127,131,173,223,353,419,479,487,991]
theorem Qae:∀q∈Qmq,Prm q:=fun q hq=>QnC (QHa.1 (show Qmq.all small=true by decide +kernel) q hq)
theorem Qtm:Prm 32573∧∀a,a%32573≠0→a^(32573-1)%32573=1:=
 Qau 32573 2 [2,2,17,479] (by decide +kernel) (by
  intro q hq
  simp only[QGJ,QGK,or_false]at hq
  rcases hq with rfl|rfl|rfl|rfl
  ·exact Qae _ (by decide)
  ·exact Qae _ (by decide)
  ·exact Qae _ (by decide)
  ·exact Qae _ (by decide))
theorem Qu0:Prm 65147∧∀a,a%65147≠0→a^(65147-1)%65147=1:=
 Qau 65147 2 [2,32573] (by decide +kernel) (by
  intro q hq
  simp only[QGJ,QGK,or_false]at hq
  rcases hq with rfl|rfl
  ·exact Qae _ (by decide)
  ·exact Qtm.1)
theorem Quk:Prm 57467∧∀a,a%57467≠0→a^(57467-1)%57467=1:=
 Qau 57467 2 [2,59,487] (by decide +kernel) (by
  intro q hq
  simp only[QGJ,QGK,or_false]at hq
  rcases hq with rfl|rfl|rfl
  ·exact Qae _ (by decide)
  ·exact Qae _ (by decide)
  ·exact Qae _ (by decide))
theorem QrM:Prm 132049∧∀a,a%132049≠0→a^(132049-1)%132049=1:=
 Qau 132049 26 [2,2,2,2,3,3,7,131] (by decide +kernel) (by
  intro q hq
  simp only[QGJ,QGK,or_false]at hq
  rcases hq with rfl|rfl|rfl|rfl|rfl|rfl|rfl|rfl
  ·exact Qae _ (by decide)
  ·exact Qae _ (by decide)
  ·exact Qae _ (by decide)
  ·exact Qae _ (by decide)
  ·exact Qae _ (by decide)
  ·exact Qae _ (by decide)
  ·exact Qae _ (by decide)
  ·exact Qae _ (by decide))
theorem Qyi:Prm 3727∧∀a,a%3727≠0→a^(3727-1)%3727=1:=
 Qau 3727 3 [2,3,3,3,3,23] (by decide +kernel) (by
  intro q hq
  simp only[QGJ,QGK,or_false]at hq
  rcases hq with rfl|rfl|rfl|rfl|rfl|rfl
  ·exact Qae _ (by decide)
  ·exact Qae _ (by decide)
  ·exact Qae _ (by decide)
  ·exact Qae _ (by decide)
  ·exact Qae _ (by decide)
  ·exact Qae _ (by decide))
theorem QoS:Prm 1923133∧∀a,a%1923133≠0→a^(1923133-1)%1923133=1:=
 Qau 1923133 2 [2,2,3,43,3727] (by decide +kernel) (by
  intro q hq
  simp only[QGJ,QGK,or_false]at hq
  rcases hq with rfl|rfl|rfl|rfl|rfl
  ·exact Qae _ (by decide)
  ·exact Qae _ (by decide)
  ·exact Qae _ (by decide)
  ·exact Qae _ (by decide)
  ·exact Qyi.1)
theorem QlN:Prm 1723∧∀a,a%1723≠0→a^(1723-1)%1723=1:=
 Qau 1723 3 [2,3,7,41] (by decide +kernel) (by
  intro q hq
  simp only[QGJ,QGK,or_false]at hq
  rcases hq with rfl|rfl|rfl|rfl
  ·exact Qae _ (by decide)
  ·exact Qae _ (by decide)
  ·exact Qae _ (by decide)
  ·exact Qae _ (by decide))
theorem Qr9:Prm 430751∧∀a,a%430751≠0→a^(430751-1)%430751=1:=
 Qau 430751 17 [2,5,5,5,1723] (by decide +kernel) (by
  intro q hq
  simp only[QGJ,QGK,or_false]at hq
  rcases hq with rfl|rfl|rfl|rfl|rfl
  ·exact Qae _ (by decide)
  ·exact Qae _ (by decide)
  ·exact Qae _ (by decide)
  ·exact Qae _ (by decide)
  ·exact QlN.1)
theorem QwH:Prm 4153∧∀a,a%4153≠0→a^(4153-1)%4153=1:=
 Qau 4153 5 [2,2,2,3,173] (by decide +kernel) (by
  intro q hq
  simp only[QGJ,QGK,or_false]at hq
  rcases hq with rfl|rfl|rfl|rfl|rfl
  ·exact Qae _ (by decide)
  ·exact Qae _ (by decide)
  ·exact Qae _ (by decide)
  ·exact Qae _ (by decide)
  ·exact Qae _ (by decide))
theorem QfI:Prm 31757755568855353∧∀a,a%31757755568855353≠0→a^(31757755568855353-1)%31757755568855353=1:=
 Qau 31757755568855353 10 [2,2,2,3,31,107,223,4153,430751] (by decide +kernel) (by
  intro q hq
  simp only[QGJ,QGK,or_false]at hq
  rcases hq with rfl|rfl|rfl|rfl|rfl|rfl|rfl|rfl|rfl
  ·exact Qae _ (by decide)
  ·exact Qae _ (by decide)
  ·exact Qae _ (by decide)
  ·exact Qae _ (by decide)
  ·exact Qae _ (by decide)
  ·exact Qae _ (by decide)
  ·exact Qae _ (by decide)
  ·exact QwH.1
  ·exact Qr9.1)
theorem Qys:Prm 9463∧∀a,a%9463≠0→a^(9463-1)%9463=1:=
 Qau 9463 3 [2,3,19,83] (by decide +kernel) (by
  intro q hq
  simp only[QGJ,QGK,or_false]at hq
  rcases hq with rfl|rfl|rfl|rfl
  ·exact Qae _ (by decide)
  ·exact Qae _ (by decide)
  ·exact Qae _ (by decide)
  ·exact Qae _ (by decide))
theorem Qv8:Prm 37853∧∀a,a%37853≠0→a^(37853-1)%37853=1:=
 Qau 37853 2 [2,2,9463] (by decide +kernel) (by
  intro q hq
  simp only[QGJ,QGK,or_false]at hq
  rcases hq with rfl|rfl|rfl
  ·exact Qae _ (by decide)
  ·exact Qae _ (by decide)
  ·exact Qys.1)
theorem QtT:Prm 75707∧∀a,a%75707≠0→a^(75707-1)%75707=1:=
 Qau 75707 2 [2,37853] (by decide +kernel) (by
  intro q hq
  simp only[QGJ,QGK,or_false]at hq
  rcases hq with rfl|rfl
  ·exact Qae _ (by decide)
  ·exact Qv8.1)
theorem Qyb:Prm 2437∧∀a,a%2437≠0→a^(2437-1)%2437=1:=
 Qau 2437 2 [2,2,3,7,29] (by decide +kernel) (by
  intro q hq
  simp only[QGJ,QGK,or_false]at hq
  rcases hq with rfl|rfl|rfl|rfl|rfl
  ·exact Qae _ (by decide)
  ·exact Qae _ (by decide)
  ·exact Qae _ (by decide)
  ·exact Qae _ (by decide)
  ·exact Qae _ (by decide))
theorem Qs2:Prm 569003∧∀a,a%569003≠0→a^(569003-1)%569003=1:=
 Qau 569003 2 [2,7,97,419] (by decide +kernel) (by
  intro q hq
  simp only[QGJ,QGK,or_false]at hq
  rcases hq with rfl|rfl|rfl|rfl
  ·exact Qae _ (by decide)
  ·exact Qae _ (by decide)
  ·exact Qae _ (by decide)
  ·exact Qae _ (by decide))
theorem Qkf:Prm 2773320623∧∀a,a%2773320623≠0→a^(2773320623-1)%2773320623=1:=
 Qau 2773320623 5 [2,2437,569003] (by decide +kernel) (by
  intro q hq
  simp only[QGJ,QGK,or_false]at hq
  rcases hq with rfl|rfl|rfl
  ·exact Qae _ (by decide)
  ·exact Qyb.1
  ·exact Qs2.1)
theorem QiZ:Prm 72106336199∧∀a,a%72106336199≠0→a^(72106336199-1)%72106336199=1:=
 Qau 72106336199 7 [2,13,2773320623] (by decide +kernel) (by
  intro q hq
  simp only[QGJ,QGK,or_false]at hq
  rcases hq with rfl|rfl|rfl
  ·exact Qae _ (by decide)
  ·exact Qae _ (by decide)
  ·exact Qkf.1)
theorem QpM:Prm 8574133∧∀a,a%8574133≠0→a^(8574133-1)%8574133=1:=
 Qau 8574133 2 [2,2,3,7,103,991] (by decide +kernel) (by
  intro q hq
  simp only[QGJ,QGK,or_false]at hq
  rcases hq with rfl|rfl|rfl|rfl|rfl|rfl
  ·exact Qae _ (by decide)
  ·exact Qae _ (by decide)
  ·exact Qae _ (by decide)
  ·exact Qae _ (by decide)
  ·exact Qae _ (by decide)
  ·exact Qae _ (by decide))
theorem Qgm:Prm 1919519569386763∧∀a,a%1919519569386763≠0→a^(1919519569386763-1)%1919519569386763=1:=
 Qau 1919519569386763 2 [2,3,7,19,47,47,127,8574133] (by decide +kernel) (by
  intro q hq
  simp only[QGJ,QGK,or_false]at hq
  rcases hq with rfl|rfl|rfl|rfl|rfl|rfl|rfl|rfl
  ·exact Qae _ (by decide)
  ·exact Qae _ (by decide)
  ·exact Qae _ (by decide)
  ·exact Qae _ (by decide)
  ·exact Qae _ (by decide)
  ·exact Qae _ (by decide)
  ·exact Qae _ (by decide)
  ·exact QpM.1)
theorem QcA:Prm 75445702479781427272750846543864801∧∀a,a%75445702479781427272750846543864801≠0→a^(75445702479781427272750846543864801-1)%75445702479781427272750846543864801=1:=
 Qau 75445702479781427272750846543864801 7 [2,2,2,2,2,3,3,5,5,75707,72106336199,1919519569386763] (by decide +kernel) (by
  intro q hq
  simp only[QGJ,QGK,or_false]at hq
  rcases hq with rfl|rfl|rfl|rfl|rfl|rfl|rfl|rfl|rfl|rfl|rfl|rfl
  ·exact Qae _ (by decide)
  ·exact Qae _ (by decide)
  ·exact Qae _ (by decide)
  ·exact Qae _ (by decide)
  ·exact Qae _ (by decide)
  ·exact Qae _ (by decide)
  ·exact Qae _ (by decide)
  ·exact Qae _ (by decide)
  ·exact Qae _ (by decide)
  ·exact QtT.1
  ·exact QiZ.1
  ·exact Qgm.1)
theorem Qa7:Prm 74058212732561358302231226437062788676166966415465897661863160754340907∧∀a,a%74058212732561358302231226437062788676166966415465897661863160754340907≠0→a^(74058212732561358302231226437062788676166966415465897661863160754340907-1)%74058212732561358302231226437062788676166966415465897661863160754340907=1:=
 Qau 74058212732561358302231226437062788676166966415465897661863160754340907 2 [2,3,353,57467,132049,1923133,31757755568855353,75445702479781427272750846543864801] (by decide +kernel) (by
  intro q hq
  simp only[QGJ,QGK,or_false]at hq
  rcases hq with rfl|rfl|rfl|rfl|rfl|rfl|rfl|rfl
  ·exact Qae _ (by decide)
  ·exact Qae _ (by decide)
  ·exact Qae _ (by decide)
  ·exact Quk.1
  ·exact QrM.1
  ·exact QoS.1
  ·exact QfI.1
  ·exact QcA.1)
theorem QFP:Prm 57896044618658097711785492504343953926634992332820282019728792003956564819949∧∀a,a%57896044618658097711785492504343953926634992332820282019728792003956564819949≠0→a^(57896044618658097711785492504343953926634992332820282019728792003956564819949-1)%57896044618658097711785492504343953926634992332820282019728792003956564819949=1:=
 Qau 57896044618658097711785492504343953926634992332820282019728792003956564819949 2 [2,2,3,65147,74058212732561358302231226437062788676166966415465897661863160754340907] (by decide +kernel) (by
  intro q hq
  simp only[QGJ,QGK,or_false]at hq
  rcases hq with rfl|rfl|rfl|rfl|rfl
  ·exact Qae _ (by decide)
  ·exact Qae _ (by decide)
  ·exact Qae _ (by decide)
  ·exact Qu0.1
  ·exact Qa7.1)
end Go.Proofs.YtdhgpkdjdmlphaaGreat
namespace Go.Proofs.YtdhgpkdjdmlphaaGreat
open Go.RowKit
def num (bs:List UInt8):Nat:=val 256 (bs.map QIW)
theorem Qp2 (bs:List UInt8) (j:Nat) (h:j<bs.length):num (bs.drop j)=(bs.getD j 0).toNat+256*num (bs.drop (j+1)):=by
 rw[QHw h,num,QGR,val,num,QGq,QGt h]
 rfl
def dn:Nat→Int
 | 0=> -1
 | j+1=>j
theorem QlP:dn 0= -1:=rfl
theorem Qlv (j:Nat):dn (j+1)=j:=rfl
theorem QfR (j:Nat):(j:Int)-1=dn j:=by
 cases j with
 | zero=>rfl
 | succ j=>simp only[dn];omega
theorem Qv2 (x:UInt8) (m:Nat):(shr8 x m &&& 1).toNat=x.toNat/2^m%2:=by
 rw[UInt8.toNat_and]
 have e:(shr8 x m).toNat=x.toNat/2^m:=by
  rw[shr8]
  show (BitVec.toNat _)=_
  rw[QHz,QHv]
  rfl
 rw[e]
 exact Nat.and_two_pow_sub_one_eq_mod _ 1
theorem QuV (x:UInt8) (m:Nat):(shr8 x m &&& 1==1)=decide (x.toNat/2^m%2=1):=by
 rw[←Qv2,QHh,beq_iff_eq,decide_eq_true_eq,←QHl]
 rfl
theorem pow_two (a e P:Nat):(a^e%P)*(a^e%P)%P=a^(2*e)%P:=by rw[←QHP,←QHW,Nat.two_mul]
theorem Qot (a e P:Nat):(a^e%P)*(a^e%P)*a%P=a^(2*e+1)%P:=by
 rw[QHq,QHP,pow_two,←QHP]
theorem Qxi (N x m:Nat) (hm:m<8):N*2^(8-m)+x/2^m=2*(N*2^(8-(m+1))+x/2^(m+1))+x/2^m%2:=by
 rw[show 8-m=(8-(m+1))+1 by omega,QHq,QHq,←QHk,←QHL]
 omega
theorem of_1 (w:World):Calls Tryz.prog 93 #[.int .u64 1] w fun e w'=>e= .returned (E 1)∧Later w w':=Qt5 1 (by decide) w
set_option maxRecDepth 100000 in
set_option maxHeartbeats 2000000 in
theorem QtF (a:Nat) (ha:a<T256) (A:Option Addr) (n c:Nat) (bs:List UInt8) (w:World) (hr:RdB w A n bs) (hn:n≤140737488355328):
 Calls Tryz.prog 180 #[E a,.slice A n c] w fun e w'=>e= .returned (E (a^num bs%P25))∧Later w w':=by
 have hbl:=hr.len
 have h1:Blk ((w.alloc (.cells (EL a).toArray 211)).alloc (.cells (QGn 4 (.int .u64 0)).toArray 211)) w.heap.size 211 (EL a):=(Blk.new _ _ _).later (Qaa _ _)
 have h2:Blk ((w.alloc (.cells (EL a).toArray 211)).alloc (.cells (QGn 4 (.int .u64 0)).toArray 211)) (w.heap.size+1) 211 (QGn 4 (.int .u64 0)):=Blk.new' _ _ _ (by simp)
 have L0:Later w ((w.alloc (.cells (EL a).toArray 211)).alloc (.cells (QGn 4 (.int .u64 0)).toArray 211)):=(Qaa _ _).trans (Qaa _ _)
 go_enter Tryz.func180,Tryz.ntmps180
 go_wp2_with (first
  | (go_at_call 93;(with_reducible refine (of_1 _).mono ?_);rintro e w2 ⟨rfl,hl2⟩)
  | (refine QaI rfl rfl _ _ rfl (Blk.new w2 _ (QGn 4 (.int .u64 0))) rfl rfl rfl ?_;intro w3 hb3 ho3)
  | fail)
 have h13:=((h1.later hl2).later (Qaa _ (.cells (QGn 4 (.int .u64 0)).toArray 211))).only ho3 (by have:=(h1.later hl2).lt;omega)
 have h23:=((h2.later hl2).later (Qaa _ (.cells (QGn 4 (.int .u64 0)).toArray 211))).only ho3 (by have:=(h2.later hl2).lt;omega)
 have L3:=((L0.trans hl2).alloc (.cells (QGn 4 (.int .u64 0)).toArray 211)).only ho3 (by have:=(L0.trans hl2).size;omega)
 have hg:w.heap.size+1<w2.heap.size:=(h2.later hl2).lt
 generalize w2.heap.size=g at *
 clear h1 h2 L0 hl2 ho3
 go_loopw [6] (fun i wr=>∃k:Nat,k≤n∧i= .int .i64 (dn k)∧Blk wr w.heap.size 211 (EL a)∧Blk wr (w.heap.size+1) 211 (QGn 4 (.int .u64 0))∧Blk wr g 211 (EL (a^num (bs.drop k)%P25))∧Later w wr) (fun i _=>(intOf i+1).toNat)
 case atStart=>
  refine⟨n,by omega,by rw[←QfR],h13,h23,?_,L3⟩
  rw[QHj (by omega)]
  exact hb3
 case round=>
  clear h13 h23 hb3 L3
  obtain⟨k,hk,rfl,h1,h2,h3,L⟩:=hrel
  cases k with
  | zero=>
    rw[QIk]at h3
    obtain⟨y,hy⟩:∃y,y=a^num bs%P25:=⟨_,rfl⟩
    rw[←hy]at h3
    have HY:=hid hy
    clear hy
    simp only[QlP]
    go_wp2_with (first
     | (refine QbK rfl _ rfl h3 rfl ?_)
     | (refine QaI rfl rfl _ _ rfl h2 rfl rfl rfl ?_;intro w9 hb9 ho9)
     | fail)
    exact bodyPost_ret (QhU rfl hb9 rfl) rfl ⟨by rw[HY.out],L.only ho9 (by omega)⟩
  | succ j=>
    obtain⟨b,o,rfl,hb,hc⟩:=hr.at_ (by omega)
    have HC:=hid (hc j (by omega))
    have HN:=hid (Qp2 bs j (by omega))
    clear hc hr
    simp only[Qlv]
    generalize bs.getD j 0=x at *
    generalize num (bs.drop (j+1))=N at *
    generalize hNN:num (bs.drop j)=N' at *
    have HNN:=hid hNN
    clear hNN
    go_wp2_with fail
    go_loopw [7] (fun i wr=>∃m:Nat,m≤8∧i= .int .i64 (dn m)∧Blk wr w.heap.size 211 (EL a)∧Blk wr (w.heap.size+1) 211 (QGn 4 (.int .u64 0))∧Blk wr g 211 (EL (a^(N*2^(8-m)+x.toNat/2^m)%P25))∧Later w wr) (fun i _=>(intOf i+1).toNat)
    case atStart=>
     refine⟨8,by omega,rfl,h1,h2,?_,L⟩
     have:x.toNat/2^8=0:=QHm x.toNat_lt
     rw[this,QHG,QIR,QIm,QIf]
     exact h3
    case round=>
     clear h1 h2 h3 L
     obtain⟨m,hm,rfl,h1,h2,h3,L⟩:=hrel
     cases m with
     | zero=>
       simp only[QlP]
       go_wp2_with fail
       go_roundw
       case rel=>
        refine⟨j,by omega,by rw[QfR],h1,h2,?_,L⟩
        have e:N*2^(8-0)+x.toNat/2^0=N':=by
         rw[HN.out,QIR,Nat.div_one]
         show N*256+_=_
         omega
        rw[e]at h3
        have hn':num (bs.drop j)=N':=HNN.out
        rw[hn']
        exact h3
       case measure=>simp[intOf]
     | succ m=>
       have d0:wr.cell? ⟨b,o+j,none⟩=some (W8 x):=(L.below.cell (p:=⟨b,o+j,none⟩) hb).trans HC.out
       have HE:=hid (Qxi N x.toNat m (by omega))
       obtain⟨y,hy⟩:∃y,y=a^(N*2^(8-(m+1))+x.toNat/2^(m+1))%P25:=⟨_,rfl⟩
       rw[←hy]at h3
       have hyT:y<T256:=by rw[hy];exact QHr (QGU _ Qbp) (by decide)
       have HY:=hid hy
       clear hy
       have hyy:y*y%P25<T256:=QHr (QGU _ Qbp) (by decide)
       have hbe:=QuV x m
       have hcnt:cnt (QHo (m:Int))=m:=by rw[QfC,cnt,tn64 (by unfold B64;omega)]
       simp only[Qlv]
       rcases Nat.mod_two_eq_zero_or_one (x.toNat/2^m) with hz|hz
       ·have hd:(shr8 x m &&& 1==1)=false:=by rw[hbe,hz];rfl
        have HZ:=hid hz
        clear hbe hz
        go_wp2_with (first
         | (refine QbK rfl _ rfl h3 rfl ?_)
         | (go_at_call 157;(with_reducible refine (Qht y hyT _).mono ?_);rintro e w4 ⟨rfl,hl4⟩)
         | (refine QaI rfl rfl _ _ rfl (h3.later hl4) rfl rfl (Qak _) ?_;intro w5 hb5 ho5
            have d5:w5.cell? ⟨b,o+j,none⟩=some (W8 x):=(((L.trans hl4).only ho5 (by omega)).below.cell (p:=⟨b,o+j,none⟩) hb).trans HC.out)
         | fail)
        go_roundw
        case rel=>
         refine⟨m,by omega,by rw[QfR],(h1.later hl4).only ho5 (by omega),(h2.later hl4).only ho5 (by omega),?_,(L.trans hl4).only ho5 (by omega)⟩
         rw[HE.out,HZ.out,QIf,←pow_two,←HY.out]
         exact hb5
        case measure=>simp[intOf]
       ·have hd:(shr8 x m &&& 1==1)=true:=by rw[hbe,hz];rfl
        have HZ:=hid hz
        clear hbe hz
        go_wp2_with (first
         | (refine QbK rfl _ rfl h3 rfl ?_)
         | (go_at_call 157;(with_reducible refine (Qht y hyT _).mono ?_);rintro e w4 ⟨rfl,hl4⟩)
         | (refine QaI rfl rfl _ _ rfl (h3.later hl4) rfl rfl (Qak _) ?_;intro w5 hb5 ho5
            have d5:w5.cell? ⟨b,o+j,none⟩=some (W8 x):=(((L.trans hl4).only ho5 (by omega)).below.cell (p:=⟨b,o+j,none⟩) hb).trans HC.out
            have h15:=(h1.later hl4).only ho5 (by omega))
         | (refine QbK rfl _ rfl hb5 rfl ?_)
         | (refine QbK rfl _ rfl h15 rfl ?_)
         | (go_at_call 159;(with_reducible refine (Qem (y*y%P25) a hyy ha _).mono ?_);rintro e w6 ⟨rfl,hl6⟩)
         | (refine QaI rfl rfl _ _ rfl (hb5.later hl6) rfl rfl (Qak _) ?_;intro w7 hb7 ho7)
         | fail)
        go_roundw
        case rel=>
         refine⟨m,by omega,by rw[QfR],(h15.later hl6).only ho7 (by omega),(((h2.later hl4).only ho5 (by omega)).later hl6).only ho7 (by omega),?_,(((L.trans hl4).only ho5 (by omega)).trans hl6).only ho7 (by omega)⟩
         rw[HE.out,HZ.out,←Qot,←HY.out]
         first|exact hb7|(rw [Nat.mod_mul_mod]at hb7;exact hb7)
        case measure=>simp[intOf]
theorem QC4 {w:World} {g:Nat} {t:TypeId} {l:List Value} {n:Nat} (h:Blk w g t l) (hn:l.length=n):Rd w (some ⟨g,0,none⟩) n l:=
 ⟨hn,fun _=>⟨g,0,rfl,h.lt,fun j u hu=>by rw[QGT];exact h.cellD j hu⟩⟩
theorem Qcv {w:World} {g:Nat} {t:TypeId} {bs:List UInt8} {n:Nat} (h:Blk w g t (bs.map W8)) (hn:bs.length=n):RdB w (some ⟨g,0,none⟩) n bs:=QC4 h (by simpa using hn)
def Qiv:List UInt8:=235 :: (QGn 30 255++[127])
theorem Qwl:num Qiv=P25-2:=by decide
def pinv (a:Nat):Nat:=a^(P25-2)%P25
theorem QqK (l:List Value) (hl:l=QGn 32 (Value.int .u8 255)):(l.set 0 (.int .u8 235)).set 31 (.int .u8 127)=Qiv.map W8:=by
 subst hl
 rfl
set_option maxRecDepth 100000 in
set_option maxHeartbeats 2000000 in
theorem QAp (a:Nat) (ha:a<T256) (w:World):
 Calls Tryz.prog 160 #[E a] w fun e w'=>e= .returned (E (pinv a))∧Later w w':=by
 have h1:Blk ((w.alloc (.cells (EL a).toArray 211)).alloc (.cells (QGn 4 (.int .u64 0)).toArray 211)) w.heap.size 211 (EL a):=(Blk.new _ _ _).later (Qaa _ _)
 have h2:Blk ((w.alloc (.cells (EL a).toArray 211)).alloc (.cells (QGn 4 (.int .u64 0)).toArray 211)) (w.heap.size+1) 211 (QGn 4 (.int .u64 0)):=Blk.new' _ _ _ (by simp)
 have L0:Later w ((w.alloc (.cells (EL a).toArray 211)).alloc (.cells (QGn 4 (.int .u64 0)).toArray 211)):=(Qaa _ _).trans (Qaa _ _)
 have HP:=hid (QtF a ha)
 have HN:=hid Qwl
 go_enter Tryz.func160,Tryz.ntmps160
 go_wp2_with (first
  | (refine QaA rfl _ _ 22 rfl 5 (.int .u8 0) 1 Tryz.underlying22 Qc4 rfl _ _ _ _ 32 rfl rfl rfl rfl (by omega) (by omega) ?_;intro w2 hb2 hl2)
  | fail)
 have h12:=h1.later hl2
 have h22:=h2.later hl2
 have L2:=L0.trans hl2
 replace hb2:Blk w2 (w.heap.size+1+1) 5 (QGn 32 (.int .u8 0)):=Eq.mp (congrArg (fun g=>Blk w2 g 5 (QGn 32 (.int .u8 0))) (by simp)) hb2
 clear h1 h2 L0 hl2
 go_loopw [8] (fun i wr=>∃k:Nat,k≤32∧i= .int .i64 k∧Blk wr w.heap.size 211 (EL a)∧Blk wr (w.heap.size+1) 211 (QGn 4 (.int .u64 0))∧Blk wr (w.heap.size+1+1) 5 (QbM (QGn 32 (.int .u8 255)) (QGn 32 (.int .u8 0)) k)∧Later w wr) (fun i _=>32-(intOf i).toNat)
 case atStart=>exact⟨0,by omega,rfl,h12,h22,by rw[Qbr];exact hb2,L2⟩
 case round=>
  clear h12 h22 hb2 L2
  obtain⟨k,hk,rfl,h1,h2,h3,L⟩:=hrel
  by_cases hlt:k<32
  ·go_wp2_with (first
    | (refine Qad rfl rfl _ _ _ rfl _ _ _ _ h3 rfl ?hl rfl (by kernel_rfl) ?_;(case hl=>rw[Qaz _ _ _ (by rfl)];exact hlt);intro v w6 hv hb6 ho6;simp[go_sem]at hv;subst hv)
    | fail)
   go_roundw
   case rel=>
    rw[Qa2 _ _ _ _ (by rfl) hlt (by rw[QH1,if_pos hlt])]at hb6
    exact⟨k+1,by omega,by go_num,h1.only ho6 (by omega),h2.only ho6 (by omega),hb6,L.only ho6 (by omega)⟩
   case measure=>simp[intOf];omega
  ·have HF:=hid (QqK _ (Qcg (QGn 32 (Value.int .u8 255)) (QGn 32 (.int .u8 0)) 32 rfl rfl))
   rw[show k=32 by omega]at h3
   have hkf:decide ((k:Int)<32)=false:=by simp;omega
   go_wp2_with (first
    | (refine Qad rfl rfl _ _ _ rfl _ _ _ _ h3 rfl ?hl rfl (by kernel_rfl) ?_;(case hl=>rw[Qaz _ _ _ (by rfl)];decide);intro v w6 hv hb6 ho6;simp[go_sem]at hv;subst hv)
    | (refine Qad rfl rfl _ _ _ rfl _ _ _ _ hb6 rfl ?hl rfl (by kernel_rfl) ?_;(case hl=>rw[QGV,Qaz _ _ _ (by rfl)];decide);intro v w7 hv hb7 ho7;simp[go_sem]at hv;subst hv
       rw[HF.out]at hb7
       have h17:=(h1.only ho6 (by omega)).only ho7 (by omega)
       have h27:=(h2.only ho6 (by omega)).only ho7 (by omega)
       have L7:=(L.only ho6 (by omega)).only ho7 (by omega))
    | (refine QbK rfl _ rfl h17 rfl ?_)
    | (go_at_call 180;(with_reducible refine (HP.out _ 32 _ Qiv _ (Qcv hb7 rfl) (by omega)).mono ?_);rintro e w8 ⟨rfl,hl8⟩
       rw[HN.out])
    | (refine QaI rfl rfl _ _ rfl (h27.later hl8) rfl rfl rfl ?_;intro w9 hb9 ho9)
    | fail)
   exact bodyPost_ret (QhU rfl hb9 rfl) rfl ⟨rfl,(L7.trans hl8).only ho9 (by omega)⟩
def RdE (w:World) (A:Option Addr) (n:Nat) (ns:List Nat):Prop:=
 ns.length=n∧(0<n→∃b o,A=some ⟨b,o,none⟩∧b<w.heap.size∧∀j i v,j<n→(EL (ns.getD j 0))[i]?=some v→w.cell? ⟨b,o+j*4+i,none⟩=some v)
theorem RdE.later {w w':World} {A:Option Addr} {n:Nat} {ns:List Nat} (h:RdE w A n ns) (hl:Later w w'):RdE w' A n ns:=by
 refine⟨h.1,fun hn=>?_⟩
 obtain⟨b,o,hA,hb,hc⟩:=h.2 hn
 exact⟨b,o,hA,QGN hb hl.size,fun j i v hj hv=>(hl.below.cell (p:=⟨b,o+j*4+i,none⟩) hb).trans (hc j i v hj hv)⟩
theorem QwN (l:List Nat) (k:Nat) (h:k<l.length):(l.take (k+1)).sum=(l.take k).sum+l.getD k 0:=by
 rw[QGY h,List.sum_append,QGq,QGt h]
 simp
def QfB:List Nat→Nat
 | []=>1
 | x :: l=>x*QfB l
theorem Qia:∀l m:List Nat,QfB (l++m)=QfB l*QfB m
 | [],m=>by simp[QfB]
 | x :: l,m=>by rw[QGu,QfB,Qia l m,QfB,QHL]
theorem QwE (l:List Nat) (k:Nat) (h:k<l.length):QfB (l.take (k+1))=QfB (l.take k)*l.getD k 0:=by
 rw[QGY h,Qia,QGq,QGt h]
 simp[QfB]
theorem Qlr {l:List Nat} {j:Nat} (h:j<l.length):l.getD j 0∈l:=by
 rw[QGq,QGt h]
 exact QHi h
set_option maxRecDepth 100000 in
set_option maxHeartbeats 2000000 in
theorem QBi (A:Option Addr) (n c:Nat) (ns:List Nat) (w:World) (hr:RdE w A n ns) (hns:∀x∈ns,x<T256) (hn:n≤140737488355328):
 Calls Tryz.prog 155 #[.slice A n c] w fun e w'=>e= .returned (E (ns.sum%P25))∧Later w w':=by
 have hnl:=hr.1
 go_enter Tryz.func155,Tryz.ntmps155
 go_wp2
 go_loopw [8] (fun i wr=>∃k:Nat,k≤n∧i= .int .i64 k∧Blk wr w.heap.size 211 (QGn 4 (.int .u64 0))∧Blk wr (w.heap.size+1) 211 (EL ((ns.take k).sum%P25))∧Later w wr) (fun i _=>n-(intOf i).toNat)
 case atStart=>exact⟨0,by omega,rfl,(Blk.new w _ (QGn 4 (Value.int .u64 0))).later (Qaa _ _),by rw[QIS];exact Blk.new' _ _ (QGn 4 (Value.int .u64 0)) (by simp),(Qaa _ _).trans (Qaa _ _)⟩
 case round=>
  obtain⟨k,hk,rfl,h1,h2,L⟩:=hrel
  by_cases hlt:k<n
  ·obtain⟨b,o,rfl,hb,hc⟩:=(hr.later L).2 (by omega)
   have HT:=hid (QwN ns k (by omega))
   have hx:ns.getD k 0<T256:=hns _ (Qlr (by omega))
   have hc':=fun i v hv=>hc k i v hlt hv
   generalize ns.getD k 0=x at *
   have HC:=hid hc'
   clear hc hc' hr
   generalize hs:(ns.take k).sum=s at *
   have HSS:=hid hs
   clear hs
   go_wp2_with (first
    | (refine QaM rfl 211 _ rfl b (o+k*4) (EL x) ?hc ?hx _ Tryz.underlying211 rfl ?hi ?_;(case hx=>rfl);(case hi=>rw[Qak];exact QhN);(case hc=>intro j v hv;exact HC.out j v hv))
    | (refine QaI (g:=wr.heap.size) rfl rfl _ _ rfl (Blk.new _ _ (QGn 4 (.int .u64 0))) rfl rfl rfl ?_;intro w3 hb3 ho3)
    | fail)
   have L3:Later wr w3:=(Qaa _ _).only ho3 (by omega)
   have h23:=h2.later L3
   go_wp2_with fail
   refine Qaf [([0,1],2)] [] [3,4] (by as_aux_lemma=>kernel_rfl) (by as_aux_lemma=>kernel_rfl) (by intro _ _ d _ _ h;cases d<;>exact h) ?_
   simp only[Qaj,pick,QGo,QGp,QGs,QGu,QGv]
   repeat (first|go_big_quiet_skip|(go_big_quiet_want;(first|refine QcY _ rfl h23.drew rfl ?_|refine QcY _ rfl hb3.drew rfl ?_);simp only[Act.put,QGw,QGB,QGz];go_big_quiet_on)|(go_big_quiet_step (fail)))
   refine wpQuiet_nil ?_
   go_wp2_with fail
   (with_reducible refine (QeC x hx _).mono ?_);rintro e w4 ⟨rfl,hl4⟩
   go_wp2_with fail
   try refine⟨by first|assumption|exact Qab _|exact Qaa _ _|exact Later.refl _,?_⟩
   try simp only[Qaj,pick,QGo,QGp,QGs,QGu,QGv]
   repeat (go_big_quiet_step (fail))
   refine wpQuiet_nil ?_
   go_wp2_with fail
   (with_reducible refine (QqU (s%P25) (x%P25) (by have:=QGU s Qbp;have:=QGU x Qbp;unfold P25 at *;unfold T256;omega) _).mono ?_);rintro e w5 ⟨rfl,hl5⟩
   have h25:=((h23.drew).later hl4).later hl5
   go_wp2_with (first
    | (refine QaI rfl rfl _ _ rfl h25 rfl rfl (Qak _) ?_;intro w6 hb6 ho6)
    | fail)
   have L5:Later wr w5:=(((L3.trans (Qab _)).trans hl4).trans hl5)
   go_roundw
   case rel=>
    refine⟨k+1,by omega,by go_num,(h1.later L5).only ho6 (by omega),?_,(L.trans L5).only ho6 (by omega)⟩
    rw[HT.out]
    first|exact hb6|(rw [←QIT];exact hb6)|(rw [QIT];exact hb6)
   case measure=>simp[intOf];omega
  ·rw[show k=n by omega,QGD (by omega)]at h2
   have hkf:decide ((k:Int)<(n:Int))=false:=by simp;omega
   go_wp2_with (first
    | (refine QbK rfl _ rfl h2 rfl ?_)
    | (refine QaI rfl rfl _ _ rfl h1 rfl rfl rfl ?_;intro w9 hb9 ho9)
    | fail)
   exact bodyPost_ret (QhU rfl hb9 rfl) rfl ⟨rfl,L.only ho9 (by omega)⟩
theorem Qi5 {P:Program} {t e:TypeId} (s:Nat) (ht:P.underlying t=some (.slice e)) (hs:(P.info? e).map (·.size)=some s) (A:Option Addr) (n c:Nat) (kl:IntKind) (l:Nat) (h1:l≤n) (W:World):
 (Instr.sliceAt t (.slice A n c) (some (.int kl l)) none none).run P W= .ok (.slice (if c=l then A else A.map (·.add (l*s))) (n-l) (c-l)) W:=by
 have he:P.elem t=e:=by unfold Program.elem;rw[ht]
 have ht':P.underlying t=some (.slice (P.elem t)):=by rw[he];exact ht
 rw[run_sliceAt_slice _ _ _ _ _ _ ht',run_slice_l (ht:=ht') (h0:=by omega) (h1:=by omega),he]
 cases hq:P.info? e with
 | none=>simp[hq]at hs
 | some i=>
   have hsz:i.size=s:=by simpa [hq] using hs
   simp[sizeOf,typeInfo,hq,hsz,sliced]
theorem RdE.cut1 {w:World} {A:Option Addr} {n:Nat} {ns:List Nat} (h:RdE w A n ns) (h1:1<n):RdE w (A.map (·.add 4)) (n-1) ns.tail:=by
 refine⟨by rw[List.length_tail,h.1],fun hn=>?_⟩
 obtain⟨b,o,rfl,hb,hc⟩:=h.2 (by omega)
 refine⟨b,o+4,by rw[QH9,Qdb],hb,fun j i v hj hv=>?_⟩
 have e:ns.tail.getD j 0=ns.getD (j+1) 0:=by rw[QGq,QGq,List.getElem?_tail]
 rw[e]at hv
 have:=hc (j+1) i v (by omega) hv
 rw[show o+4+j*4+i=o+(j+1)*4+i by omega]
 exact this
set_option maxRecDepth 100000 in
set_option maxHeartbeats 2000000 in
theorem QoU (A:Option Addr) (n c:Nat) (ns:List Nat) (w:World) (hr:RdE w A n ns) (hns:∀x∈ns,x<T256) (hn:n≤c) (hc0:n≤140737488355328):
 Calls Tryz.prog 158 #[.slice A n c] w fun e w'=>e= .returned (E (QfB ns%P25))∧Later w w':=by
 have hnl:=hr.1
 have hb0:=Blk.new w 211 (QGn 4 (Value.int .u64 0))
 rcases QH8 n with hz|hz
 ·subst hz
  obtain rfl:ns=[]:=QG7 hnl
  go_enter Tryz.func158,Tryz.ntmps158
  go_wp2_with (first
   | (go_at_call 93;(with_reducible refine (of_1 _).mono ?_);rintro e w2 ⟨rfl,hl2⟩)
   | (refine QaI rfl rfl _ _ rfl (hb0.later hl2) rfl rfl rfl ?_;intro w3 hb3 ho3)
   | fail)
  exact bodyPost_ret (QhU rfl hb3 rfl) rfl ⟨rfl,((Qaa _ _).trans hl2).only ho3 (by omega)⟩
 ·have hne:((n:Int)==0)=false:=by simp;omega
  have hlt0:decide ((0:Int)<(n:Int))=true:=by simp;omega
  obtain⟨T,d,hcutT,hT⟩:∃(T:Option Addr) (d:Nat),(∀ W,(Instr.sliceAt 306 (.slice A n c) (some (.int .i64 1)) none none).run Tryz.prog W= .ok (.slice T (n-1) d) W)∧RdE w T (n-1) ns.tail:=by
   refine⟨_,_,Qi5 4 Tryz.underlying306 QhN A n c .i64 1 hz,?_⟩
   by_cases h1:1<n
   ·rw[if_neg (by omega)]
    exact hr.cut1 h1
   ·refine⟨by rw[List.length_tail,hnl],fun h=>by omega⟩
  obtain⟨b,o,rfl,hb,hc⟩:=hr.2 hz
  have hx0:ns.getD 0 0<T256:=hns _ (Qlr (by omega))
  have hc0':∀i v,(EL (ns.getD 0 0))[i]?=some v→w.cell? ⟨b,o+i,none⟩=some v:=fun i v hv=>by have:=hc 0 i v hz hv;rwa [QIQ,QIf]at this
  have HX:=hid (show ns.take 1=[ns.getD 0 0] by cases ns with|nil=>simp at hnl;omega|cons y l=>rfl)
  have hnt:∀x∈ns.tail,x<T256:=fun x hx=>hns x (List.mem_of_mem_tail hx)
  have HTL:=hid (show ∀k,k<n-1→QfB (ns.take (k+1+1))=QfB (ns.take (k+1))*ns.tail.getD k 0 by
   intro k hk
   rw[QwE ns (k+1) (by omega)]
   congr 1
   rw[QGq,QGq,List.getElem?_tail])
  have HC0:=hid hc0'
  clear hc hc0' hr
  generalize hX0:ns.getD 0 0=x0 at *
  go_enter Tryz.func158,Tryz.ntmps158
  clear hX0
  go_wp2_with (first
   | (refine QaM rfl 211 _ rfl b o (EL x0) ?hc ?hx _ Tryz.underlying211 rfl ?hi ?_;(case hx=>rfl);(case hi=>rw[Qak];exact QhN);(case hc=>intro j v hv;exact ((Qaa w _).below.cell (p:=⟨b,o+j,none⟩) hb).trans (HC0.out j v hv)))
   | (go_at_call 123;(with_reducible refine (QeC x0 hx0 _).mono ?_);rintro e w2 ⟨rfl,hl2⟩)
   | (refine QaI rfl rfl _ _ rfl (Blk.new w2 _ (QGn 4 (.int .u64 0))) rfl rfl rfl ?_;intro w3 hb3 ho3)
   | fail)
  have hb03:=((hb0.later hl2).later (Qaa _ (.cells (QGn 4 (.int .u64 0)).toArray 211))).only ho3 (Nat.ne_of_lt (hb0.later hl2).lt)
  have L3:Later w w3:=(((Qaa _ _).trans hl2).trans (Qaa _ _)).only ho3 (by have:=((Qaa w _).trans hl2).size;omega)
  have hg:w.heap.size<w2.heap.size:=(hb0.later hl2).lt
  generalize w2.heap.size=g at *
  clear hb0 hl2 ho3 HC0
  go_loopw [17] (fun i wr=>∃k:Nat,k≤n-1∧i= .int .i64 k∧Blk wr w.heap.size 211 (QGn 4 (.int .u64 0))∧Blk wr g 211 (EL (QfB (ns.take (k+1))%P25))∧Later w wr) (fun i _=>n-1-(intOf i).toNat)
  case atStart=>exact⟨0,by omega,rfl,hb03,by rw[QGT,HX.out];simpa [QfB] using hb3,L3⟩
  case round=>
   clear hb03 hb3 L3
   obtain⟨k,hk,rfl,h1,h2,L⟩:=hrel
   by_cases hlt:k<n-1
   ·obtain⟨b1,o1,rfl,hb1,hc1⟩:=(hT.later L).2 (by omega)
    have HT:=hid (HTL.out k hlt)
    have hx:ns.tail.getD k 0<T256:=hnt _ (Qlr (by rw[List.length_tail];omega))
    have hc':=fun i v hv=>hc1 k i v hlt hv
    generalize ns.tail.getD k 0=x at *
    have HC:=hid hc'
    clear hc1 hc'
    obtain⟨y,hy⟩:∃y,y=QfB (ns.take (k+1))%P25:=⟨_,rfl⟩
    rw[←hy]at h2
    have hyT:y<T256:=by rw[hy];exact QHr (QGU _ Qbp) (by decide)
    have HY:=hid hy
    clear hy
    have hkb:decide ((k:Int)<((n-1:Nat):Int))=true:=by simp;omega
    have hkx:(k<n-1)=True:=eq_true hlt
    go_wp2_with (first
     | (refine QaM rfl 211 _ rfl b1 (o1+k*4) (EL x) ?hc ?hx _ Tryz.underlying211 rfl ?hi ?_;(case hx=>rfl);(case hi=>rw[Qak];exact QhN);(case hc=>intro j v hv;exact HC.out j v hv))
     | (refine QaI (g:=wr.heap.size) rfl rfl _ _ rfl (Blk.new _ _ (QGn 4 (.int .u64 0))) rfl rfl rfl ?_;intro w4 hb4 ho4
        have L4:Later wr w4:=(Qaa _ _).only ho4 (by omega)
        have h24:=h2.later L4)
     | (refine QbK rfl _ rfl h24 rfl ?_)
     | (refine QbK rfl _ rfl hb4 rfl ?_)
     | (go_at_call 159;(with_reducible refine (Qem y x hyT hx _).mono ?_);rintro e w5 ⟨rfl,hl5⟩)
     | (refine QaI rfl rfl _ _ rfl (h24.later hl5) rfl rfl (Qak _) ?_;intro w6 hb6 ho6)
     | fail)
    go_roundw
    case rel=>
     refine⟨k+1,by omega,by go_num,((h1.later L4).later hl5).only ho6 (by omega),?_,((L.trans L4).trans hl5).only ho6 (by omega)⟩
     rw[HT.out,QHP,←HY.out]
     first|exact hb6|(rw [QHP,HY.out,QHX,←HY.out]at hb6;exact hb6)
    case measure=>simp[intOf];omega
   ·rw[show k+1=n by omega,QGD (by omega)]at h2
    have hkf:decide ((k:Int)<((n-1:Nat):Int))=false:=by simp;omega
    have hkx:(k<n-1)=False:=eq_false hlt
    go_wp2_with (first
     | (refine QbK rfl _ rfl h2 rfl ?_)
     | (refine QaI rfl rfl _ _ rfl h1 rfl rfl rfl ?_;intro w9 hb9 ho9)
     | fail)
    exact bodyPost_ret (QhU rfl hb9 rfl) rfl ⟨rfl,L.only ho9 (by omega)⟩
def nb (n:Nat):List UInt8:=(dig 256 32 n).map QG3
abbrev BB (n:Nat):Value:=.agg ((nb n).map W8).toArray
theorem Qcj (n:Nat):(nb n).length=32:=by rw[nb,QGr,QaS]
theorem Qzq (n i:Nat) (h:i<32):(nb n)[i]?=some (QG3 (n/256^i%256)):=by rw[nb,QGF,QgG _ _ _ _ h];rfl
theorem Qf1:∀l:List Nat,(∀ x∈l,x<256)→(l.map QG3).map QIW=l
 | [],_=>rfl
 | x :: l,h=>by
   rw[QGR,QGR,Qf1 l (fun y hy=>h y (by simp[hy])),QHy,QGO (h x (by simp))]
theorem Qzg (n:Nat) (h:n<T256):num (nb n)=n:=by
 rw[num,nb,Qf1 _ (Qeh (by decide) 32 n),QeF,QGO (show n<256^32 from h)]
theorem Qnt (bs:List UInt8):num bs<256^bs.length:=by
 have:=Qzd (B:=256) (bs.map QIW) (by intro x hx;obtain⟨y,_,rfl⟩:=QG2.1 hx;exact y.toNat_lt)
 rwa [QGr]at this
theorem QlW (bs:List UInt8) (k:Nat) (h:k<bs.length):num (bs.take (k+1))=num (bs.take k)+256^k*(bs.getD k 0).toNat:=by
 have:=Qfi 256 (bs.map QIW) k (by simpa using h)
 rw[←QH0,←QH0]at this
 have e:(bs.map QIW).getD k 0=(bs.getD k 0).toNat:=by
  rw[QGq,QGq,QGF,QGt h]
  rfl
 rw[e]at this
 exact this
theorem QjP (k:Nat):256^k=B64^(k/8)*256^(k%8):=by
 have e:B64=256^8:=by decide
 rw[e,←QId,←QHW,QHn]
theorem QsI (k:Nat):256^k=B32^(k/4)*256^(k%4):=by
 have e:B32=256^4:=by decide
 rw[e,←QId,←QHW,QHn]
theorem QgD (x a b c:Nat) (ha:0<a) (h:b*c ∣ a) (_hb:0<b):x%a/b%c=x/b%c:=by
 obtain⟨d,rfl⟩:=h
 rw[QHL,Nat.mod_mul_right_div_self,Nat.mod_mul_right_mod]
theorem Qyc (n k:Nat) (_hk:k<32):lim n (k/8)/2^(8*(k%8))%256=n/256^k%256:=by
 rw[QjP k,←QHk,lim,QId]
 generalize n/B64^(k/8)=x
 refine QgD x B64 (256^(k%8)) 256 Qa5 ?_ (QIA (by decide))
 have:B64=256^8:=by decide
 rw[this,←QHq]
 exact Nat.pow_dvd_pow 256 (by omega)
theorem QxX (n k:Nat) (_hk:k<32):lem n (k/4)/2^(8*(k%4))%256=n/256^k%256:=by
 rw[QsI k,←QHk,lem,QId]
 generalize n/B32^(k/4)=x
 refine QgD x B32 (256^(k%4)) 256 Qbj ?_ (QIA (by decide))
 have:B32=256^4:=by decide
 rw[this,←QHq]
 exact Nat.pow_dvd_pow 256 (by omega)
theorem QBH (V x k:Nat) (_hk:k<32) (hV:V<256^k) (hx:x<256):(EL V).set (k/8) (n64 (lim V (k/8)+x*2^(8*(k%8))))=EL (V+256^k*x):=by
 have hp:=QjP k
 have hB:B64=256^8:=by decide
 have hlt:V+256^k*x<256^(k+1):=by
  rw[QHq]
  have:256^k*x≤256^k*255:=QIb _ (by omega)
  omega
 have hbound:256^(k+1)≤B64^(k/8+1):=by
  rw[hB,←QId]
  exact QHt (by decide) (by omega)
 apply QIN (by rw[QGV,Qak,Qak])
 intro j h1 h2
 rw[Qak]at h2
 rw[List.getElem_set]
 split
 ·rename_i hj
  subst hj
  rw[QtB]
  congr 1
  rw[lim,lim,hp,QHL,QH6 _ _ (QIA Qa5),QId]
  have hV1:V/B64^(k/8)<256^(k%8):=QHu (by rw[←hp];exact hV)
  have hle:256^(k%8)*256≤B64:=by
   rw[hB,←QHq]
   exact QHt (by decide) (by omega)
  have hxx:256^(k%8)*x≤256^(k%8)*255:=QIb _ (by omega)
  have e:(2:Nat)^8=256:=by decide
  rw[e,QHp x]
  rw[QGO (show V/B64^(k/8)<B64 by omega),QGO (show V/B64^(k/8)+256^(k%8)*x<B64 by omega)]
 ·rename_i hj
  rw[QtB,QtB]
  congr 1
  rcases QHb j (k/8) with hl|hl
  ·rw[lim,lim,hp]
   obtain⟨d,hd⟩:∃d,k/8=j+1+d:=⟨k/8-j-1,by omega⟩
   rw[hd,QHW,QHq,QHL,QHL,QHL,QH6 _ _ (QIA Qa5),Nat.add_mul_mod_self_left]
  ·have hjj:k/8+1≤j:=by omega
   have hpp:B64^(k/8+1)≤B64^j:=QHt (by decide) hjj
   have hVk:V<B64^j:=QGN hV (QG9 (QHt (by decide) (by omega)) (QG9 hbound hpp))
   rw[lim,lim,QHm hVk,QHm (QGN hlt (QG9 hbound hpp))]
theorem QDN (a s y:Nat) (h:a<2^s):a ||| (y*2^s)=a+y*2^s:=by
 have:=Nat.two_pow_add_eq_or_of_lt h y
 rw[Nat.or_comm,QHp y,←this,QID]
theorem QBl (V k:Nat) (hV:V<256^k):lim V (k/8)<2^(8*(k%8)):=by
 have hV1:V/B64^(k/8)<256^(k%8):=QHu (by rw[←QjP];exact hV)
 rw[lim,QId]
 exact QHZ (Nat.mod_le _ _) hV1
@[go_sem] theorem QEr (T:TypeId) (x:Nat) (hx:x<B64) (k:UInt64):binOp .shr T (n64 x) (W64 k)=pure (n64 (x/2^(cnt k))):=by
  have:=QBQ T x hx .u64 (k.toNat:Int) (by omega)
  rw[QIq]at this
  exact this
@[go_sem] theorem QFE (T:TypeId) (x:Nat) (hx:x<B64) (y:UInt64):binOp .or T (n64 x) (W64 y)=pure (n64 (x ||| y.toNat)):=by
  rw[n64,QvT,Qig]
  rw[UInt64.toNat_or,tn64 hx,QGO (show (x ||| y.toNat)<B64 from Nat.or_lt_two_pow (n:=64) hx y.toNat_lt)]
theorem Qq6 (i:Nat) (h:i<32):cnt (8*QHo ((i:Int)%8))=8*(i%8):=by
 have:∀k:Fin 32,cnt (8*QHo ((k.val:Int)%8))=8*(k.val%8):=by decide
 exact this ⟨i,h⟩
theorem Qbf:(Tryz.prog.info? 30).map (·.size)=some 32:=by kernel_rfl
theorem QDn {n m:Nat} (h:n%256=m%256):n8 n=n8 m:=by
 rw[n8]
 apply n8_w
 rw[QHy,←h]
set_option maxRecDepth 100000 in
set_option maxHeartbeats 2000000 in
theorem Qi0 (n:Nat) (hn:n<T256) (w:World):
 Calls Tryz.prog 92 #[E n] w fun e w'=>e= .returned (BB (n%P25))∧Later w w':=by
 have h1:Blk ((w.alloc (.cells (EL n).toArray 211)).alloc (.cells (QGn 32 (Value.int .u8 0)).toArray 30)) w.heap.size 211 (EL n):=(Blk.new _ _ _).later (Qaa _ _)
 have h2:Blk ((w.alloc (.cells (EL n).toArray 211)).alloc (.cells (QGn 32 (Value.int .u8 0)).toArray 30)) (w.heap.size+1) 30 (QGn 32 (.int .u8 0)):=Blk.new' _ _ _ (by simp)
 have L0:Later w ((w.alloc (.cells (EL n).toArray 211)).alloc (.cells (QGn 32 (Value.int .u8 0)).toArray 30)):=(Qaa _ _).trans (Qaa _ _)
 have hlS:((nb (n%P25)).map W8).length=32:=by rw[QGr,Qcj]
 have HGet:=hid (fun k (h:k<32)=>show ((nb (n%P25)).map W8)[k]?=some (n8 (n%P25/256^k%256)) by rw[QGF,Qzq _ _ h];rfl)
 go_enter Tryz.func92,Tryz.ntmps92
 go_wp2_with (first
  | (refine QbK rfl _ rfl h1 rfl ?_)
  | (go_at_call 123;(with_reducible refine (QeC n hn _).mono ?_);rintro e w2 ⟨rfl,hl2⟩)
  | (refine QaI rfl rfl _ _ rfl (h1.later hl2) rfl rfl (Qak _) ?_;intro w3 hb3 ho3
     have h23:=(h2.later hl2).only ho3 (by omega)
     have L3:=(L0.trans hl2).only ho3 (by omega))
  | fail)
 have hg:w.heap.size+1<w3.heap.size:=h23.lt
 clear h1 h2 L0 hl2 ho3
 generalize hM:n%P25=M at *
 have HM:=hid hM
 clear hM
 go_loopw [7] (fun i wr=>∃k:Nat,k≤32∧i= .int .i64 k∧Blk wr w.heap.size 211 (EL M)∧Blk wr (w.heap.size+1) 30 (QGn 32 (.int .u8 0))∧Blk wr w3.heap.size 30 (QbM ((nb M).map W8) (QGn 32 (.int .u8 0)) k)∧Later w wr) (fun i _=>32-(intOf i).toNat)
 case atStart=>exact⟨0,by omega,rfl,hb3.later (Qaa _ _),h23.later (Qaa _ _),by rw[Qbr];exact Blk.new _ _ (QGn 32 (Value.int .u8 0)),L3.trans (Qaa _ _)⟩
 case round=>
  clear hb3 h23
  have hL3:=L3.size
  clear L3
  obtain⟨k,hk,rfl,h1,h2,h3,L⟩:=hrel
  by_cases hlt:k<32
  ·have d0:=h1.cellD (k/8) (Qdc M (k/8) (by omega))
   have hct:=Qq6 k hlt
   have hbl:=hid (Qyc M k hlt)
   go_wp2_with (first
    | (refine Qad rfl rfl _ _ _ rfl _ _ _ _ h3 rfl ?hl rfl (by kernel_rfl) ?_;(case hl=>rw[Qaz _ _ _ (by rw[hlS];rfl)];exact hlt);intro v w6 hv hb6 ho6;simp[go_sem]at hv;subst hv)
    | fail)
   go_roundw
   case rel=>
    rw[QDn (show lim M (k/8)/2^(8*(k%8))%256=M/256^k%256%256 by rw[hbl.out,QHX]),Qa2 _ _ _ _ (by rw[hlS];rfl) hlt (HGet.out k hlt)]at hb6
    exact⟨k+1,by omega,by go_num,h1.only ho6 (by omega),h2.only ho6 (by omega),hb6,L.only ho6 (by omega)⟩
   case measure=>simp[intOf];omega
  ·rw[show k=32 by omega,Qcg _ _ _ hlS rfl]at h3
   have hkf:decide ((k:Int)<32)=false:=by simp;omega
   go_wp2_with (first
    | (refine Qbz rfl 30 _ rfl _ _ _ h3 rfl _ Tryz.underlying30 rfl 32 Qbf hlS ?_)
    | (refine Qai rfl rfl 30 _ _ rfl _ _ _ _ h2 rfl rfl 32 Qbf hlS rfl (QaX _) ?_;intro w9 hb9 ho9)
    | fail)
   exact bodyPost_ret (Qa8 rfl _ _ _ _ ((nb M).map W8) _ hb9 rfl Tryz.underlying30 rfl (by rw[hlS];exact Qbf)) rfl ⟨by rw[HM.out],L.only ho9 (by omega)⟩
theorem Qyz (x:UInt8) (r:Nat) (hr:r<8):(Qj6 x.toUInt64 (8*r)).toNat=x.toNat*2^(8*r):=by
 rw[Qj6]
 show (BitVec.toNat _)=_
 rw[QIy,QIF]
 show x.toUInt64.toNat*_%_=_
 rw[UInt8.toNat_toUInt64,QGO]
 have hx:=x.toNat_lt
 have h1:2^(8*r)≤2^56:=QHt (by decide) (by omega)
 have h2:x.toNat*2^(8*r)≤255*2^56:=Nat.mul_le_mul (by omega) h1
 omega
def QcM (bs:List UInt8):Nat:=if bs.length=32 then num bs%T255%P25 else 0
def Qck (bs:List UInt8):Nat:=if bs.length=32 then 0 else 2
set_option maxRecDepth 100000 in
set_option maxHeartbeats 2000000 in
theorem QqT (A:Option Addr) (n c:Nat) (bs:List UInt8) (w:World) (hr:RdB w A n bs) (hn:n≤140737488355328):
 Calls Tryz.prog 95 #[.slice A n c] w fun e w'=>e= .returned (.tuple #[E (QcM bs),.int .i64 (Qck bs:Nat)])∧Later w w':=by
 have hbl:=hr.len
 have hb0:=Blk.new w 211 (QGn 4 (Value.int .u64 0))
 by_cases h32:n=32
 ·subst h32
  have hRN:=hid (show QcM bs=num bs%T255%P25 by rw[QcM,if_pos hbl])
  have hRE:=hid (show Qck bs=0 by rw[Qck,if_pos hbl])
  obtain⟨b,o,rfl,hb,hc⟩:=hr.at_ (by omega)
  have HC:=hid hc
  have HT:=hid (fun k (h:k<32)=>QlW bs k (by omega))
  have HL:=hid (fun k (h:k≤32)=>show num (bs.take k)<256^k by have:=Qnt (bs.take k);rwa [QGP,QHx (by omega)]at this)
  have HF:=hid (show bs.take 32=bs from QGD (by omega))
  clear hc hr
  go_enter Tryz.func95,Tryz.ntmps95
  go_wp2
  go_loopw [13] (fun i wr=>∃k:Nat,k≤32∧i= .int .i64 k∧Blk wr w.heap.size 211 (QGn 4 (.int .u64 0))∧Blk wr (w.heap.size+1) 211 (EL (num (bs.take k)))∧Later w wr) (fun i _=>32-(intOf i).toNat)
  case atStart=>exact⟨0,by omega,rfl,hb0.later (Qaa _ _),by rw[QIS];exact Blk.new' _ _ (QGn 4 (Value.int .u64 0)) (by simp),(Qaa _ _).trans (Qaa _ _)⟩
  case round=>
   clear hb0
   obtain⟨k,hk,rfl,h1,h2,L⟩:=hrel
   by_cases hlt:k<32
   ·have d0:=h2.cellD (k/8) (Qdc _ (k/8) (by omega))
    have c0:wr.cell? ⟨b,o+k,none⟩=some (W8 (bs.getD k 0)):=(L.below.cell (p:=⟨b,o+k,none⟩) hb).trans (HC.out k hlt)
    have hct:=Qq6 k hlt
    have hsb:=Qyz (bs.getD k 0) (k%8) (by omega)
    have HM:=hid (QBH (num (bs.take k)) (bs.getD k 0).toNat k hlt (HL.out k (by omega)) (UInt8.toNat_lt _))
    have HO:=hid (QDN (lim (num (bs.take k)) (k/8)) (8*(k%8)) (bs.getD k 0).toNat (QBl _ k (HL.out k (by omega))))
    have HTk:=hid (HT.out k hlt)
    generalize bs.getD k 0=x at *
    generalize num (bs.take k)=V at *
    go_wp2_with (first
     | (refine Qad rfl rfl _ _ _ rfl _ _ _ _ h2 rfl ?hl rfl (by kernel_rfl) ?_;(case hl=>rw[Qak];omega);intro v w6 hv hb6 ho6;simp[go_sem]at hv;subst hv)
     | fail)
    go_roundw
    case rel=>
     refine⟨k+1,by omega,by go_num,h1.only ho6 (by omega),?_,L.only ho6 (by omega)⟩
     rw[HTk.out,←HM.out,←HO.out]
     first|exact hb6|(rw [hsb]at hb6;exact hb6)
    case measure=>simp[intOf];omega
   ·rw[show k=32 by omega,HF.out]at h2
    have hkf:decide ((k:Int)<32)=false:=by simp;omega
    have d3:=h2.cellD 3 (Qdc _ 3 (by omega))
    have hlT:num bs%T255<T256:=QHr (QGU _ (by decide)) (by decide)
    go_wp2_with (first
     | (refine Qad rfl rfl _ _ _ rfl _ _ _ _ h2 rfl ?hl rfl (by kernel_rfl) ?_;(case hl=>rw[Qak];omega);intro v w6 hv hb6 ho6;simp[go_sem]at hv;subst hv
        rw[QqR]at hb6
        have h16:=h1.only ho6 (by omega)
        have L6:=L.only ho6 (by omega))
     | (refine QbK rfl _ rfl hb6 rfl ?_)
     | (go_at_call 123;(with_reducible refine (QeC (num bs%T255) hlT _).mono ?_);rintro e w7 ⟨rfl,hl7⟩)
     | (refine QaI rfl rfl _ _ rfl (h16.later hl7) rfl rfl rfl ?_;intro w9 hb9 ho9)
     | fail)
    exact bodyPost_ret (Qac rfl _ _ _ _ _ _ hb9 rfl Tryz.underlying211 rfl (by rw[Qak];exact QhN)) rfl ⟨by rw[hRN.out,hRE.out];rfl,(L6.trans hl7).only ho9 (by omega)⟩
 ·have hRN:=hid (show QcM bs=0 by rw[QcM,if_neg (by omega)])
  have hRE:=hid (show Qck bs=2 by rw[Qck,if_neg (by omega)])
  have hne:((n:Int) != 32)=true:=by simp;omega
  go_enter Tryz.func95,Tryz.ntmps95
  go_wp2_with (first
   | (refine Qap rfl 211 _ rfl (EL 0) ?hb ?_;(case hb=>kernel_rfl))
   | (refine QaI (n:=0) rfl rfl _ _ rfl hb0 rfl rfl rfl ?_;intro w9 hb9 ho9)
   | fail)
  exact bodyPost_ret (Qac rfl _ _ _ _ _ _ hb9 rfl Tryz.underlying211 rfl (by rw[Qak];exact QhN)) rfl ⟨by rw[hRN.out,hRE.out];rfl,(Qaa _ _).only ho9 (by omega)⟩
theorem QxP (bs:List UInt8) (j:Nat) (h:j<bs.length):num bs/256^j%256=(bs.getD j 0).toNat:=by
 have e:=Qmn (B:=256) (bs.map QIW) (by intro x hx;obtain⟨y,_,rfl⟩:=QG2.1 hx;exact y.toNat_lt)
 rw[QGr]at e
 have g:=QdX 256 bs.length (num bs) j h
 rw[num,e]at g
 rw[num,←g,QGq,QGq,QGF,QGt h]
 rfl
theorem Qt7 (bs:List UInt8) (i:Nat) (h:i/8<bs.length):num bs/2^i%2=(bs.getD (i/8) 0).toNat/2^(i%8)%2:=by
 rw[←QxP bs _ h]
 have e:(2:Nat)^i=256^(i/8)*2^(i%8):=by
  have:(256:Nat)=2^8:=by decide
  rw[this,←QId,←QHW,QHn]
 rw[e,←QHk]
 generalize num bs/256^(i/8)=x
 refine (QgD x 256 (2^(i%8)) 2 (by decide) ?_ (QIA (by decide))).symm
 have:(256:Nat)=2^8:=by decide
 rw[this,←QHq]
 exact Nat.pow_dvd_pow 2 (by omega)
theorem QBv (x:UInt8) (m:Nat):(shr8 x m%2==1)=decide (x.toNat/2^m%2=1):=by
 have e:(shr8 x m).toNat=x.toNat/2^m:=by
  rw[shr8]
  show (BitVec.toNat _)=_
  rw[QHz,QHv]
  rfl
 rw[QHh,beq_iff_eq,decide_eq_true_eq,←QHl,UInt8.toNat_mod,e]
 rfl
theorem QB6 (a V i P:Nat):a^(V%2^(i+1))%P=(a^(V%2^i)%P)*((a^2^i%P)^(V/2^i%2))%P:=by
 rw[Qcl,QHW,QHP,QId,←QeD (a^2^i),QHP (a^(V%2^i)%P),QHX,QHX,Nat.mul_mod_mod]
set_option maxRecDepth 100000 in
set_option maxHeartbeats 2000000 in
theorem Qvw (a:Nat) (ha:a<T256) (A:Option Addr) (n c:Nat) (bs:List UInt8) (w:World) (hr:RdB w A n bs) (hn:n≤140737488355328):
 Calls Tryz.prog 139 #[NN a,.slice A n c] w fun e w'=>e= .returned (NN (a^num bs%P25))∧Later w w':=by
 have hbl:=hr.len
 have h1:Blk ((w.alloc (.cells (NL a).toArray 225)).alloc (.cells (QGn 8 (.int .u32 0)).toArray 225)) w.heap.size 225 (NL a):=(Blk.new _ _ _).later (Qaa _ _)
 have h2:Blk ((w.alloc (.cells (NL a).toArray 225)).alloc (.cells (QGn 8 (.int .u32 0)).toArray 225)) (w.heap.size+1) 225 (QGn 8 (.int .u32 0)):=Blk.new' _ _ _ (by simp)
 have L0:Later w ((w.alloc (.cells (NL a).toArray 225)).alloc (.cells (QGn 8 (.int .u32 0)).toArray 225)):=(Qaa _ _).trans (Qaa _ _)
 go_enter Tryz.func139,Tryz.ntmps139
 go_wp2_with (first
  | (refine Qap rfl 225 _ rfl (NL 1) ?hb ?_;(case hb=>kernel_rfl))
  | (refine Qaw (g:=w.heap.size+1+1) (n:=1) rfl rfl _ _ rfl (Blk.new' _ _ (QGn 8 (.int .u32 0)) (by simp)) rfl rfl rfl ?_;intro w3 hb3 ho3
     have h13:=(h1.later (Qaa _ _)).only ho3 (by omega)
     have h23:=(h2.later (Qaa _ _)).only ho3 (by omega)
     have L3:=(L0.alloc _).only ho3 (by omega))
  | (refine Qa6 rfl _ rfl h13 rfl ?_)
  | (refine Qaw rfl rfl _ _ rfl (Blk.new w3 _ (QGn 8 (.int .u32 0))) rfl rfl rfl ?_;intro w4 hb4 ho4)
  | fail)
 have hz3:=hb3.lt
 have h14:=(h13.later (Qaa _ _)).only ho4 (by omega)
 have h24:=(h23.later (Qaa _ _)).only ho4 (by omega)
 have h34:=(hb3.later (Qaa _ _)).only ho4 (by omega)
 have L4:=(L3.alloc _).only ho4 (by have:=L3.size;omega)
 generalize w3.heap.size=g at *
 clear h13 h23 hb3 L3 ho3 ho4 h1 h2 L0
 have hw8:IntKind.i64.wrap (8*(n:Int))=8*(n:Int):=by rw[IntKind.wrap_i64];omega
 have HW8:=hid hw8
 clear hw8
 go_loopw [7] (fun i wr=>∃k m s:Nat,k≤8*n∧i= .int .i64 k∧m<T256∧s<T256∧Hid (m%P25=a^(num bs%2^k)%P25)∧Hid (s%P25=a^2^k%P25)∧Blk wr (w.heap.size+1) 225 (QGn 8 (.int .u32 0))∧Blk wr (w.heap.size+1+1) 225 (NL m)∧Blk wr g 225 (NL s)∧Later w wr) (fun i _=>8*n-(intOf i).toNat)
 case atStart=>exact⟨0,1,a,by omega,rfl,by decide,ha,hid (by rw[QIR,Nat.mod_one,QIR]),hid (by rw[QIR,Nat.pow_one]),h24,h34,hb4,L4⟩
 case round=>
  clear h14 h24 h34 hb4 L4
  obtain⟨k,m,s,hk,rfl,hm,hs,HM,HSq,h2,h3,h4,L⟩:=hrel
  by_cases hlt:k<8*n
  ·obtain⟨b,o,rfl,hb,hc⟩:=hr.at_ (by omega)
   have d0:wr.cell? ⟨b,o+k/8,none⟩=some (W8 (bs.getD (k/8) 0)):=(L.below.cell (p:=⟨b,o+k/8,none⟩) hb).trans (hc _ (by omega))
   have HBit:=hid (Qt7 bs k (by omega))
   have hbr:=QBv (bs.getD (k/8) 0) (k%8)
   have HLow:=hid (QB6 a (num bs) k P25)
   have hkl:decide ((k:Int)<8*(n:Int))=true:=by simp;omega
   have hkx:(k<8*n)=True:=eq_true hlt
   have HSS:=hid (show s*s%P25%P25=a^2^(k+1)%P25 by
    rw[QHX,QHP,HSq.out,←QHP,←QHW,QHq]
    congr 2
    omega)
   generalize bs.getD (k/8) 0=x at *
   clear hc hr
   rcases Nat.mod_two_eq_zero_or_one (x.toNat/2^(k%8)) with hz|hz
   ·have hd:(shr8 x (k%8)%2==1)=false:=by rw[hbr,hz];rfl
    have HL':=hid (show m%P25=a^(num bs%2^(k+1))%P25 by rw[HLow.out,HBit.out,hz,QIR,QIm,QHX,HM.out])
    clear hbr hz
    go_wp2_with (first
     | (refine Qa6 rfl _ rfl h4 rfl ?_)
     | (go_at_call 107;(with_reducible refine (QlJ s s hs hs _).mono ?_);rintro e w5 ⟨rfl,hl5⟩)
     | (refine Qaw rfl rfl _ _ rfl (h4.later hl5) rfl rfl (Qay _) ?_;intro w6 hb6 ho6)
     | fail)
    go_roundw
    case rel=>exact⟨k+1,m,s*s%P25,by omega,by go_num,hm,QHr (QGU _ Qbp) (by decide),hid HL'.out,hid HSS.out,(h2.later hl5).only ho6 (by omega),(h3.later hl5).only ho6 (by omega),hb6,(L.trans hl5).only ho6 (by omega)⟩
    case measure=>simp[intOf];omega
   ·have hd:(shr8 x (k%8)%2==1)=true:=by rw[hbr,hz];rfl
    have HL':=hid (show m*s%P25%P25=a^(num bs%2^(k+1))%P25 by
     rw[HLow.out,HBit.out,hz,Nat.pow_one,←HM.out,←HSq.out,←QHP,QHX])
    clear hbr hz
    go_wp2_with (first
     | (refine Qa6 rfl _ rfl h3 rfl ?_)
     | (refine Qa6 rfl _ rfl h4 rfl ?_)
     | (go_at_call 107;(with_reducible refine (QlJ m s hm hs _).mono ?_);rintro e w5 ⟨rfl,hl5⟩)
     | (refine Qaw rfl rfl _ _ rfl (h3.later hl5) rfl rfl (Qay _) ?_;intro w6 hb6 ho6
        have h46:=(h4.later hl5).only ho6 (by omega))
     | (refine Qa6 rfl _ rfl h46 rfl ?_)
     | (go_at_call 107;(with_reducible refine (QlJ s s hs hs _).mono ?_);rintro e w7 ⟨rfl,hl7⟩)
     | (refine Qaw rfl rfl _ _ rfl (h46.later hl7) rfl rfl (Qay _) ?_;intro w8 hb8 ho8)
     | fail)
    go_roundw
    case rel=>exact⟨k+1,m*s%P25,s*s%P25,by omega,by go_num,QHr (QGU _ Qbp) (by decide),QHr (QGU _ Qbp) (by decide),hid HL'.out,hid HSS.out,(((h2.later hl5).only ho6 (by omega)).later hl7).only ho8 (by omega),(hb6.later hl7).only ho8 (by omega),hb8,(((L.trans hl5).only ho6 (by omega)).trans hl7).only ho8 (by omega)⟩
    case measure=>simp[intOf];omega
  ·have hkf:decide ((k:Int)<8*(n:Int))=false:=by simp;omega
   have hkx:(k<8*n)=False:=eq_false hlt
   have HR:=hid (show m%P25=a^num bs%P25 by
    have hnl:=Qnt bs
    have e:(256:Nat)^bs.length=2^(8*bs.length):=by rw[QId]
    rw[e,←show k=8*bs.length by omega]at hnl
    rw[HM.out,QGO hnl])
   go_wp2_with (first
    | (refine Qa6 rfl _ rfl h3 rfl ?_)
    | (go_at_call 135;(with_reducible refine (Qej m hm _).mono ?_);rintro e w5 ⟨rfl,hl5⟩)
    | (refine Qaw rfl rfl _ _ rfl (h2.later hl5) rfl rfl rfl ?_;intro w9 hb9 ho9)
    | fail)
   exact bodyPost_ret (Qmd rfl hb9 rfl) rfl ⟨by rw[HR.out],(L.trans hl5).only ho9 (by omega)⟩
set_option maxRecDepth 100000 in
set_option maxHeartbeats 2000000 in
theorem QAC (a:Nat) (ha:a<T256) (w:World):
 Calls Tryz.prog 108 #[NN a] w fun e w'=>e= .returned (NN (pinv a))∧Later w w':=by
 have h1:Blk ((w.alloc (.cells (NL a).toArray 225)).alloc (.cells (QGn 8 (.int .u32 0)).toArray 225)) w.heap.size 225 (NL a):=(Blk.new _ _ _).later (Qaa _ _)
 have h2:Blk ((w.alloc (.cells (NL a).toArray 225)).alloc (.cells (QGn 8 (.int .u32 0)).toArray 225)) (w.heap.size+1) 225 (QGn 8 (.int .u32 0)):=Blk.new' _ _ _ (by simp)
 have L0:Later w ((w.alloc (.cells (NL a).toArray 225)).alloc (.cells (QGn 8 (.int .u32 0)).toArray 225)):=(Qaa _ _).trans (Qaa _ _)
 have HP:=hid (Qvw a ha)
 have HN:=hid Qwl
 go_enter Tryz.func108,Tryz.ntmps108
 go_wp2_with (first
  | (refine QaA rfl _ _ 22 rfl 5 (.int .u8 0) 1 Tryz.underlying22 Qc4 rfl _ _ _ _ 32 rfl rfl rfl rfl (by omega) (by omega) ?_;intro w2 hb2 hl2)
  | fail)
 have h12:=h1.later hl2
 have h22:=h2.later hl2
 have L2:=L0.trans hl2
 replace hb2:Blk w2 (w.heap.size+1+1) 5 (QGn 32 (.int .u8 0)):=Eq.mp (congrArg (fun g=>Blk w2 g 5 (QGn 32 (.int .u8 0))) (by simp)) hb2
 clear h1 h2 L0 hl2
 go_loopw [4] (fun i wr=>∃k:Nat,k≤32∧i= .int .i64 k∧Blk wr w.heap.size 225 (NL a)∧Blk wr (w.heap.size+1) 225 (QGn 8 (.int .u32 0))∧Blk wr (w.heap.size+1+1) 5 (QbM (QGn 32 (.int .u8 255)) (QGn 32 (.int .u8 0)) k)∧Later w wr) (fun i _=>32-(intOf i).toNat)
 case atStart=>exact⟨0,by omega,rfl,h12,h22,by rw[Qbr];exact hb2,L2⟩
 case round=>
  clear h12 h22 hb2 L2
  obtain⟨k,hk,rfl,h1,h2,h3,L⟩:=hrel
  by_cases hlt:k<32
  ·go_wp2_with (first
    | (refine Qad rfl rfl _ _ _ rfl _ _ _ _ h3 rfl ?hl rfl (by kernel_rfl) ?_;(case hl=>rw[Qaz _ _ _ (by rfl)];exact hlt);intro v w6 hv hb6 ho6;simp[go_sem]at hv;subst hv)
    | fail)
   go_roundw
   case rel=>
    rw[Qa2 _ _ _ _ (by rfl) hlt (by rw[QH1,if_pos hlt])]at hb6
    exact⟨k+1,by omega,by go_num,h1.only ho6 (by omega),h2.only ho6 (by omega),hb6,L.only ho6 (by omega)⟩
   case measure=>simp[intOf];omega
  ·have HF:=hid (QqK _ (Qcg (QGn 32 (Value.int .u8 255)) (QGn 32 (.int .u8 0)) 32 rfl rfl))
   rw[show k=32 by omega]at h3
   have hkf:decide ((k:Int)<32)=false:=by simp;omega
   go_wp2_with (first
    | (refine Qad rfl rfl _ _ _ rfl _ _ _ _ h3 rfl ?hl rfl (by kernel_rfl) ?_;(case hl=>rw[Qaz _ _ _ (by rfl)];decide);intro v w6 hv hb6 ho6;simp[go_sem]at hv;subst hv)
    | (refine Qad rfl rfl _ _ _ rfl _ _ _ _ hb6 rfl ?hl rfl (by kernel_rfl) ?_;(case hl=>rw[QGV,Qaz _ _ _ (by rfl)];decide);intro v w7 hv hb7 ho7;simp[go_sem]at hv;subst hv
       rw[HF.out]at hb7
       have h17:=(h1.only ho6 (by omega)).only ho7 (by omega)
       have h27:=(h2.only ho6 (by omega)).only ho7 (by omega)
       have L7:=(L.only ho6 (by omega)).only ho7 (by omega))
    | (refine Qa6 rfl _ rfl h17 rfl ?_)
    | (go_at_call 139;(with_reducible refine (HP.out _ 32 _ Qiv _ (Qcv hb7 rfl) (by omega)).mono ?_);rintro e w8 ⟨rfl,hl8⟩
       rw[HN.out])
    | (refine Qaw rfl rfl _ _ rfl (h27.later hl8) rfl rfl rfl ?_;intro w9 hb9 ho9)
    | fail)
   exact bodyPost_ret (Qmd rfl hb9 rfl) rfl ⟨rfl,(L7.trans hl8).only ho9 (by omega)⟩
@[go_sem] theorem QFn (T:TypeId) (x:Nat) (hx:x<B32) (yk:IntKind) (k:Int) (h0:0≤k):binOp .shr T (n32 x) (.int yk k)=pure (n32 (x/2^k.toNat)):=by
  rw[n32,Qmm _ _ _ _ h0,Qt1]
  rw[QcX]
  show (BitVec.toNat _)=_
  rw[QHz]
  show (QG5 x).toNat >>> _=_
  rw[tn32 hx,QHv]
  have:x/2^k.toNat<B32:=QHZ (Nat.div_le_self _ _) hx
  rw[QGO this]
@[go_sem] theorem Qp6 {P:Program} (w:World) (S D:TypeId) (x:Nat) (hs:(P.underlying S).isSome=true) (hd:P.underlying D=some (.int .u8)):(convert S D (n32 x)).run P w= .ok (n8 x) w:=by
  rw[n32,QgZ _ _ _ _ hs hd,n8_w]
  rw[UInt32.toNat_toUInt8,QIz]
  omega
theorem QAm (k:Nat):(8*((k:Int)%4)).toNat=8*(k%4):=by omega
set_option maxRecDepth 100000 in
set_option maxHeartbeats 2000000 in
theorem QmE (n:Nat) (hn:n<T256) (w:World):
 Calls Tryz.prog 102 #[NN n] w fun e w'=>e= .returned (BB (n%P25))∧Later w w':=by
 have h1:Blk ((w.alloc (.cells (NL n).toArray 225)).alloc (.cells (QGn 32 (Value.int .u8 0)).toArray 30)) w.heap.size 225 (NL n):=(Blk.new _ _ _).later (Qaa _ _)
 have h2:Blk ((w.alloc (.cells (NL n).toArray 225)).alloc (.cells (QGn 32 (Value.int .u8 0)).toArray 30)) (w.heap.size+1) 30 (QGn 32 (.int .u8 0)):=Blk.new' _ _ _ (by simp)
 have L0:Later w ((w.alloc (.cells (NL n).toArray 225)).alloc (.cells (QGn 32 (Value.int .u8 0)).toArray 30)):=(Qaa _ _).trans (Qaa _ _)
 have hlS:((nb (n%P25)).map W8).length=32:=by rw[QGr,Qcj]
 have HGet:=hid (fun k (h:k<32)=>show ((nb (n%P25)).map W8)[k]?=some (n8 (n%P25/256^k%256)) by rw[QGF,Qzq _ _ h];rfl)
 go_enter Tryz.func102,Tryz.ntmps102
 go_wp2_with (first
  | (refine Qa6 rfl _ rfl h1 rfl ?_)
  | (go_at_call 135;(with_reducible refine (Qej n hn _).mono ?_);rintro e w2 ⟨rfl,hl2⟩)
  | (refine Qaw rfl rfl _ _ rfl (h1.later hl2) rfl rfl (Qay _) ?_;intro w3 hb3 ho3
     have h23:=(h2.later hl2).only ho3 (by omega)
     have L3:=(L0.trans hl2).only ho3 (by omega))
  | fail)
 have hg:w.heap.size+1<w3.heap.size:=h23.lt
 clear h1 h2 L0 hl2 ho3
 generalize hM:n%P25=M at *
 have HM:=hid hM
 clear hM
 go_loopw [4] (fun i wr=>∃k:Nat,k≤32∧i= .int .i64 k∧Blk wr w.heap.size 225 (NL M)∧Blk wr (w.heap.size+1) 30 (QGn 32 (.int .u8 0))∧Blk wr w3.heap.size 30 (QbM ((nb M).map W8) (QGn 32 (.int .u8 0)) k)∧Later w wr) (fun i _=>32-(intOf i).toNat)
 case atStart=>exact⟨0,by omega,rfl,hb3.later (Qaa _ _),h23.later (Qaa _ _),by rw[Qbr];exact Blk.new _ _ (QGn 32 (Value.int .u8 0)),L3.trans (Qaa _ _)⟩
 case round=>
  clear hb3 h23
  have hL3:=L3.size
  clear L3
  obtain⟨k,hk,rfl,h1,h2,h3,L⟩:=hrel
  by_cases hlt:k<32
  ·have d0:=h1.cellD (k/4) (Qez M (k/4) (by omega))
   have hct:=QAm k
   have h08:(0:Int)≤8*((k:Int)%4):=by omega
   have h04:(0:Int)≤(k:Int)%4:=by omega
   have hbl:=hid (QxX M k hlt)
   go_wp2_with (first
    | (refine Qad rfl rfl _ _ _ rfl _ _ _ _ h3 rfl ?hl rfl (by kernel_rfl) ?_;(case hl=>rw[Qaz _ _ _ (by rw[hlS];rfl)];exact hlt);intro v w6 hv hb6 ho6;simp[go_sem]at hv;subst hv)
    | fail)
   go_roundw
   case rel=>
    rw[QDn (show lem M (k/4)/2^(8*(k%4))%256=M/256^k%256%256 by rw[hbl.out,QHX]),Qa2 _ _ _ _ (by rw[hlS];rfl) hlt (HGet.out k hlt)]at hb6
    exact⟨k+1,by omega,by go_num,h1.only ho6 (by omega),h2.only ho6 (by omega),hb6,L.only ho6 (by omega)⟩
   case measure=>simp[intOf];omega
  ·rw[show k=32 by omega,Qcg _ _ _ hlS rfl]at h3
   have hkf:decide ((k:Int)<32)=false:=by simp;omega
   go_wp2_with (first
    | (refine Qbz rfl 30 _ rfl _ _ _ h3 rfl _ Tryz.underlying30 rfl 32 Qbf hlS ?_)
    | (refine Qai rfl rfl 30 _ _ rfl _ _ _ _ h2 rfl rfl 32 Qbf hlS rfl (QaX _) ?_;intro w9 hb9 ho9)
    | fail)
   exact bodyPost_ret (Qa8 rfl _ _ _ _ ((nb M).map W8) _ hb9 rfl Tryz.underlying30 rfl (by rw[hlS];exact Qbf)) rfl ⟨by rw[HM.out],L.only ho9 (by omega)⟩
@[go_sem] theorem QES (T:TypeId) (x:Nat) (y:UInt64):binOp .mul T (n64 x) (W64 y)=pure (n64 (x*y.toNat)):=by
  rw[QFq y,QpN]
theorem QC1 (x:UInt8):x.toUInt64.toNat=x.toNat:=UInt8.toNat_toUInt64 x
theorem QvS (w:World):Calls Tryz.prog 168 #[.int .i64 1,.int .i64 4] w fun e w'=>e= .returned (.bool true)∧w=w':=by
 go_enter Tryz.func168,Tryz.ntmps168
 go_wp2
 go_ret
 exact⟨rfl,rfl⟩
def quad (bs:List UInt8) (k j:Nat):Nat:=num ((bs.drop (4*k)).take j)
theorem Qts (bs:List UInt8) (k j:Nat) (h:4*k+j<bs.length):quad bs k (j+1)=quad bs k j+256^j*(bs.getD (4*k+j) 0).toNat:=by
 rw[quad,QlW _ _ (by rw[QGQ];omega)]
 congr 3
 rw[QGq,QGq,QHA]
set_option maxHeartbeats 1000000 in
theorem QAV (A:Option Addr) (n c:Nat) (bs:List UInt8) (k:Nat) (w:World) (hr:RdB w A n bs) (hk:4*k+4≤n) (hn:n≤140737488355328):
 Calls Tryz.prog 136 #[.int .i64 1,.slice A n c,.int .i64 (4*(k:Int)),.int .i64 4] w fun e w'=>e= .returned (.tuple #[n64 (quad bs k 4),.int .i64 0])∧Later w w':=by
 have hbl:=hr.len
 obtain⟨b,o,rfl,hb,hc⟩:=hr.at_ (by omega)
 have HC:=hid hc
 have HQ:=hid (fun j (h:j<4)=>Qts bs k j (by omega))
 clear hc hr
 have e1:decide (4*(k:Int)<0)=false:=by simp;omega
 have e2:decide ((n:Int)<4)=false:=by simp;omega
 have e3:decide ((n:Int)-4<4*(k:Int))=false:=by simp;omega
 go_enter Tryz.func136,Tryz.ntmps136
 go_wp2_with (go_at_call 168;(with_reducible refine (QvS _).mono ?_);rintro e w2 ⟨rfl,rfl⟩)
 go_loopw [10,11,12] (fun v x i wr=>∃j:Nat,j≤4∧i= .int .i64 j∧v=n64 (quad bs k j)∧x=n64 (256^j)∧Later w wr) (fun _ _ i _=>4-(intOf i).toNat)
 case atStart=>exact⟨0,by omega,rfl,rfl,rfl,Later.refl w⟩
 case round=>
  obtain⟨j,hj,rfl,rfl,rfl,L⟩:=hrel
  by_cases hlt:j<4
  ·have c0:wr.cell? ⟨b,o+(4*k+j),none⟩=some (W8 (bs.getD (4*k+j) 0)):=(L.below.cell (p:=⟨b,o+(4*k+j),none⟩) hb).trans (HC.out (4*k+j) (by omega))
   have HQj:=hid (HQ.out j hlt)
   generalize bs.getD (4*k+j) 0=x at *
   have hbx:=QC1 x
   go_wp2
   go_roundw
   case rel=>exact⟨j+1,by omega,by go_num,by rw[HQj.out],by rw[QHq],L⟩
   case measure=>simp[intOf];omega
  ·have hkf:decide ((j:Int)<4)=false:=by simp;omega
   have HJ:=hid (show quad bs k j=quad bs k 4 by rw[show j=4 by omega])
   go_wp2
   go_ret2
   exact⟨QpB (congrArg n64 HJ.out) rfl,L⟩
theorem Qxp (bs:List UInt8) (k:Nat) (h:4*k+4≤bs.length):quad bs k 4=lem (num bs) k:=by
 have e1:num ((bs.drop (4*k)).take 4)<256^4:=by
  have:=Qnt ((bs.drop (4*k)).take 4)
  rwa [QGP,QGQ,QHx (by omega)]at this
 have e2:num bs=num (bs.take (4*k))+256^(4*k)*(num ((bs.drop (4*k)).take 4)+256^4*num ((bs.drop (4*k)).drop 4)):=by
  have a1:∀l m:List UInt8,num (l++m)=num l+256^l.length*num m:=by
   intro l m
   rw[num,QG6,QhB,QGr]
   rfl
  conv=>lhs;rw[←QGX (4*k) bs,a1,←QGX 4 (bs.drop (4*k)),a1]
  rw[QGP,QGP,QGQ,QHx (by omega),QHx (by omega)]
 have e3:num (bs.take (4*k))<256^(4*k):=by
  have:=Qnt (bs.take (4*k))
  rwa [QGP,QHx (by omega)]at this
 have e4:B32^k=256^(4*k):=by rw[QId];rfl
 have e5:B32=256^4:=by decide
 rw[quad,lem,e4,e5,e2,QH6 _ _ (QIA (by decide)),QHm e3,QGT,Nat.add_mul_mod_self_left,QGO e1]
@[go_sem] theorem QFf (T:TypeId) (x:Nat) (hx:x<B32):binOp .rem T (n32 x) (.int .u32 2147483648)=pure (n32 (x%2147483648)):=by
  rw[n32,QpZ _ _ _ (by omega) (by omega) (by decide),Qt1]
  rw[UInt32.toNat_mod,tn32 hx]
  have:x%2147483648<B32:=by unfold B32;omega
  rw[QGO this]
  rfl
theorem QDK (n:Nat):(NL n).set 7 (n32 (lem n 7%2147483648))=NL (n%T255):=by
 have e:∀m,NL m=[n32 (lem m 0),n32 (lem m 1),n32 (lem m 2),n32 (lem m 3),n32 (lem m 4),n32 (lem m 5),n32 (lem m 6),n32 (lem m 7)]:=by
  intro m
  apply QIN (Qay m)
  intro i hi1 hi2
  rw[QFB]
  have:i=0∨i=1∨i=2∨i=3∨i=4∨i=5∨i=6∨i=7:=by rw[Qay]at hi1;omega
  rcases this with rfl|rfl|rfl|rfl|rfl|rfl|rfl|rfl<;>rfl
 have h0:lem n 0=lem (n%T255) 0:=by unfold lem T255 B32;omega
 have h1:lem n 1=lem (n%T255) 1:=by unfold lem T255 B32;omega
 have h2:lem n 2=lem (n%T255) 2:=by unfold lem T255 B32;omega
 have h3:lem n 3=lem (n%T255) 3:=by unfold lem T255 B32;omega
 have h4:lem n 4=lem (n%T255) 4:=by unfold lem T255 B32;omega
 have h5:lem n 5=lem (n%T255) 5:=by unfold lem T255 B32;omega
 have h6:lem n 6=lem (n%T255) 6:=by unfold lem T255 B32;omega
 have h7:lem n 7%2147483648=lem (n%T255) 7:=by unfold lem T255 B32;omega
 rw[e,e,h0,h1,h2,h3,h4,h5,h6,h7]
 rfl
set_option maxRecDepth 100000 in
set_option maxHeartbeats 2000000 in
theorem QxZ (A:Option Addr) (n c:Nat) (bs:List UInt8) (w:World) (hr:RdB w A n bs) (hn:n≤140737488355328):
 Calls Tryz.prog 104 #[.slice A n c] w fun e w'=>e= .returned (.tuple #[NN (QcM bs),.int .i64 (Qck bs:Nat)])∧Later w w':=by
 have hbl:=hr.len
 have hb0:=Blk.new w 225 (QGn 8 (Value.int .u32 0))
 by_cases h32:n=32
 ·subst h32
  have hRN:=hid (show QcM bs=num bs%T255%P25 by rw[QcM,if_pos hbl])
  have hRE:=hid (show Qck bs=0 by rw[Qck,if_pos hbl])
  have HQ:=hid (fun k (h:k<8)=>Qxp bs k (by omega))
  have hlS:=Qay (num bs)
  go_enter Tryz.func104,Tryz.ntmps104
  go_wp2
  go_loopw [5] (fun i wr=>∃k:Nat,k≤8∧i= .int .i64 k∧Blk wr w.heap.size 225 (QGn 8 (.int .u32 0))∧Blk wr (w.heap.size+1) 225 (QbM (NL (num bs)) (QGn 8 (.int .u32 0)) k)∧Later w wr) (fun i _=>8-(intOf i).toNat)
  case atStart=>exact⟨0,by omega,rfl,hb0.later (Qaa _ _),by rw[Qbr];exact Blk.new' _ _ (QGn 8 (Value.int .u32 0)) (by simp),(Qaa _ _).trans (Qaa _ _)⟩
  case round=>
   clear hb0
   obtain⟨k,hk,rfl,h1,h2,L⟩:=hrel
   by_cases hlt:k<8
   ·have HQk:=hid (HQ.out k hlt)
    have HG:=hid (QAV A 32 c bs k wr (hr.later L) (by omega) (by omega))
    go_wp2_with (first
     | (go_at_call 136;(with_reducible refine (HG.out).mono ?_);rintro e w3 ⟨rfl,hl3⟩;rw[HQk.out]
        have h23:=h2.later hl3)
     | (refine Qad rfl rfl _ _ _ rfl _ _ _ _ h23 rfl ?hl rfl (by kernel_rfl) ?_;(case hl=>rw[Qaz _ _ _ (by rw[hlS];rfl)];exact hlt);intro v w6 hv hb6 ho6;simp[go_sem]at hv;subst hv)
     | fail)
    go_roundw
    case rel=>
     rw[Qa2 _ _ _ _ (by rw[hlS];rfl) hlt (Qez _ _ hlt)]at hb6
     exact⟨k+1,by omega,by go_num,(h1.later hl3).only ho6 (by omega),hb6,(L.trans hl3).only ho6 (by omega)⟩
    case measure=>simp[intOf];omega
   ·rw[show k=8 by omega,Qcg _ _ _ hlS rfl]at h2
    have hkf:decide ((k:Int)<8)=false:=by simp;omega
    have d7:=h2.cellD 7 (Qez _ 7 (by omega))
    have hlT:num bs%T255<T256:=QHr (QGU _ (by decide)) (by decide)
    go_wp2_with (first
     | (refine Qad rfl rfl _ _ _ rfl _ _ _ _ h2 rfl ?hl rfl (by kernel_rfl) ?_;(case hl=>rw[Qay];omega);intro v w6 hv hb6 ho6;simp[go_sem]at hv;subst hv
        rw[QDK]at hb6
        have h16:=h1.only ho6 (by omega)
        have L6:=L.only ho6 (by omega))
     | (refine Qa6 rfl _ rfl hb6 rfl ?_)
     | (go_at_call 135;(with_reducible refine (Qej (num bs%T255) hlT _).mono ?_);rintro e w7 ⟨rfl,hl7⟩)
     | (refine Qaw rfl rfl _ _ rfl (h16.later hl7) rfl rfl rfl ?_;intro w9 hb9 ho9)
     | fail)
    exact bodyPost_ret (Qac rfl _ _ _ _ _ _ hb9 rfl Tryz.underlying225 rfl (by rw[Qay];exact Qlt)) rfl ⟨by rw[hRN.out,hRE.out];rfl,(L6.trans hl7).only ho9 (by omega)⟩
 ·have hRN:=hid (show QcM bs=0 by rw[QcM,if_neg (by omega)])
  have hRE:=hid (show Qck bs=2 by rw[Qck,if_neg (by omega)])
  have hne:((n:Int) != 32)=true:=by simp;omega
  go_enter Tryz.func104,Tryz.ntmps104
  go_wp2_with (first
   | (refine Qap rfl 225 _ rfl (NL 0) ?hb ?_;(case hb=>kernel_rfl))
   | (refine Qaw (n:=0) rfl rfl _ _ rfl hb0 rfl rfl rfl ?_;intro w9 hb9 ho9)
   | fail)
  exact bodyPost_ret (Qac rfl _ _ _ _ _ _ hb9 rfl Tryz.underlying225 rfl (by rw[Qay];exact Qlt)) rfl ⟨by rw[hRN.out,hRE.out];rfl,(Qaa _ _).only ho9 (by omega)⟩
theorem Qzw (a:Nat) (h:a%P25≠0):a^(P25-1)%P25=1:=by
 have:=QFP.2 a (by unfold P25 at h;exact h)
 unfold P25
 exact this
theorem QxC (a:Nat) (h:a%P25≠0):a*pinv a%P25=1:=by
 rw[pinv,Nat.mul_mod_mod,←QIu,show (P25-2).succ=P25-1 by unfold P25;rfl]
 exact Qzw a h
theorem QAj (a:Nat):pinv a<P25:=QGU _ Qbp
theorem Qvp (a:Nat):pinv a<T256:=QHr (QAj a) (by decide)
@[go_sem] theorem QFK (a:Nat):(pinv a<T256)=True:=eq_true (Qvp a)
@[go_sem] theorem one_T:(1<T256)=True:=eq_true (by decide)
@[go_sem] theorem QGm:(0<T256)=True:=eq_true (by decide)
@[go_sem] theorem T37:(37<T256)=True:=eq_true (by decide)
section
variable {ops:Array Oper} {rest:List Oper} {o:Oper} {a:Act} {w:World} {Q:Exit→Act→World→Prop}
theorem Qft (hgd:Region.wanted o (yielded ops a.tmps)=true) (x:Operand) (ho:o.op= .load 30 x) {g:Nat} {t:TypeId} {bs:List UInt8} (hb:Blk w g t (bs.map W8)) (hl:bs.length=32) (hx:a.eval x= .pointer (some ⟨g,0,none⟩))
 (h:wpList Tryz.prog ops Q rest (a.put o.dst (.agg (bs.map W8).toArray)) w):wpList Tryz.prog ops Q (o :: rest) a w:=
 Qbz hgd _ x ho g t _ hb hx _ Tryz.underlying30 rfl 32 Qbf (by rw[QGr,hl]) h
theorem QaO (hgd:o.guard=none) (hd:o.dst=none) (x y:Operand) (ho:o.op= .store 30 x y) {g:Nat} {t:TypeId} {l:List Value} {bs:List UInt8} (hg:Blk w g t l) (hx:a.eval x= .pointer (some ⟨g,0,none⟩)) (hy:a.eval y= .agg (bs.map W8).toArray) (hbl:bs.length=32) (hl:l.length=32)
 (h:∀w',Blk w' g t (bs.map W8)→Only g w w'→wpList Tryz.prog ops Q rest a w'):wpList Tryz.prog ops Q (o :: rest) a w:=
 Qai hgd hd _ x y ho g t l _ hg hx hy 32 Qbf (by rw[QGr,hbl]) hl (QaX _) h
theorem QB9 {K:Act→Prop} (x:Operand) (ho:o.op= .load 30 x) {w0:World} {g:Nat} {t:TypeId} {bs:List UInt8} (hb:Blk w0 g t (bs.map W8)) (hl:bs.length=32) (hx:a.eval x= .pointer (some ⟨g,0,none⟩)) (h:K (a.put o.dst (.agg (bs.map W8).toArray))):
 o.quiet Tryz.prog a (fun w'=>∃x,w'=grow w0 x) K:=
 QaJ _ x ho g 0 (bs.map W8) (fun w' hw j v hv=>by obtain⟨y,rfl⟩:=hw;rw[QGT];exact (hb.later ⟨y,rfl⟩).cellD j hv) hx _ Tryz.underlying30 rfl (by rw[QGr,hl];exact Qbf) h
end
theorem Qdp (n:Nat):EL n=[n64 (lim n 0),n64 (lim n 1),n64 (lim n 2),n64 (lim n 3)]:=by
 apply QIN (Qak n)
 intro i hi1 hi2
 rw[QtB]
 have:i=0∨i=1∨i=2∨i=3:=by rw[Qak]at hi1;omega
 rcases this with rfl|rfl|rfl|rfl<;>rfl
theorem Qke (a0 a1 a2 a3 b0 b1 b2 b3:Value) (W:World):
 (Instr.buildSlice 306 2 #[(0,.agg #[a0,a1,a2,a3]),(1,.agg #[b0,b1,b2,b3])]).run Tryz.prog W= .ok (.slice (some ⟨W.heap.size,0,none⟩) 2 2) (W.alloc (.cells #[a0,a1,a2,a3,b0,b1,b2,b3] 211)):=by kernel_rfl
theorem QkC (a b:Nat) (W:World):
 (Instr.buildSlice 306 2 #[(0,E a),(1,E b)]).run Tryz.prog W= .ok (.slice (some ⟨W.heap.size,0,none⟩) 2 2) (W.alloc (.cells (EL a++EL b).toArray 211)):=by
 rw[E,E,Qdp a,Qdp b]
 exact Qke ..
section
variable {ops:Array Oper} {rest:List Oper} {o:Oper} {a:Act} {w:World} {Q:Exit→Act→World→Prop}
theorem Qd1 (hw:Region.wanted o (yielded ops a.tmps)=true) (x y:Operand) (ho:o.op= .buildSlice 306 2 #[(0,x),(1,y)]) (n m:Nat) (hx:a.eval x=E n) (hy:a.eval y=E m)
 (h:wpList Tryz.prog ops Q rest (a.put o.dst (.slice (some ⟨w.heap.size,0,none⟩) 2 2)) (w.alloc (.cells (EL n++EL m).toArray 211))):wpList Tryz.prog ops Q (o :: rest) a w:=
 BigFrame.wpList_want hw fun K hK=>by
  have hr:=QkC n m w
  unfold Oper.wp
  simp only[execOp,ho,QGC,QGR,QGH,hx,hy,Sem.run_bind,hr,Result.andThen_ok,Sem.run_pure]
  exact hK _ _ h
end
theorem Qta {w:World} {g:Nat} {t:TypeId} {l:List Value} (ns:List Nat) (n:Nat) (hb:Blk w g t l) (hl:l=ns.flatMap EL) (hn:ns.length=n):RdE w (some ⟨g,0,none⟩) n ns:=by
 refine⟨hn,fun _=>⟨g,0,rfl,hb.lt,fun j i v hj hv=>?_⟩⟩
 refine hb.cellD _ ?_
 rw[hl]
 have key:∀(ns:List Nat) (j:Nat),j<ns.length→(EL (ns.getD j 0))[i]?=some v→(ns.flatMap EL)[0+j*4+i]?=some v:=by
  intro ns
  induction ns with
  | nil=>intro j hj;simp at hj
  | cons x ns ih=>
    intro j hj hv
    cases j with
    | zero=>
      rw[QHB,QGG]
      ·simpa using hv
      ·have:i<(EL x).length:=by
        have:=QGL.1 hv
        exact this.1
       omega
    | succ j=>
      rw[QHB,QGE (by rw[Qak];omega),Qak]
      have:=ih j (by simpa using hj) (by simpa using hv)
      rw[show 0+(j+1)*4+i-4=0+j*4+i by omega]
      exact this
 exact key ns j (by omega) hv
theorem Qq2 (x:Nat) (h:x<P25):QcM (nb x)=x:=by
 have hT:x<T256:=QHr h (by decide)
 rw[QcM,if_pos (Qcj x),Qzg x hT,QGO (show x<T255 from QHr h (by decide)),QGO h]
end Go.Proofs.YtdhgpkdjdmlphaaGreat
namespace Go.Proofs.YtdhgpkdjdmlphaaGreat
open Go.RowKit
open Go.BigFrame
def Qka (l:List Nat):List UInt32:=l.map QG5
theorem QzI (n:Nat):NL n=(Qka (dig B32 8 n)).map W32:=by rw[NL,Qka,List.map_map];rfl
theorem QuG {l m:List Nat} (hl:∀x∈l,x<B32) (hm:∀x∈m,x<B32) (h:Qka l=Qka m):l=m:=by
 have e:∀l:List Nat,(∀ x∈l,x<B32)→(Qka l).map UInt32.toNat=l:=by
  intro l hl
  rw[Qka,List.map_map]
  conv=>rhs;rw[←List.map_id l]
  apply QIB
  intro x hx
  exact tn32 (hl x hx)
 rw[←e l hl,←e m hm,h]
theorem Qvt {x y:Nat} (hx:x<T256) (hy:y<T256):(Qka (dig B32 8 x)==Qka (dig B32 8 y))=(x==y):=by
 rw[QHh,beq_iff_eq,beq_iff_eq]
 refine⟨fun h=>?_,fun h=>by rw[h]⟩
 have:=QuG (Qeh Qbj 8 x) (Qeh Qbj 8 y) h
 exact Qvf (k:=8) (B:=B32) (by rw[Qfb];exact hx) (by rw[Qfb];exact hy) this
theorem QDP:(Tryz.prog.info? 62).map (·.size)=some 1:=by kernel_rfl
theorem QFX:Tryz.prog.eqGuardType Tryz.prog.depth 225=false:=by kernel_rfl
@[go_sem high] theorem QDB (op:BinOp) (x y:Operand) (xs ys:Array Value) (w:World):(eqGuard op 225 x y (.agg xs) (.agg ys)).run Tryz.prog w= .ok () w:=run_eqGuard_agg w op _ x y xs ys QFX
@[go_sem high] theorem QCK (x y:Nat) (hx:x<T256) (hy:y<T256) (w:World):(binOp .eql 225 (NN x) (NN y)).run Tryz.prog w= .ok (.bool (x==y)) w:=by
  rw[run_eql_struct,QzI,QzI,Qbl w 0 W32 9998 225 62 8 Tryz.underlying225 QDP Tryz.underlying62 rfl (QwA _ _ Tryz.underlying62) _ _ (by rw[Qka,QGr,QaS]) (by rw[Qka,QGr,QaS]),Qvt hx hy]
  rfl
@[go_sem] theorem QDT (T:TypeId) (x:Nat) (hx:x<B32):binOp .rem T (n32 x) (.int .u32 2)=pure (n32 (x%2)):=by
  rw[n32,QpZ _ _ _ (by omega) (by omega) (by decide),Qt1]
  rw[UInt32.toNat_mod,tn32 hx]
  have:x%2<B32:=by unfold B32;omega
  rw[QGO this]
  rfl
@[go_sem] theorem QE0 (T:TypeId) (x:Nat) (k:Int) (hx:x<B32) (h0:0≤k) (h1:k<4294967296):binOp .eql T (n32 x) (.int .u32 k)=pure (.bool (x==k.toNat)):=by
  rw[QBJ k h0 h1,n32,n32,Qo1]
  congr 2
  rw[QHh]
  simp only[beq_iff_eq,←QIV,tn32 hx]
  rw[tn32 (show k.toNat<B32 by unfold B32;omega)]
end Go.Proofs.YtdhgpkdjdmlphaaGreat
namespace Go.Proofs.YtdhgpkdjdmlphaaGreat
namespace Ed
def Qzb:List Nat:=[2,3,5,7,11,13,17,19,23,31,41,43,47,61,67,73,79,101,113,181,227,269,307,383,467,487,727]
theorem Qag:∀q∈Qzb,Prm q:=fun q hq=>QnC (QHa.1 (show Qzb.all small=true by decide +kernel) q hq)
theorem Qun:Prm 30703∧∀a,a%30703≠0→a^(30703-1)%30703=1:=
 Qau 30703 3 [2,3,7,17,43] (by decide +kernel) (by
  intro q hq
  simp only[QGJ,QGK,or_false]at hq
  rcases hq with rfl|rfl|rfl|rfl|rfl
  ·exact Qag _ (by decide)
  ·exact Qag _ (by decide)
  ·exact Qag _ (by decide)
  ·exact Qag _ (by decide)
  ·exact Qag _ (by decide))
theorem QwB:Prm 41081∧∀a,a%41081≠0→a^(41081-1)%41081=1:=
 Qau 41081 3 [2,2,2,5,13,79] (by decide +kernel) (by
  intro q hq
  simp only[QGJ,QGK,or_false]at hq
  rcases hq with rfl|rfl|rfl|rfl|rfl|rfl
  ·exact Qag _ (by decide)
  ·exact Qag _ (by decide)
  ·exact Qag _ (by decide)
  ·exact Qag _ (by decide)
  ·exact Qag _ (by decide)
  ·exact Qag _ (by decide))
theorem Qva:Prm 82163∧∀a,a%82163≠0→a^(82163-1)%82163=1:=
 Qau 82163 2 [2,41081] (by decide +kernel) (by
  intro q hq
  simp only[QGJ,QGK,or_false]at hq
  rcases hq with rfl|rfl
  ·exact Qag _ (by decide)
  ·exact QwB.1)
theorem QlN:Prm 1723∧∀a,a%1723≠0→a^(1723-1)%1723=1:=
 Qau 1723 3 [2,3,7,41] (by decide +kernel) (by
  intro q hq
  simp only[QGJ,QGK,or_false]at hq
  rcases hq with rfl|rfl|rfl|rfl
  ·exact Qag _ (by decide)
  ·exact Qag _ (by decide)
  ·exact Qag _ (by decide)
  ·exact Qag _ (by decide))
theorem QuP:Prm 17231∧∀a,a%17231≠0→a^(17231-1)%17231=1:=
 Qau 17231 13 [2,5,1723] (by decide +kernel) (by
  intro q hq
  simp only[QGJ,QGK,or_false]at hq
  rcases hq with rfl|rfl|rfl
  ·exact Qag _ (by decide)
  ·exact Qag _ (by decide)
  ·exact QlN.1)
theorem Qsp:Prm 137849∧∀a,a%137849≠0→a^(137849-1)%137849=1:=
 Qau 137849 3 [2,2,2,17231] (by decide +kernel) (by
  intro q hq
  simp only[QGJ,QGK,or_false]at hq
  rcases hq with rfl|rfl|rfl|rfl
  ·exact Qag _ (by decide)
  ·exact Qag _ (by decide)
  ·exact Qag _ (by decide)
  ·exact QuP.1)
theorem Qtc:Prm 22111∧∀a,a%22111≠0→a^(22111-1)%22111=1:=
 Qau 22111 6 [2,3,5,11,67] (by decide +kernel) (by
  intro q hq
  simp only[QGJ,QGK,or_false]at hq
  rcases hq with rfl|rfl|rfl|rfl|rfl
  ·exact Qag _ (by decide)
  ·exact Qag _ (by decide)
  ·exact Qag _ (by decide)
  ·exact Qag _ (by decide)
  ·exact Qag _ (by decide))
theorem Qr2:Prm 132667∧∀a,a%132667≠0→a^(132667-1)%132667=1:=
 Qau 132667 5 [2,3,22111] (by decide +kernel) (by
  intro q hq
  simp only[QGJ,QGK,or_false]at hq
  rcases hq with rfl|rfl|rfl
  ·exact Qag _ (by decide)
  ·exact Qag _ (by decide)
  ·exact Qtc.1)
theorem Qeg:Prm 3044861653679985063343∧∀a,a%3044861653679985063343≠0→a^(3044861653679985063343-1)%3044861653679985063343=1:=
 Qau 3044861653679985063343 5 [2,3,11,30703,82163,132667,137849] (by decide +kernel) (by
  intro q hq
  simp only[QGJ,QGK,or_false]at hq
  rcases hq with rfl|rfl|rfl|rfl|rfl|rfl|rfl
  ·exact Qag _ (by decide)
  ·exact Qag _ (by decide)
  ·exact Qag _ (by decide)
  ·exact Qun.1
  ·exact Qva.1
  ·exact Qr2.1
  ·exact Qsp.1)
theorem Qvb:Prm 34123∧∀a,a%34123≠0→a^(34123-1)%34123=1:=
 Qau 34123 2 [2,3,11,11,47] (by decide +kernel) (by
  intro q hq
  simp only[QGJ,QGK,or_false]at hq
  rcases hq with rfl|rfl|rfl|rfl|rfl
  ·exact Qag _ (by decide)
  ·exact Qag _ (by decide)
  ·exact Qag _ (by decide)
  ·exact Qag _ (by decide)
  ·exact Qag _ (by decide))
theorem Qrg:Prm 409477∧∀a,a%409477≠0→a^(409477-1)%409477=1:=
 Qau 409477 2 [2,2,3,34123] (by decide +kernel) (by
  intro q hq
  simp only[QGJ,QGK,or_false]at hq
  rcases hq with rfl|rfl|rfl|rfl
  ·exact Qag _ (by decide)
  ·exact Qag _ (by decide)
  ·exact Qag _ (by decide)
  ·exact Qvb.1)
theorem Qnc:Prm 14741173∧∀a,a%14741173≠0→a^(14741173-1)%14741173=1:=
 Qau 14741173 2 [2,2,3,3,409477] (by decide +kernel) (by
  intro q hq
  simp only[QGJ,QGK,or_false]at hq
  rcases hq with rfl|rfl|rfl|rfl|rfl
  ·exact Qag _ (by decide)
  ·exact Qag _ (by decide)
  ·exact Qag _ (by decide)
  ·exact Qag _ (by decide)
  ·exact Qrg.1)
theorem QnI:Prm 58964693∧∀a,a%58964693≠0→a^(58964693-1)%58964693=1:=
 Qau 58964693 2 [2,2,14741173] (by decide +kernel) (by
  intro q hq
  simp only[QGJ,QGK,or_false]at hq
  rcases hq with rfl|rfl|rfl
  ·exact Qag _ (by decide)
  ·exact Qag _ (by decide)
  ·exact Qnc.1)
theorem QcN:Prm 198211423230930754013084525763697∧∀a,a%198211423230930754013084525763697≠0→a^(198211423230930754013084525763697-1)%198211423230930754013084525763697=1:=
 Qau 198211423230930754013084525763697 5 [2,2,2,2,3,23,58964693,3044861653679985063343] (by decide +kernel) (by
  intro q hq
  simp only[QGJ,QGK,or_false]at hq
  rcases hq with rfl|rfl|rfl|rfl|rfl|rfl|rfl|rfl
  ·exact Qag _ (by decide)
  ·exact Qag _ (by decide)
  ·exact Qag _ (by decide)
  ·exact Qag _ (by decide)
  ·exact Qag _ (by decide)
  ·exact Qag _ (by decide)
  ·exact QnI.1
  ·exact Qeg.1)
theorem QxU:Prm 2939∧∀a,a%2939≠0→a^(2939-1)%2939=1:=
 Qau 2939 2 [2,13,113] (by decide +kernel) (by
  intro q hq
  simp only[QGJ,QGK,or_false]at hq
  rcases hq with rfl|rfl|rfl
  ·exact Qag _ (by decide)
  ·exact Qag _ (by decide)
  ·exact Qag _ (by decide))
theorem QxD:Prm 5879∧∀a,a%5879≠0→a^(5879-1)%5879=1:=
 Qau 5879 11 [2,2939] (by decide +kernel) (by
  intro q hq
  simp only[QGJ,QGK,or_false]at hq
  rcases hq with rfl|rfl
  ·exact Qag _ (by decide)
  ·exact QxU.1)
theorem QlH:Prm 292386187∧∀a,a%292386187≠0→a^(292386187-1)%292386187=1:=
 Qau 292386187 2 [2,3,3,3,3,307,5879] (by decide +kernel) (by
  intro q hq
  simp only[QGJ,QGK,or_false]at hq
  rcases hq with rfl|rfl|rfl|rfl|rfl|rfl|rfl
  ·exact Qag _ (by decide)
  ·exact Qag _ (by decide)
  ·exact Qag _ (by decide)
  ·exact Qag _ (by decide)
  ·exact Qag _ (by decide)
  ·exact Qag _ (by decide)
  ·exact QxD.1)
theorem Qij:Prm 213441916511∧∀a,a%213441916511≠0→a^(213441916511-1)%213441916511=1:=
 Qau 213441916511 13 [2,5,73,292386187] (by decide +kernel) (by
  intro q hq
  simp only[QGJ,QGK,or_false]at hq
  rcases hq with rfl|rfl|rfl|rfl
  ·exact Qag _ (by decide)
  ·exact Qag _ (by decide)
  ·exact Qag _ (by decide)
  ·exact QlH.1)
theorem Qw5:Prm 1361∧∀a,a%1361≠0→a^(1361-1)%1361=1:=
 Qau 1361 3 [2,2,2,2,5,17] (by decide +kernel) (by
  intro q hq
  simp only[QGJ,QGK,or_false]at hq
  rcases hq with rfl|rfl|rfl|rfl|rfl|rfl
  ·exact Qag _ (by decide)
  ·exact Qag _ (by decide)
  ·exact Qag _ (by decide)
  ·exact Qag _ (by decide)
  ·exact Qag _ (by decide)
  ·exact Qag _ (by decide))
theorem Qxv:Prm 2851∧∀a,a%2851≠0→a^(2851-1)%2851=1:=
 Qau 2851 2 [2,3,5,5,19] (by decide +kernel) (by
  intro q hq
  simp only[QGJ,QGK,or_false]at hq
  rcases hq with rfl|rfl|rfl|rfl|rfl
  ·exact Qag _ (by decide)
  ·exact Qag _ (by decide)
  ·exact Qag _ (by decide)
  ·exact Qag _ (by decide)
  ·exact Qag _ (by decide))
theorem QxV:Prm 2551∧∀a,a%2551≠0→a^(2551-1)%2551=1:=
 Qau 2551 6 [2,3,5,5,17] (by decide +kernel) (by
  intro q hq
  simp only[QGJ,QGK,or_false]at hq
  rcases hq with rfl|rfl|rfl|rfl|rfl
  ·exact Qag _ (by decide)
  ·exact Qag _ (by decide)
  ·exact Qag _ (by decide)
  ·exact Qag _ (by decide)
  ·exact Qag _ (by decide))
theorem QpA:Prm 1224481∧∀a,a%1224481≠0→a^(1224481-1)%1224481=1:=
 Qau 1224481 13 [2,2,2,2,2,3,5,2551] (by decide +kernel) (by
  intro q hq
  simp only[QGJ,QGK,or_false]at hq
  rcases hq with rfl|rfl|rfl|rfl|rfl|rfl|rfl|rfl
  ·exact Qag _ (by decide)
  ·exact Qag _ (by decide)
  ·exact Qag _ (by decide)
  ·exact Qag _ (by decide)
  ·exact Qag _ (by decide)
  ·exact Qag _ (by decide)
  ·exact Qag _ (by decide)
  ·exact QxV.1)
theorem QwX:Prm 3797∧∀a,a%3797≠0→a^(3797-1)%3797=1:=
 Qau 3797 2 [2,2,13,73] (by decide +kernel) (by
  intro q hq
  simp only[QGJ,QGK,or_false]at hq
  rcases hq with rfl|rfl|rfl|rfl
  ·exact Qag _ (by decide)
  ·exact Qag _ (by decide)
  ·exact Qag _ (by decide)
  ·exact Qag _ (by decide))
theorem QsH:Prm 531581∧∀a,a%531581≠0→a^(531581-1)%531581=1:=
 Qau 531581 2 [2,2,5,7,3797] (by decide +kernel) (by
  intro q hq
  simp only[QGJ,QGK,or_false]at hq
  rcases hq with rfl|rfl|rfl|rfl|rfl
  ·exact Qag _ (by decide)
  ·exact Qag _ (by decide)
  ·exact Qag _ (by decide)
  ·exact Qag _ (by decide)
  ·exact QwX.1)
theorem Qgl:Prm 1257559732178653∧∀a,a%1257559732178653≠0→a^(1257559732178653-1)%1257559732178653=1:=
 Qau 1257559732178653 2 [2,2,3,7,23,531581,1224481] (by decide +kernel) (by
  intro q hq
  simp only[QGJ,QGK,or_false]at hq
  rcases hq with rfl|rfl|rfl|rfl|rfl|rfl|rfl
  ·exact Qag _ (by decide)
  ·exact Qag _ (by decide)
  ·exact Qag _ (by decide)
  ·exact Qag _ (by decide)
  ·exact Qag _ (by decide)
  ·exact QsH.1
  ·exact QpA.1)
theorem Qff:Prm 4434155615661930479∧∀a,a%4434155615661930479≠0→a^(4434155615661930479-1)%4434155615661930479=1:=
 Qau 4434155615661930479 17 [2,41,43,1257559732178653] (by decide +kernel) (by
  intro q hq
  simp only[QGJ,QGK,or_false]at hq
  rcases hq with rfl|rfl|rfl|rfl
  ·exact Qag _ (by decide)
  ·exact Qag _ (by decide)
  ·exact Qag _ (by decide)
  ·exact Qgl.1)
theorem Qdm:Prm 172054593956031949258510691∧∀a,a%172054593956031949258510691≠0→a^(172054593956031949258510691-1)%172054593956031949258510691=1:=
 Qau 172054593956031949258510691 2 [2,5,1361,2851,4434155615661930479] (by decide +kernel) (by
  intro q hq
  simp only[QGJ,QGK,or_false]at hq
  rcases hq with rfl|rfl|rfl|rfl|rfl
  ·exact Qag _ (by decide)
  ·exact Qag _ (by decide)
  ·exact Qw5.1
  ·exact Qxv.1
  ·exact Qff.1)
theorem Qce:Prm 19757330305831588566944191468367130476339∧∀a,a%19757330305831588566944191468367130476339≠0→a^(19757330305831588566944191468367130476339-1)%19757330305831588566944191468367130476339=1:=
 Qau 19757330305831588566944191468367130476339 2 [2,269,213441916511,172054593956031949258510691] (by decide +kernel) (by
  intro q hq
  simp only[QGJ,QGK,or_false]at hq
  rcases hq with rfl|rfl|rfl|rfl
  ·exact Qag _ (by decide)
  ·exact Qag _ (by decide)
  ·exact Qij.1
  ·exact Qdm.1)
theorem Qb9:Prm 276602624281642239937218680557139826668747∧∀a,a%276602624281642239937218680557139826668747≠0→a^(276602624281642239937218680557139826668747-1)%276602624281642239937218680557139826668747=1:=
 Qau 276602624281642239937218680557139826668747 2 [2,7,19757330305831588566944191468367130476339] (by decide +kernel) (by
  intro q hq
  simp only[QGJ,QGK,or_false]at hq
  rcases hq with rfl|rfl|rfl
  ·exact Qag _ (by decide)
  ·exact Qag _ (by decide)
  ·exact Qce.1)
theorem QE3:Prm 7237005577332262213973186563042994240857116359379907606001950938285454250989∧∀a,a%7237005577332262213973186563042994240857116359379907606001950938285454250989≠0→a^(7237005577332262213973186563042994240857116359379907606001950938285454250989-1)%7237005577332262213973186563042994240857116359379907606001950938285454250989=1:=
 Qau 7237005577332262213973186563042994240857116359379907606001950938285454250989 2 [2,2,3,11,198211423230930754013084525763697,276602624281642239937218680557139826668747] (by decide +kernel) (by
  intro q hq
  simp only[QGJ,QGK,or_false]at hq
  rcases hq with rfl|rfl|rfl|rfl|rfl|rfl
  ·exact Qag _ (by decide)
  ·exact Qag _ (by decide)
  ·exact Qag _ (by decide)
  ·exact Qag _ (by decide)
  ·exact QcN.1
  ·exact Qb9.1)
end Ed
end Go.Proofs.YtdhgpkdjdmlphaaGreat
namespace Go.Proofs.YtdhgpkdjdmlphaaGreat
open Go.RowKit
section
variable {P:Program} {ops:Array Oper} {rest:List Oper} {o:Oper} {a:Act} {w:World} {Q:Exit→Act→World→Prop}
theorem Qed (hgd:o.guard=none) (s x:Operand) (t:TypeId) (ho:o.op= .call { callee:=.builtin .append,args:= #[s,x],argTypes:= #[t,t] })
 (e:TypeId) (z:Value) (sz bytes:Nat) (ht:P.underlying t=some (.slice e)) (hinfo:(P.info? e).map (fun i=>(i.zero,i.size,i.bytes))=some (some z,sz,bytes)) (hzs:z.cells.size=sz) (hs0:0<sz)
 (w0:World) (v:Value) (n:Nat) (vs:List Value) (hown:w.ownsRow w0.heap.size e sz v n vs) (hl:Later w0 w)
 (g m c:Nat) (t2:TypeId) (news:List Value) (hb:Blk w g t2 news) (hnl:news.length=m*sz) (h1:∀u∈news,u.oneCell'=true) (hs:a.eval s=v) (hx:a.eval x= .slice (some ⟨g,0,none⟩) m c) (hsz:(n+m)*bytes≤140737488355328) (hby:0<bytes)
 (h:∀v' w',w'.ownsRow w0.heap.size e sz v' (n+m) (vs++news)→Later w0 w'→w.grownBy w' v.ownBlock→wpList P ops Q rest (a.put o.dst v') w'):
 wpList P ops Q (o :: rest) a w:=by
 obtain⟨i,hi,hz,hsize,hbytes⟩:=info_parts hinfo
 have hnm:n+m≤140737488355328:=QG9 (QHE _ hby) hsz
 have hmax:n+m≤maxLen:=by unfold maxLen;omega
 have hcells:∀j u,news[j]?=some u→w.cell? ((⟨g,0,none⟩:Addr).add j)=some u:=by
  intro j u hu
  rw[Qdb,QGT]
  exact hb.cellD j hu
 obtain⟨v',w',hrun,h2,h3,_⟩:=run_append_own (P:=P) w w0.heap.size t o.type e i z sz bytes ht hi hz hsize hbytes hzs hs0 v n vs hown ⟨g,0,none⟩ m c news hnl hcells h1 hmax hsz hl.size
 refine wpList_plain hgd fun K hK=>?_
 unfold Oper.wp execOp
 simp only[ho,resolve,invoke,builtin,Sem.run_bind,Sem.run_pure,Result.andThen_ok,QGC,QGR,QGH,hs,hx,hrun]
 exact hK _ _ (h v' w' h2 (hl.grownBy h3 (fun k hk=>(hown.lt k hk).1)) h3)
end
end Go.Proofs.YtdhgpkdjdmlphaaGreat
