/-
  Lemmas for the last text of this claim (part 7 of 20).
-/
import Derived.ArgAppend
import Derived.BigQuiet
import Derived.BigRegion
import Derived.ChangeOld
import Derived.Deep.RegionWith
import Derived.DeepKeys4
import Derived.JoinedCond
import Derived.LaidMore
import Derived.Laws.CopyOwn
import Derived.Laws.Externs
import Derived.Laws.IdiomStrings
import Derived.Laws.Tables
import Derived.Lib.AppendStr
import Derived.Lib.AppendZerosOnto
import Derived.Lib.Mul64
import Derived.Lib.SlBytesConst
import Derived.LoopN
import Derived.Maps.OwnSet
import Derived.OpenShut
import Derived.OrdersHeld
import Derived.ProofKit
import Derived.Shelf.Spec.BitsCarry
import Derived.ShutString
import Derived.Test.YtdkpcdgckgaklaaGreatProg
import Derived.Test.YtdkpcdgckgaklaaGreatRows
import Derived.WalkKit
import Derived.WalkLawsBesides
import Derived.WalkSpells
import Derived.Test.YtdkpcdgckgaklaaGreatPF
open BitVec renaming toNat_ushiftRight → QDs, toNat_shiftLeft → QDT
open Bool renaming and_eq_true → QCG, eq_iff_iff → QDb, or_eq_true → QEe
open Int renaming toNat_natCast → QEx
open List renaming replicate → QCn, getElem?_cons_succ → QCo, getElem?_cons_zero → QCp, cons_append → QCr, nil_append → QCs, length_map → QCt, getD_eq_getElem?_getD → QCu, getElem?_eq_getElem → QCv, setIfInBounds_toArray → QCw, set_cons_zero → QCy, set_cons_succ → QCz, map_toArray → QCA, map_nil → QCC, getElem?_append_left → QCD, take_of_length_le → QCE, getElem?_append_right → QCF, getElem?_map → QCH, getElem?_eq_some_iff → QCK, length_take → QCP, mem_cons → QCQ, map_cons → QCR, length_drop → QCS, not_mem_nil → QCT, take_succ_eq_append_getElem → QCY, length_set → QCZ, eq_nil_of_length_eq_zero → QC0, take_append_drop → QC3, range → QC5, map_append → QC6, mem_map → QC7, all_eq_true → QDa, drop_of_length_le → QDf, flatMap_cons → QDi, length_cons → QDj, getElem_mem → QDn, drop_eq_getElem_cons → QDp, map_take → QDB, mem_range → QDC, mem_singleton → QDH, getElem?_drop → QDU, getElem?_replicate → QD4, nodup_cons → QEf, take_zero → QEm, range_succ → QEp, ext_getElem → QEt
open Nat renaming zero_add → QCI, lt_of_lt_of_le → QCM, mod_eq_of_lt → QCO, mod_lt → QCU, le_trans → QC4, div_eq_of_lt → QDd, div_div_eq_div_mul → QDe, pow_le_pow_right → QDh, div_lt_of_lt_mul → QDm, shiftRight_eq_div_pow → QDo, lt_or_ge → QDq, pow_succ → QDv, lt_trans → QDw, div_add_mod → QDx, min_eq_left → QDG, mul_comm → QDK, lt_of_le_of_lt → QDN, pow_add → QDO, add_zero → QDP, add_mul_div_left → QDQ, mul_assoc → QDV, mod_mod → QDY, shiftLeft_eq → QD1, pow_mul → QD5, eq_zero_or_pos → QD6, mul_le_mul_left → QEa, mul_mod → QEb, mul_one → QEi, zero_le → QEk, pow_pos → QEl, pow_succ' → QEn, mul_left_comm → QEw, add_comm → QEz, sub_self → QEB, add_mod → QED, pow_zero → QEE
open Option renaming toList_some → QCq, map_some → QD7
open UInt32 renaming ofNat → QCW, toNat_ofNat' → QDX, toNat_inj → QEs
open UInt64 renaming ofInt → QDy
open UInt8 renaming ofNat → QC2, toNat_inj → QDl, toNat_ofNat' → QDM
set_option linter.all false
namespace Go.Proofs.YtdkpcdgckgaklaaGreat
def Prm (n:Nat):Prop:=2≤n∧∀d,d ∣ n→d=1∨d=n
def small (n:Nat):Bool:=decide (2≤n)&&(QC5 n).all fun d=>d≤1||n%d != 0
theorem QlU {n:Nat} (h:small n=true):Prm n:=by
 simp only[small,QCG,decide_eq_true_eq,QDa,QDC,QEe,bne_iff_ne]at h
 refine⟨h.1,fun d hd=>?_⟩
 have hle:=Nat.le_of_dvd (by omega) hd
 by_cases he:d=n
 ·exact .inr he
 ·rcases h.2 d (by omega) with h1|h1
  ·rcases QDq 0 d with h0|h0
   ·exact .inl (by omega)
   ·have:d=0:=by omega
    subst this
    have:=Nat.eq_zero_of_zero_dvd hd
    omega
  ·exact absurd (Nat.mod_eq_zero_of_dvd hd) h1
def pwm (m:Nat):Nat→Nat→Nat→Nat
 | 0,_,_=>1%m
 | f+1,b,e=>if e=0 then 1%m else if e%2=1 then b*pwm m f (b*b%m) (e/2)%m else pwm m f (b*b%m) (e/2)
theorem Qeg (b e m:Nat):(b%m)^e%m=b^e%m:=(Nat.pow_mod b e m).symm
theorem QnW (m:Nat):∀(f b e:Nat),e<2^f→pwm m f b e=b^e%m
 | 0,b,e,h=>by
   obtain rfl:e=0:=by simpa using h
   rfl
 | f+1,b,e,h=>by
   have ih:=QnW m f (b*b%m) (e/2) (by rw[QDv]at h;omega)
   rw[Qeg]at ih
   have hb:(b*b)^(e/2)=b^(2*(e/2)):=by rw[QD5,Nat.pow_two]
   rw[hb]at ih
   rw[pwm]
   split
   ·rename_i h0
    rw[h0]
    rfl
   ·split
    ·rename_i h1
     rw[ih,Nat.mul_mod_mod,←QEn]
     congr 2
     omega
    ·rw[ih]
     congr 2
     omega
theorem QgM (t:Nat) (ht:1<t):∀fs:List Nat,(∀ q∈fs,Prm q)→t ∣ fs.foldr (· *·) 1→∃q∈fs,q ∣ t
 | [],_,h=>by
   have:=Nat.le_of_dvd (by decide) h
   simp at this
   omega
 | q :: fs,hp,h=>by
   have hq:=hp q (by simp)
   rcases hq.2 (Nat.gcd t q) (Nat.gcd_dvd_right t q) with h1|h1
   ·obtain⟨r,hr,hd⟩:=QgM t ht fs (fun r hr=>hp r (by simp[hr])) (Nat.Coprime.dvd_of_dvd_mul_left h1 h)
    exact⟨r,by simp[hr],hd⟩
   ·exact⟨q,by simp,h1 ▸ Nat.gcd_dvd_left t q⟩
theorem Qd9:∀(l m:List Nat),l.Nodup→(∀ x∈l,x∈m)→l.length≤m.length
 | [],_,_,_=>QEk _
 | x :: l,m,h,hs=>by
   rw[QEf]at h
   have hx:=hs x (by simp)
   have:=Qd9 l (m.erase x) h.2 (fun y hy=>(List.mem_erase_of_ne (fun e=>by subst e;exact h.1 hy)).2 (hs y (by simp[hy])))
   rw[List.length_erase_of_mem hx]at this
   have:=List.length_pos_of_mem hx
   simp only[QDj]
   omega
theorem Qm9 (l:List Nat) (n:Nat) (hd:l.Nodup) (hl:l.length=n) (hb:∀x∈l,0<x∧x<n+1) (a:Nat) (h0:0<a) (h1:a<n+1):a∈l:=by
 refine Classical.byContradiction fun ha=>?_
 have:=Qd9 (0 :: a :: l) (QC5 (n+1)) (by
  rw[QEf,QEf]
  refine⟨?_,ha,hd⟩
  intro h
  rcases QCQ.1 h with h|h
  ·omega
  ·have:=hb 0 h
   omega) (by
  intro x hx
  rw[QDC]
  rcases QCQ.1 hx with rfl|hx
  ·omega
  ·rcases QCQ.1 hx with rfl|hx
   ·omega
   ·exact (hb x hx).2)
 simp[hl]at this
 omega
theorem Qgg {g n k:Nat} (hn:2≤n) (h:g^k%n=1) (j:Nat):g^(k*j)%n=1:=by
 rw[QD5,Nat.pow_mod,h,Nat.one_pow]
 exact QCO (by omega)
theorem QiY {a b n:Nat} (ha:a%n=1):a*b%n=b%n:=by
 rw[QEb,ha,Nat.one_mul,QDY]
theorem Qfa (f:Nat→Nat):∀n,(∀ i j,i<j→j<n→f i≠f j)→((QC5 n).map f).Nodup
 | 0,_=>by simp
 | n+1,h=>by
   rw[QEp,QC6,List.nodup_append]
   refine⟨Qfa f n fun i j hi hj=>h i j hi (by omega),by simp,?_⟩
   intro a ha b hb
   obtain⟨i,hi,rfl⟩:=QC7.1 ha
   rw[QDC]at hi
   simp only[QCR,QCC,QDH]at hb
   subst hb
   exact h i n hi (by omega)
theorem QBO (n g:Nat) (fs:List Nat) (hn:2≤n) (hprod:fs.foldr (· *·) 1=n-1) (hpr:∀q∈fs,Prm q) (h1:g^(n-1)%n=1) (h2:∀q∈fs,g^((n-1)/q)%n≠1):
 Prm n∧∀a,a%n≠0→a^(n-1)%n=1:=by
 have hord:∀k,0<k→k<n-1→g^k%n≠1:=by
  intro k
  induction k using Nat.strongRecOn with
  | _ m ih=>
    intro h0 hlt hg
    by_cases hr:(n-1)%m=0
    ·have ht:m*((n-1)/m)=n-1:=Nat.mul_div_cancel' (Nat.dvd_of_mod_eq_zero hr)
     generalize (n-1)/m=t at ht
     have ht1:1<t:=by
      rcases QDq 1 t with h|h
      ·exact h
      ·have:m*t≤m*1:=QEa m h
       omega
     obtain⟨q,hq,u,hu⟩:=QgM t ht1 fs hpr (by rw[hprod,←ht];exact Nat.dvd_mul_left t m)
     have hqp:=(hpr q hq).1
     refine h2 q hq ?_
     have:(n-1)/q=m*u:=by
      rw[←ht,hu,QEw]
      exact Nat.mul_div_cancel_left _ (by omega)
     rw[this]
     exact Qgg hn hg u
    ·refine ih ((n-1)%m) (QCU _ h0) (by omega) (by have:=QCU (n-1) h0;omega) ?_
     have hd:g^(m*((n-1)/m))*g^((n-1)%m)=g^(n-1):=by rw[←QDO,QDx]
     have e:=QiY (b:=g^((n-1)%m)) (Qgg hn hg ((n-1)/m))
     rw[hd,h1]at e
     exact e.symm
 have hinv:∀i,i≤n-1→g^i*g^(n-1-i)%n=1:=by
  intro i hi
  rw[←QDO,show i+(n-1-i)=n-1 by omega]
  exact h1
 have hnz:∀i,i≤n-1→g^i%n≠0:=by
  intro i hi h
  have:=hinv i hi
  rw[QEb,h,Nat.zero_mul,Nat.zero_mod]at this
  omega
 have hall:∀a,a%n≠0→∃i,i<n-1∧g^i%n=a%n:=by
  intro a ha
  have:=Qm9 ((QC5 (n-1)).map fun i=>g^i%n) (n-1) (Qfa _ _ (by
   intro i j hi hj he
   refine hord (j-i) (by omega) (by omega) ?_
   have e1:g^j=g^i*g^(j-i):=by rw[←QDO];congr 1;omega
   have e2:=hinv i (by omega)
   have e3:g^(n-1-i)*g^j%n=g^(n-1-i)*g^i%n:=by rw[QEb,←he,←QEb]
   rw[e1,←QDV,QDK (g^(n-1-i)),QiY e2,e2]at e3
   exact e3)) (by simp) (by
   intro x hx
   obtain⟨i,hi,rfl⟩:=QC7.1 hx
   rw[QDC]at hi
   have:=hnz i (by omega)
   have:=QCU (g^i) (show 0<n by omega)
   omega) (a%n) (by omega) (by have:=QCU a (show 0<n by omega);omega)
  obtain⟨i,hi,he⟩:=QC7.1 this
  exact⟨i,QDC.1 hi,he⟩
 have hfer:∀a,a%n≠0→a^(n-1)%n=1:=by
  intro a ha
  obtain⟨i,_,he⟩:=hall a ha
  rw[←Qeg,←he,Qeg,←QD5,QDK]
  exact Qgg hn h1 i
 refine⟨⟨hn,fun d hd=>?_⟩,hfer⟩
 by_cases hdn:d=n
 ·exact .inr hdn
 ·refine .inl ?_
  have hle:=Nat.le_of_dvd (by omega) hd
  have hd0:d≠0:=fun h=>by
   subst h
   have:=Nat.eq_zero_of_zero_dvd hd
   omega
  have h3:=hfer d (by rw[QCO (by omega)];exact hd0)
  have h4:d ∣ d^(n-1):=by
   obtain⟨k,hk⟩:∃k,n-1=k+1:=⟨n-2,by omega⟩
   rw[hk,QDv]
   exact Nat.dvd_mul_left d _
  have h5:d ∣ d^(n-1)%n:=(Nat.dvd_mod_iff hd).2 h4
  rw[h3]at h5
  exact Nat.dvd_one.1 h5
def Qz9 (n g:Nat) (fs:List Nat):Bool:=
 decide (2≤n)&&decide (n<2^256)&&(fs.foldr (· *·) 1==n-1)&&(pwm n 256 g (n-1)==1)&&fs.all fun q=>pwm n 256 g ((n-1)/q) != 1
theorem Qbf (n g:Nat) (fs:List Nat) (h:Qz9 n g fs=true) (hpr:∀q∈fs,Prm q):Prm n∧∀a,a%n≠0→a^(n-1)%n=1:=by
 simp only[Qz9,QCG,decide_eq_true_eq,beq_iff_eq,QDa,bne_iff_ne]at h
 obtain⟨⟨⟨⟨h1,h2⟩,h3⟩,h4⟩,h5⟩:=h
 refine QBO n g fs h1 h3 hpr ?_ ?_
 ·rw[QnW _ _ _ _ (by omega)]at h4
  exact h4
 ·intro q hq
  have:=h5 q hq
  rw[QnW _ _ _ _ (QDN (Nat.div_le_self _ _) (by omega))]at this
  exact this
def Qla:List Nat:=[2,3,5,7,13,17,19,23,29,31,41,43,47,59,83,97,103,107,127,131,173,223,353,419,479,487,991]
theorem Qag:∀q∈Qla,Prm q:=fun q hq=>QlU (QDa.1 (show Qla.all small=true by decide +kernel) q hq)
theorem Qro:Prm 32573∧∀a,a%32573≠0→a^(32573-1)%32573=1:=
 Qbf 32573 2 [2,2,17,479] (by decide +kernel) (by
  intro q hq
  simp only[QCQ,QCT,or_false]at hq
  rcases hq with rfl|rfl|rfl|rfl
  ·exact Qag _ (by decide)
  ·exact Qag _ (by decide)
  ·exact Qag _ (by decide)
  ·exact Qag _ (by decide))
theorem QrH:Prm 65147∧∀a,a%65147≠0→a^(65147-1)%65147=1:=
 Qbf 65147 2 [2,32573] (by decide +kernel) (by
  intro q hq
  simp only[QCQ,QCT,or_false]at hq
  rcases hq with rfl|rfl
  ·exact Qag _ (by decide)
  ·exact Qro.1)
theorem Qs0:Prm 57467∧∀a,a%57467≠0→a^(57467-1)%57467=1:=
 Qbf 57467 2 [2,59,487] (by decide +kernel) (by
  intro q hq
  simp only[QCQ,QCT,or_false]at hq
  rcases hq with rfl|rfl|rfl
  ·exact Qag _ (by decide)
  ·exact Qag _ (by decide)
  ·exact Qag _ (by decide))
theorem Qpe:Prm 132049∧∀a,a%132049≠0→a^(132049-1)%132049=1:=
 Qbf 132049 26 [2,2,2,2,3,3,7,131] (by decide +kernel) (by
  intro q hq
  simp only[QCQ,QCT,or_false]at hq
  rcases hq with rfl|rfl|rfl|rfl|rfl|rfl|rfl|rfl
  ·exact Qag _ (by decide)
  ·exact Qag _ (by decide)
  ·exact Qag _ (by decide)
  ·exact Qag _ (by decide)
  ·exact Qag _ (by decide)
  ·exact Qag _ (by decide)
  ·exact Qag _ (by decide)
  ·exact Qag _ (by decide))
theorem Qup:Prm 3727∧∀a,a%3727≠0→a^(3727-1)%3727=1:=
 Qbf 3727 3 [2,3,3,3,3,23] (by decide +kernel) (by
  intro q hq
  simp only[QCQ,QCT,or_false]at hq
  rcases hq with rfl|rfl|rfl|rfl|rfl|rfl
  ·exact Qag _ (by decide)
  ·exact Qag _ (by decide)
  ·exact Qag _ (by decide)
  ·exact Qag _ (by decide)
  ·exact Qag _ (by decide)
  ·exact Qag _ (by decide))
theorem Qno:Prm 1923133∧∀a,a%1923133≠0→a^(1923133-1)%1923133=1:=
 Qbf 1923133 2 [2,2,3,43,3727] (by decide +kernel) (by
  intro q hq
  simp only[QCQ,QCT,or_false]at hq
  rcases hq with rfl|rfl|rfl|rfl|rfl
  ·exact Qag _ (by decide)
  ·exact Qag _ (by decide)
  ·exact Qag _ (by decide)
  ·exact Qag _ (by decide)
  ·exact Qup.1)
theorem QoS:Prm 1723∧∀a,a%1723≠0→a^(1723-1)%1723=1:=
 Qbf 1723 3 [2,3,7,41] (by decide +kernel) (by
  intro q hq
  simp only[QCQ,QCT,or_false]at hq
  rcases hq with rfl|rfl|rfl|rfl
  ·exact Qag _ (by decide)
  ·exact Qag _ (by decide)
  ·exact Qag _ (by decide)
  ·exact Qag _ (by decide))
theorem Qpn:Prm 430751∧∀a,a%430751≠0→a^(430751-1)%430751=1:=
 Qbf 430751 17 [2,5,5,5,1723] (by decide +kernel) (by
  intro q hq
  simp only[QCQ,QCT,or_false]at hq
  rcases hq with rfl|rfl|rfl|rfl|rfl
  ·exact Qag _ (by decide)
  ·exact Qag _ (by decide)
  ·exact Qag _ (by decide)
  ·exact Qag _ (by decide)
  ·exact QoS.1)
theorem Qt9:Prm 4153∧∀a,a%4153≠0→a^(4153-1)%4153=1:=
 Qbf 4153 5 [2,2,2,3,173] (by decide +kernel) (by
  intro q hq
  simp only[QCQ,QCT,or_false]at hq
  rcases hq with rfl|rfl|rfl|rfl|rfl
  ·exact Qag _ (by decide)
  ·exact Qag _ (by decide)
  ·exact Qag _ (by decide)
  ·exact Qag _ (by decide)
  ·exact Qag _ (by decide))
theorem Qe2:Prm 31757755568855353∧∀a,a%31757755568855353≠0→a^(31757755568855353-1)%31757755568855353=1:=
 Qbf 31757755568855353 10 [2,2,2,3,31,107,223,4153,430751] (by decide +kernel) (by
  intro q hq
  simp only[QCQ,QCT,or_false]at hq
  rcases hq with rfl|rfl|rfl|rfl|rfl|rfl|rfl|rfl|rfl
  ·exact Qag _ (by decide)
  ·exact Qag _ (by decide)
  ·exact Qag _ (by decide)
  ·exact Qag _ (by decide)
  ·exact Qag _ (by decide)
  ·exact Qag _ (by decide)
  ·exact Qag _ (by decide)
  ·exact Qt9.1
  ·exact Qpn.1)
theorem QtO:Prm 9463∧∀a,a%9463≠0→a^(9463-1)%9463=1:=
 Qbf 9463 3 [2,3,19,83] (by decide +kernel) (by
  intro q hq
  simp only[QCQ,QCT,or_false]at hq
  rcases hq with rfl|rfl|rfl|rfl
  ·exact Qag _ (by decide)
  ·exact Qag _ (by decide)
  ·exact Qag _ (by decide)
  ·exact Qag _ (by decide))
theorem Qto:Prm 37853∧∀a,a%37853≠0→a^(37853-1)%37853=1:=
 Qbf 37853 2 [2,2,9463] (by decide +kernel) (by
  intro q hq
  simp only[QCQ,QCT,or_false]at hq
  rcases hq with rfl|rfl|rfl
  ·exact Qag _ (by decide)
  ·exact Qag _ (by decide)
  ·exact QtO.1)
theorem Qsw:Prm 75707∧∀a,a%75707≠0→a^(75707-1)%75707=1:=
 Qbf 75707 2 [2,37853] (by decide +kernel) (by
  intro q hq
  simp only[QCQ,QCT,or_false]at hq
  rcases hq with rfl|rfl
  ·exact Qag _ (by decide)
  ·exact Qto.1)
theorem Quw:Prm 2437∧∀a,a%2437≠0→a^(2437-1)%2437=1:=
 Qbf 2437 2 [2,2,3,7,29] (by decide +kernel) (by
  intro q hq
  simp only[QCQ,QCT,or_false]at hq
  rcases hq with rfl|rfl|rfl|rfl|rfl
  ·exact Qag _ (by decide)
  ·exact Qag _ (by decide)
  ·exact Qag _ (by decide)
  ·exact Qag _ (by decide)
  ·exact Qag _ (by decide))
theorem QpJ:Prm 569003∧∀a,a%569003≠0→a^(569003-1)%569003=1:=
 Qbf 569003 2 [2,7,97,419] (by decide +kernel) (by
  intro q hq
  simp only[QCQ,QCT,or_false]at hq
  rcases hq with rfl|rfl|rfl|rfl
  ·exact Qag _ (by decide)
  ·exact Qag _ (by decide)
  ·exact Qag _ (by decide)
  ·exact Qag _ (by decide))
theorem Qi7:Prm 2773320623∧∀a,a%2773320623≠0→a^(2773320623-1)%2773320623=1:=
 Qbf 2773320623 5 [2,2437,569003] (by decide +kernel) (by
  intro q hq
  simp only[QCQ,QCT,or_false]at hq
  rcases hq with rfl|rfl|rfl
  ·exact Qag _ (by decide)
  ·exact Quw.1
  ·exact QpJ.1)
theorem Qib:Prm 72106336199∧∀a,a%72106336199≠0→a^(72106336199-1)%72106336199=1:=
 Qbf 72106336199 7 [2,13,2773320623] (by decide +kernel) (by
  intro q hq
  simp only[QCQ,QCT,or_false]at hq
  rcases hq with rfl|rfl|rfl
  ·exact Qag _ (by decide)
  ·exact Qag _ (by decide)
  ·exact Qi7.1)
theorem Qni:Prm 8574133∧∀a,a%8574133≠0→a^(8574133-1)%8574133=1:=
 Qbf 8574133 2 [2,2,3,7,103,991] (by decide +kernel) (by
  intro q hq
  simp only[QCQ,QCT,or_false]at hq
  rcases hq with rfl|rfl|rfl|rfl|rfl|rfl
  ·exact Qag _ (by decide)
  ·exact Qag _ (by decide)
  ·exact Qag _ (by decide)
  ·exact Qag _ (by decide)
  ·exact Qag _ (by decide)
  ·exact Qag _ (by decide))
theorem QfP:Prm 1919519569386763∧∀a,a%1919519569386763≠0→a^(1919519569386763-1)%1919519569386763=1:=
 Qbf 1919519569386763 2 [2,3,7,19,47,47,127,8574133] (by decide +kernel) (by
  intro q hq
  simp only[QCQ,QCT,or_false]at hq
  rcases hq with rfl|rfl|rfl|rfl|rfl|rfl|rfl|rfl
  ·exact Qag _ (by decide)
  ·exact Qag _ (by decide)
  ·exact Qag _ (by decide)
  ·exact Qag _ (by decide)
  ·exact Qag _ (by decide)
  ·exact Qag _ (by decide)
  ·exact Qag _ (by decide)
  ·exact Qni.1)
theorem Qcv:Prm 75445702479781427272750846543864801∧∀a,a%75445702479781427272750846543864801≠0→a^(75445702479781427272750846543864801-1)%75445702479781427272750846543864801=1:=
 Qbf 75445702479781427272750846543864801 7 [2,2,2,2,2,3,3,5,5,75707,72106336199,1919519569386763] (by decide +kernel) (by
  intro q hq
  simp only[QCQ,QCT,or_false]at hq
  rcases hq with rfl|rfl|rfl|rfl|rfl|rfl|rfl|rfl|rfl|rfl|rfl|rfl
  ·exact Qag _ (by decide)
  ·exact Qag _ (by decide)
  ·exact Qag _ (by decide)
  ·exact Qag _ (by decide)
  ·exact Qag _ (by decide)
  ·exact Qag _ (by decide)
  ·exact Qag _ (by decide)
  ·exact Qag _ (by decide)
  ·exact Qag _ (by decide)
  ·exact Qsw.1
  ·exact Qib.1
  ·exact QfP.1)
theorem Qa4:Prm 74058212732561358302231226437062788676166966415465897661863160754340907∧∀a,a%74058212732561358302231226437062788676166966415465897661863160754340907≠0→a^(74058212732561358302231226437062788676166966415465897661863160754340907-1)%74058212732561358302231226437062788676166966415465897661863160754340907=1:=
 Qbf 74058212732561358302231226437062788676166966415465897661863160754340907 2 [2,3,353,57467,132049,1923133,31757755568855353,75445702479781427272750846543864801] (by decide +kernel) (by
  intro q hq
  simp only[QCQ,QCT,or_false]at hq
  rcases hq with rfl|rfl|rfl|rfl|rfl|rfl|rfl|rfl
  ·exact Qag _ (by decide)
  ·exact Qag _ (by decide)
  ·exact Qag _ (by decide)
  ·exact Qs0.1
  ·exact Qpe.1
  ·exact Qno.1
  ·exact Qe2.1
  ·exact Qcv.1)
theorem QBu:Prm 57896044618658097711785492504343953926634992332820282019728792003956564819949∧∀a,a%57896044618658097711785492504343953926634992332820282019728792003956564819949≠0→a^(57896044618658097711785492504343953926634992332820282019728792003956564819949-1)%57896044618658097711785492504343953926634992332820282019728792003956564819949=1:=
 Qbf 57896044618658097711785492504343953926634992332820282019728792003956564819949 2 [2,2,3,65147,74058212732561358302231226437062788676166966415465897661863160754340907] (by decide +kernel) (by
  intro q hq
  simp only[QCQ,QCT,or_false]at hq
  rcases hq with rfl|rfl|rfl|rfl|rfl
  ·exact Qag _ (by decide)
  ·exact Qag _ (by decide)
  ·exact Qag _ (by decide)
  ·exact QrH.1
  ·exact Qa4.1)
end Go.Proofs.YtdkpcdgckgaklaaGreat
namespace Go.Proofs.YtdkpcdgckgaklaaGreat
open Go.RowKit
def num (bs:List UInt8):Nat:=val 256 (bs.map UInt8.toNat)
theorem Quo (bs:List UInt8) (j:Nat) (h:j<bs.length):num (bs.drop j)=(bs.getD j 0).toNat+256*num (bs.drop (j+1)):=by
 rw[QDp h,num,QCR,val,num,QCu,QCv h]
 rfl
def dn:Nat→Int
 | 0=> -1
 | j+1=>j
theorem Qkw:dn 0= -1:=rfl
theorem QkG (j:Nat):dn (j+1)=j:=rfl
theorem Qfl (j:Nat):(j:Int)-1=dn j:=by
 cases j with
 | zero=>rfl
 | succ j=>simp only[dn];omega
theorem Qsr (x:UInt8) (m:Nat):(shr8 x m &&& 1).toNat=x.toNat/2^m%2:=by
 rw[UInt8.toNat_and]
 have e:(shr8 x m).toNat=x.toNat/2^m:=by
  rw[shr8]
  show (BitVec.toNat _)=_
  rw[QDs,QDo]
  rfl
 rw[e]
 exact Nat.and_two_pow_sub_one_eq_mod _ 1
theorem QqZ (x:UInt8) (m:Nat):(shr8 x m &&& 1==1)=decide (x.toNat/2^m%2=1):=by
 rw[←Qsr,QDb,beq_iff_eq,decide_eq_true_eq,←QDl]
 rfl
theorem pow_two (a e P:Nat):(a^e%P)*(a^e%P)%P=a^(2*e)%P:=by rw[←QEb,←QDO,Nat.two_mul]
theorem Qmr (a e P:Nat):(a^e%P)*(a^e%P)*a%P=a^(2*e+1)%P:=by
 rw[QDv,QEb,pow_two,←QEb]
theorem Quh (N x m:Nat) (hm:m<8):N*2^(8-m)+x/2^m=2*(N*2^(8-(m+1))+x/2^(m+1))+x/2^m%2:=by
 rw[show 8-m=(8-(m+1))+1 by omega,QDv,QDv,←QDe,←QDV]
 omega
theorem of_1 (w:World):Calls Tryz.prog 71 #[.int .u64 1] w fun e w'=>e= .returned (E 1)∧Later w w':=Qwc 1 (by decide) w
set_option maxRecDepth 100000 in
set_option maxHeartbeats 2000000 in
theorem QqS (a:Nat) (ha:a<T256) (A:Option Addr) (n c:Nat) (bs:List UInt8) (w:World) (hr:RdB w A n bs) (hn:n≤140737488355328):
 Calls Tryz.prog 127 #[E a,.slice A n c] w fun e w'=>e= .returned (E (a^num bs%P25))∧Later w w':=by
 have hbl:=hr.len
 have h1:Blk ((w.alloc (.cells (EL a).toArray 175)).alloc (.cells (QCn 4 (.int .u64 0)).toArray 175)) w.heap.size 175 (EL a):=(Blk.new _ _ _).later (Qaa _ _)
 have h2:Blk ((w.alloc (.cells (EL a).toArray 175)).alloc (.cells (QCn 4 (.int .u64 0)).toArray 175)) (w.heap.size+1) 175 (QCn 4 (.int .u64 0)):=Blk.new' _ _ _ (by simp)
 have L0:Later w ((w.alloc (.cells (EL a).toArray 175)).alloc (.cells (QCn 4 (.int .u64 0)).toArray 175)):=(Qaa _ _).trans (Qaa _ _)
 go_enter Tryz.func127,Tryz.ntmps127
 go_wp2_with (first
  | (go_at_call 71;(with_reducible refine (of_1 _).mono ?_);rintro e w2 ⟨rfl,hl2⟩)
  | (refine QaM rfl rfl _ _ rfl (Blk.new w2 _ (QCn 4 (.int .u64 0))) rfl rfl rfl ?_;intro w3 hb3 ho3)
  | fail)
 have h13:=((h1.later hl2).later (Qaa _ (.cells (QCn 4 (.int .u64 0)).toArray 175))).only ho3 (by have:=(h1.later hl2).lt;omega)
 have h23:=((h2.later hl2).later (Qaa _ (.cells (QCn 4 (.int .u64 0)).toArray 175))).only ho3 (by have:=(h2.later hl2).lt;omega)
 have L3:=((L0.trans hl2).alloc (.cells (QCn 4 (.int .u64 0)).toArray 175)).only ho3 (by have:=(L0.trans hl2).size;omega)
 have hg:w.heap.size+1<w2.heap.size:=(h2.later hl2).lt
 generalize w2.heap.size=g at *
 clear h1 h2 L0 hl2 ho3
 go_loopw [6] (fun i wr=>∃k:Nat,k≤n∧i= .int .i64 (dn k)∧Blk wr w.heap.size 175 (EL a)∧Blk wr (w.heap.size+1) 175 (QCn 4 (.int .u64 0))∧Blk wr g 175 (EL (a^num (bs.drop k)%P25))∧Later w wr) (fun i _=>(intOf i+1).toNat)
 case atStart=>
  refine⟨n,by omega,by rw[←Qfl],h13,h23,?_,L3⟩
  rw[QDf (by omega)]
  exact hb3
 case round=>
  clear h13 h23 hb3 L3
  obtain⟨k,hk,rfl,h1,h2,h3,L⟩:=hrel
  cases k with
  | zero=>
    rw[List.drop_zero]at h3
    obtain⟨y,hy⟩:∃y,y=a^num bs%P25:=⟨_,rfl⟩
    rw[←hy]at h3
    have HY:=hid hy
    clear hy
    simp only[Qkw]
    go_wp2_with (first
     | (refine QbP rfl _ rfl h3 rfl ?_)
     | (refine QaM rfl rfl _ _ rfl h2 rfl rfl rfl ?_;intro w9 hb9 ho9)
     | fail)
    exact bodyPost_ret (QgY rfl hb9 rfl) rfl ⟨by rw[HY.out],L.only ho9 (by omega)⟩
  | succ j=>
    obtain⟨b,o,rfl,hb,hc⟩:=hr.at_ (by omega)
    have HC:=hid (hc j (by omega))
    have HN:=hid (Quo bs j (by omega))
    clear hc hr
    simp only[QkG]
    generalize bs.getD j 0=x at *
    generalize num (bs.drop (j+1))=N at *
    generalize hNN:num (bs.drop j)=N' at *
    have HNN:=hid hNN
    clear hNN
    go_wp2_with fail
    go_loopw [7] (fun i wr=>∃m:Nat,m≤8∧i= .int .i64 (dn m)∧Blk wr w.heap.size 175 (EL a)∧Blk wr (w.heap.size+1) 175 (QCn 4 (.int .u64 0))∧Blk wr g 175 (EL (a^(N*2^(8-m)+x.toNat/2^m)%P25))∧Later w wr) (fun i _=>(intOf i+1).toNat)
    case atStart=>
     refine⟨8,by omega,rfl,h1,h2,?_,L⟩
     have:x.toNat/2^8=0:=QDd x.toNat_lt
     rw[this,QEB,QEE,QEi,QDP]
     exact h3
    case round=>
     clear h1 h2 h3 L
     obtain⟨m,hm,rfl,h1,h2,h3,L⟩:=hrel
     cases m with
     | zero=>
       simp only[Qkw]
       go_wp2_with fail
       go_roundw
       case rel=>
        refine⟨j,by omega,by rw[Qfl],h1,h2,?_,L⟩
        have e:N*2^(8-0)+x.toNat/2^0=N':=by
         rw[HN.out,QEE,Nat.div_one]
         show N*256+_=_
         omega
        rw[e]at h3
        have hn':num (bs.drop j)=N':=HNN.out
        rw[hn']
        exact h3
       case measure=>simp[intOf]
     | succ m=>
       have d0:wr.cell? ⟨b,o+j,none⟩=some (W8 x):=(L.below.cell (p:=⟨b,o+j,none⟩) hb).trans HC.out
       have HE:=hid (Quh N x.toNat m (by omega))
       obtain⟨y,hy⟩:∃y,y=a^(N*2^(8-(m+1))+x.toNat/2^(m+1))%P25:=⟨_,rfl⟩
       rw[←hy]at h3
       have hyT:y<T256:=by rw[hy];exact QDw (QCU _ QbC) (by decide)
       have HY:=hid hy
       clear hy
       have hyy:y*y%P25<T256:=QDw (QCU _ QbC) (by decide)
       have hbe:=QqZ x m
       have hcnt:cnt (QDy (m:Int))=m:=by rw[QdW,cnt,tn64 (by unfold B64;omega)]
       simp only[QkG]
       rcases Nat.mod_two_eq_zero_or_one (x.toNat/2^m) with hz|hz
       ·have hd:(shr8 x m &&& 1==1)=false:=by rw[hbe,hz];rfl
        have HZ:=hid hz
        clear hbe hz
        go_wp2_with (first
         | (refine QbP rfl _ rfl h3 rfl ?_)
         | (go_at_call 100;(with_reducible refine (QgT y hyT _).mono ?_);rintro e w4 ⟨rfl,hl4⟩)
         | (refine QaM rfl rfl _ _ rfl (h3.later hl4) rfl rfl (Qan _) ?_;intro w5 hb5 ho5
            have d5:w5.cell? ⟨b,o+j,none⟩=some (W8 x):=(((L.trans hl4).only ho5 (by omega)).below.cell (p:=⟨b,o+j,none⟩) hb).trans HC.out)
         | fail)
        go_roundw
        case rel=>
         refine⟨m,by omega,by rw[Qfl],(h1.later hl4).only ho5 (by omega),(h2.later hl4).only ho5 (by omega),?_,(L.trans hl4).only ho5 (by omega)⟩
         rw[HE.out,HZ.out,QDP,←pow_two,←HY.out]
         exact hb5
        case measure=>simp[intOf]
       ·have hd:(shr8 x m &&& 1==1)=true:=by rw[hbe,hz];rfl
        have HZ:=hid hz
        clear hbe hz
        go_wp2_with (first
         | (refine QbP rfl _ rfl h3 rfl ?_)
         | (go_at_call 100;(with_reducible refine (QgT y hyT _).mono ?_);rintro e w4 ⟨rfl,hl4⟩)
         | (refine QaM rfl rfl _ _ rfl (h3.later hl4) rfl rfl (Qan _) ?_;intro w5 hb5 ho5
            have d5:w5.cell? ⟨b,o+j,none⟩=some (W8 x):=(((L.trans hl4).only ho5 (by omega)).below.cell (p:=⟨b,o+j,none⟩) hb).trans HC.out
            have h15:=(h1.later hl4).only ho5 (by omega))
         | (refine QbP rfl _ rfl hb5 rfl ?_)
         | (refine QbP rfl _ rfl h15 rfl ?_)
         | (go_at_call 102;(with_reducible refine (QdX (y*y%P25) a hyy ha _).mono ?_);rintro e w6 ⟨rfl,hl6⟩)
         | (refine QaM rfl rfl _ _ rfl (hb5.later hl6) rfl rfl (Qan _) ?_;intro w7 hb7 ho7)
         | fail)
        go_roundw
        case rel=>
         refine⟨m,by omega,by rw[Qfl],(h15.later hl6).only ho7 (by omega),(((h2.later hl4).only ho5 (by omega)).later hl6).only ho7 (by omega),?_,(((L.trans hl4).only ho5 (by omega)).trans hl6).only ho7 (by omega)⟩
         rw[HE.out,HZ.out,←Qmr,←HY.out]
         first|exact hb7|(rw [Nat.mod_mul_mod]at hb7;exact hb7)
        case measure=>simp[intOf]
theorem Qzs {w:World} {g:Nat} {t:TypeId} {l:List Value} {n:Nat} (h:Blk w g t l) (hn:l.length=n):Rd w (some ⟨g,0,none⟩) n l:=
 ⟨hn,fun _=>⟨g,0,rfl,h.lt,fun j u hu=>by rw[QCI];exact h.cellD j hu⟩⟩
theorem Qen {w:World} {g:Nat} {t:TypeId} {bs:List UInt8} {n:Nat} (h:Blk w g t (bs.map W8)) (hn:bs.length=n):RdB w (some ⟨g,0,none⟩) n bs:=Qzs h (by simpa using hn)
def QhU:List UInt8:=235 :: (QCn 30 255++[127])
theorem QtC:num QhU=P25-2:=by decide
def pinv (a:Nat):Nat:=a^(P25-2)%P25
theorem QnV (l:List Value) (hl:l=QCn 32 (Value.int .u8 255)):(l.set 0 (.int .u8 235)).set 31 (.int .u8 127)=QhU.map W8:=by
 subst hl
 rfl
set_option maxRecDepth 100000 in
set_option maxHeartbeats 2000000 in
theorem Qyi (a:Nat) (ha:a<T256) (w:World):
 Calls Tryz.prog 103 #[E a] w fun e w'=>e= .returned (E (pinv a))∧Later w w':=by
 have h1:Blk ((w.alloc (.cells (EL a).toArray 175)).alloc (.cells (QCn 4 (.int .u64 0)).toArray 175)) w.heap.size 175 (EL a):=(Blk.new _ _ _).later (Qaa _ _)
 have h2:Blk ((w.alloc (.cells (EL a).toArray 175)).alloc (.cells (QCn 4 (.int .u64 0)).toArray 175)) (w.heap.size+1) 175 (QCn 4 (.int .u64 0)):=Blk.new' _ _ _ (by simp)
 have L0:Later w ((w.alloc (.cells (EL a).toArray 175)).alloc (.cells (QCn 4 (.int .u64 0)).toArray 175)):=(Qaa _ _).trans (Qaa _ _)
 have HP:=hid (QqS a ha)
 have HN:=hid QtC
 go_enter Tryz.func103,Tryz.ntmps103
 go_wp2_with (first
  | (refine QaH rfl _ _ 32 rfl 5 (.int .u8 0) 1 Tryz.underlying32 QbW rfl _ _ _ _ 32 rfl rfl rfl rfl (by omega) (by omega) ?_;intro w2 hb2 hl2)
  | fail)
 have h12:=h1.later hl2
 have h22:=h2.later hl2
 have L2:=L0.trans hl2
 replace hb2:Blk w2 (w.heap.size+1+1) 5 (QCn 32 (.int .u8 0)):=Eq.mp (congrArg (fun g=>Blk w2 g 5 (QCn 32 (.int .u8 0))) (by simp)) hb2
 clear h1 h2 L0 hl2
 go_loopw [8] (fun i wr=>∃k:Nat,k≤32∧i= .int .i64 k∧Blk wr w.heap.size 175 (EL a)∧Blk wr (w.heap.size+1) 175 (QCn 4 (.int .u64 0))∧Blk wr (w.heap.size+1+1) 5 (QbI (QCn 32 (.int .u8 255)) (QCn 32 (.int .u8 0)) k)∧Later w wr) (fun i _=>32-(intOf i).toNat)
 case atStart=>exact⟨0,by omega,rfl,h12,h22,by rw[Qbo];exact hb2,L2⟩
 case round=>
  clear h12 h22 hb2 L2
  obtain⟨k,hk,rfl,h1,h2,h3,L⟩:=hrel
  by_cases hlt:k<32
  ·go_wp2_with (first
    | (refine Qac rfl rfl _ _ _ rfl _ _ _ _ h3 rfl ?hl rfl (by kernel_rfl) ?_;(case hl=>rw[QaA _ _ _ (by rfl)];exact hlt);intro v w6 hv hb6 ho6;simp[go_sem]at hv;subst hv)
    | fail)
   go_roundw
   case rel=>
    rw[QaX _ _ _ _ (by rfl) hlt (by rw[QD4,if_pos hlt])]at hb6
    exact⟨k+1,by omega,by go_num,h1.only ho6 (by omega),h2.only ho6 (by omega),hb6,L.only ho6 (by omega)⟩
   case measure=>simp[intOf];omega
  ·have HF:=hid (QnV _ (Qb5 (QCn 32 (Value.int .u8 255)) (QCn 32 (.int .u8 0)) 32 rfl rfl))
   rw[show k=32 by omega]at h3
   have hkf:decide ((k:Int)<32)=false:=by simp;omega
   go_wp2_with (first
    | (refine Qac rfl rfl _ _ _ rfl _ _ _ _ h3 rfl ?hl rfl (by kernel_rfl) ?_;(case hl=>rw[QaA _ _ _ (by rfl)];decide);intro v w6 hv hb6 ho6;simp[go_sem]at hv;subst hv)
    | (refine Qac rfl rfl _ _ _ rfl _ _ _ _ hb6 rfl ?hl rfl (by kernel_rfl) ?_;(case hl=>rw[QCZ,QaA _ _ _ (by rfl)];decide);intro v w7 hv hb7 ho7;simp[go_sem]at hv;subst hv
       rw[HF.out]at hb7
       have h17:=(h1.only ho6 (by omega)).only ho7 (by omega)
       have h27:=(h2.only ho6 (by omega)).only ho7 (by omega)
       have L7:=(L.only ho6 (by omega)).only ho7 (by omega))
    | (refine QbP rfl _ rfl h17 rfl ?_)
    | (go_at_call 127;(with_reducible refine (HP.out _ 32 _ QhU _ (Qen hb7 rfl) (by omega)).mono ?_);rintro e w8 ⟨rfl,hl8⟩
       rw[HN.out])
    | (refine QaM rfl rfl _ _ rfl (h27.later hl8) rfl rfl rfl ?_;intro w9 hb9 ho9)
    | fail)
   exact bodyPost_ret (QgY rfl hb9 rfl) rfl ⟨rfl,(L7.trans hl8).only ho9 (by omega)⟩
def RdE (w:World) (A:Option Addr) (n:Nat) (ns:List Nat):Prop:=
 ns.length=n∧(0<n→∃b o,A=some ⟨b,o,none⟩∧b<w.heap.size∧∀j i v,j<n→(EL (ns.getD j 0))[i]?=some v→w.cell? ⟨b,o+j*4+i,none⟩=some v)
theorem RdE.later {w w':World} {A:Option Addr} {n:Nat} {ns:List Nat} (h:RdE w A n ns) (hl:Later w w'):RdE w' A n ns:=by
 refine⟨h.1,fun hn=>?_⟩
 obtain⟨b,o,hA,hb,hc⟩:=h.2 hn
 exact⟨b,o,hA,QCM hb hl.size,fun j i v hj hv=>(hl.below.cell (p:=⟨b,o+j*4+i,none⟩) hb).trans (hc j i v hj hv)⟩
theorem Qt4 (l:List Nat) (k:Nat) (h:k<l.length):(l.take (k+1)).sum=(l.take k).sum+l.getD k 0:=by
 rw[QCY h,List.sum_append,QCu,QCv h]
 simp
def QeZ:List Nat→Nat
 | []=>1
 | x :: l=>x*QeZ l
theorem Qhr:∀l m:List Nat,QeZ (l++m)=QeZ l*QeZ m
 | [],m=>by simp[QeZ]
 | x :: l,m=>by rw[QCr,QeZ,Qhr l m,QeZ,QDV]
theorem QrR (l:List Nat) (k:Nat) (h:k<l.length):QeZ (l.take (k+1))=QeZ (l.take k)*l.getD k 0:=by
 rw[QCY h,Qhr,QCu,QCv h]
 simp[QeZ]
theorem QkR {l:List Nat} {j:Nat} (h:j<l.length):l.getD j 0∈l:=by
 rw[QCu,QCv h]
 exact QDn h
set_option maxRecDepth 100000 in
set_option maxHeartbeats 2000000 in
theorem QxD (A:Option Addr) (n c:Nat) (ns:List Nat) (w:World) (hr:RdE w A n ns) (hns:∀x∈ns,x<T256) (hn:n≤140737488355328):
 Calls Tryz.prog 98 #[.slice A n c] w fun e w'=>e= .returned (E (ns.sum%P25))∧Later w w':=by
 have hnl:=hr.1
 go_enter Tryz.func98,Tryz.ntmps98
 go_wp2
 go_loopw [8] (fun i wr=>∃k:Nat,k≤n∧i= .int .i64 k∧Blk wr w.heap.size 175 (QCn 4 (.int .u64 0))∧Blk wr (w.heap.size+1) 175 (EL ((ns.take k).sum%P25))∧Later w wr) (fun i _=>n-(intOf i).toNat)
 case atStart=>exact⟨0,by omega,rfl,(Blk.new w _ (QCn 4 (Value.int .u64 0))).later (Qaa _ _),by rw[QEm];exact Blk.new' _ _ (QCn 4 (Value.int .u64 0)) (by simp),(Qaa _ _).trans (Qaa _ _)⟩
 case round=>
  obtain⟨k,hk,rfl,h1,h2,L⟩:=hrel
  by_cases hlt:k<n
  ·obtain⟨b,o,rfl,hb,hc⟩:=(hr.later L).2 (by omega)
   have HT:=hid (Qt4 ns k (by omega))
   have hx:ns.getD k 0<T256:=hns _ (QkR (by omega))
   have hc':=fun i v hv=>hc k i v hlt hv
   generalize ns.getD k 0=x at *
   have HC:=hid hc'
   clear hc hc' hr
   generalize hs:(ns.take k).sum=s at *
   have HSS:=hid hs
   clear hs
   go_wp2_with (first
    | (refine Qaz rfl 175 _ rfl b (o+k*4) (EL x) ?hc ?hx _ Tryz.underlying175 rfl ?hi ?_;(case hx=>rfl);(case hi=>rw[Qan];exact Qhe);(case hc=>intro j v hv;exact HC.out j v hv))
    | (refine QaM (g:=wr.heap.size) rfl rfl _ _ rfl (Blk.new _ _ (QCn 4 (.int .u64 0))) rfl rfl rfl ?_;intro w3 hb3 ho3)
    | fail)
   have L3:Later wr w3:=(Qaa _ _).only ho3 (by omega)
   have h23:=h2.later L3
   go_wp2_with fail
   refine Qad [([0,1],2)] [] [3,4] (by as_aux_lemma=>kernel_rfl) (by as_aux_lemma=>kernel_rfl) (by intro _ _ d _ _ h;cases d<;>exact h) ?_
   simp only[Qai,pick,QCo,QCp,QCq,QCr,QCs]
   repeat (first|go_big_quiet_skip|(go_big_quiet_want;(first|refine QcJ _ rfl h23.drew rfl ?_|refine QcJ _ rfl hb3.drew rfl ?_);simp only[Act.put,QCw,QCz,QCy];go_big_quiet_on)|(go_big_quiet_step (fail)))
   refine wpQuiet_nil ?_
   go_wp2_with fail
   (with_reducible refine (Qee x hx _).mono ?_);rintro e w4 ⟨rfl,hl4⟩
   go_wp2_with fail
   try refine⟨by first|assumption|exact Qab _|exact Qaa _ _|exact Later.refl _,?_⟩
   try simp only[Qai,pick,QCo,QCp,QCq,QCr,QCs]
   repeat (go_big_quiet_step (fail))
   refine wpQuiet_nil ?_
   go_wp2_with fail
   (with_reducible refine (Qo4 (s%P25) (x%P25) (by have:=QCU s QbC;have:=QCU x QbC;unfold P25 at *;unfold T256;omega) _).mono ?_);rintro e w5 ⟨rfl,hl5⟩
   have h25:=((h23.drew).later hl4).later hl5
   go_wp2_with (first
    | (refine QaM rfl rfl _ _ rfl h25 rfl rfl (Qan _) ?_;intro w6 hb6 ho6)
    | fail)
   have L5:Later wr w5:=(((L3.trans (Qab _)).trans hl4).trans hl5)
   go_roundw
   case rel=>
    refine⟨k+1,by omega,by go_num,(h1.later L5).only ho6 (by omega),?_,(L.trans L5).only ho6 (by omega)⟩
    rw[HT.out]
    first|exact hb6|(rw [←QED];exact hb6)|(rw [QED];exact hb6)
   case measure=>simp[intOf];omega
  ·rw[show k=n by omega,QCE (by omega)]at h2
   have hkf:decide ((k:Int)<(n:Int))=false:=by simp;omega
   go_wp2_with (first
    | (refine QbP rfl _ rfl h2 rfl ?_)
    | (refine QaM rfl rfl _ _ rfl h1 rfl rfl rfl ?_;intro w9 hb9 ho9)
    | fail)
   exact bodyPost_ret (QgY rfl hb9 rfl) rfl ⟨rfl,L.only ho9 (by omega)⟩
theorem Qih {P:Program} {t e:TypeId} (s:Nat) (ht:P.underlying t=some (.slice e)) (hs:(P.info? e).map (·.size)=some s) (A:Option Addr) (n c:Nat) (kl:IntKind) (l:Nat) (h1:l≤n) (W:World):
 (Instr.sliceAt t (.slice A n c) (some (.int kl l)) none none).run P W= .ok (.slice (if c=l then A else A.map (·.add (l*s))) (n-l) (c-l)) W:=by
 have he:P.elem t=e:=by unfold Program.elem;rw[ht]
 have ht':P.underlying t=some (.slice (P.elem t)):=by rw[he];exact ht
 rw[run_sliceAt_slice _ _ _ _ _ _ ht',run_slice_l (ht:=ht') (h0:=by omega) (h1:=by omega),he]
 cases hq:P.info? e with
 | none=>simp[hq]at hs
 | some i=>
   have hsz:i.size=s:=by simpa [hq] using hs
   simp[sizeOf,typeInfo,hq,hsz,sliced]
theorem RdE.cut1 {w:World} {A:Option Addr} {n:Nat} {ns:List Nat} (h:RdE w A n ns) (h1:1<n):RdE w (A.map (·.add 4)) (n-1) ns.tail:=by
 refine⟨by rw[List.length_tail,h.1],fun hn=>?_⟩
 obtain⟨b,o,rfl,hb,hc⟩:=h.2 (by omega)
 refine⟨b,o+4,by rw[QD7,Qdl],hb,fun j i v hj hv=>?_⟩
 have e:ns.tail.getD j 0=ns.getD (j+1) 0:=by rw[QCu,QCu,List.getElem?_tail]
 rw[e]at hv
 have:=hc (j+1) i v (by omega) hv
 rw[show o+4+j*4+i=o+(j+1)*4+i by omega]
 exact this
set_option maxRecDepth 100000 in
set_option maxHeartbeats 2000000 in
theorem Qnk (A:Option Addr) (n c:Nat) (ns:List Nat) (w:World) (hr:RdE w A n ns) (hns:∀x∈ns,x<T256) (hn:n≤c) (hc0:n≤140737488355328):
 Calls Tryz.prog 101 #[.slice A n c] w fun e w'=>e= .returned (E (QeZ ns%P25))∧Later w w':=by
 have hnl:=hr.1
 have hb0:=Blk.new w 175 (QCn 4 (Value.int .u64 0))
 rcases QD6 n with hz|hz
 ·subst hz
  obtain rfl:ns=[]:=QC0 hnl
  go_enter Tryz.func101,Tryz.ntmps101
  go_wp2_with (first
   | (go_at_call 71;(with_reducible refine (of_1 _).mono ?_);rintro e w2 ⟨rfl,hl2⟩)
   | (refine QaM rfl rfl _ _ rfl (hb0.later hl2) rfl rfl rfl ?_;intro w3 hb3 ho3)
   | fail)
  exact bodyPost_ret (QgY rfl hb3 rfl) rfl ⟨rfl,((Qaa _ _).trans hl2).only ho3 (by omega)⟩
 ·have hne:((n:Int)==0)=false:=by simp;omega
  have hlt0:decide ((0:Int)<(n:Int))=true:=by simp;omega
  obtain⟨T,d,hcutT,hT⟩:∃(T:Option Addr) (d:Nat),(∀ W,(Instr.sliceAt 236 (.slice A n c) (some (.int .i64 1)) none none).run Tryz.prog W= .ok (.slice T (n-1) d) W)∧RdE w T (n-1) ns.tail:=by
   refine⟨_,_,Qih 4 Tryz.underlying236 Qhe A n c .i64 1 hz,?_⟩
   by_cases h1:1<n
   ·rw[if_neg (by omega)]
    exact hr.cut1 h1
   ·refine⟨by rw[List.length_tail,hnl],fun h=>by omega⟩
  obtain⟨b,o,rfl,hb,hc⟩:=hr.2 hz
  have hx0:ns.getD 0 0<T256:=hns _ (QkR (by omega))
  have hc0':∀i v,(EL (ns.getD 0 0))[i]?=some v→w.cell? ⟨b,o+i,none⟩=some v:=fun i v hv=>by have:=hc 0 i v hz hv;rwa [Nat.zero_mul,QDP]at this
  have HX:=hid (show ns.take 1=[ns.getD 0 0] by cases ns with|nil=>simp at hnl;omega|cons y l=>rfl)
  have hnt:∀x∈ns.tail,x<T256:=fun x hx=>hns x (List.mem_of_mem_tail hx)
  have HTL:=hid (show ∀k,k<n-1→QeZ (ns.take (k+1+1))=QeZ (ns.take (k+1))*ns.tail.getD k 0 by
   intro k hk
   rw[QrR ns (k+1) (by omega)]
   congr 1
   rw[QCu,QCu,List.getElem?_tail])
  have HC0:=hid hc0'
  clear hc hc0' hr
  generalize hX0:ns.getD 0 0=x0 at *
  go_enter Tryz.func101,Tryz.ntmps101
  clear hX0
  go_wp2_with (first
   | (refine Qaz rfl 175 _ rfl b o (EL x0) ?hc ?hx _ Tryz.underlying175 rfl ?hi ?_;(case hx=>rfl);(case hi=>rw[Qan];exact Qhe);(case hc=>intro j v hv;exact ((Qaa w _).below.cell (p:=⟨b,o+j,none⟩) hb).trans (HC0.out j v hv)))
   | (go_at_call 97;(with_reducible refine (Qee x0 hx0 _).mono ?_);rintro e w2 ⟨rfl,hl2⟩)
   | (refine QaM rfl rfl _ _ rfl (Blk.new w2 _ (QCn 4 (.int .u64 0))) rfl rfl rfl ?_;intro w3 hb3 ho3)
   | fail)
  have hb03:=((hb0.later hl2).later (Qaa _ (.cells (QCn 4 (.int .u64 0)).toArray 175))).only ho3 (Nat.ne_of_lt (hb0.later hl2).lt)
  have L3:Later w w3:=(((Qaa _ _).trans hl2).trans (Qaa _ _)).only ho3 (by have:=((Qaa w _).trans hl2).size;omega)
  have hg:w.heap.size<w2.heap.size:=(hb0.later hl2).lt
  generalize w2.heap.size=g at *
  clear hb0 hl2 ho3 HC0
  go_loopw [17] (fun i wr=>∃k:Nat,k≤n-1∧i= .int .i64 k∧Blk wr w.heap.size 175 (QCn 4 (.int .u64 0))∧Blk wr g 175 (EL (QeZ (ns.take (k+1))%P25))∧Later w wr) (fun i _=>n-1-(intOf i).toNat)
  case atStart=>exact⟨0,by omega,rfl,hb03,by rw[QCI,HX.out];simpa [QeZ] using hb3,L3⟩
  case round=>
   clear hb03 hb3 L3
   obtain⟨k,hk,rfl,h1,h2,L⟩:=hrel
   by_cases hlt:k<n-1
   ·obtain⟨b1,o1,rfl,hb1,hc1⟩:=(hT.later L).2 (by omega)
    have HT:=hid (HTL.out k hlt)
    have hx:ns.tail.getD k 0<T256:=hnt _ (QkR (by rw[List.length_tail];omega))
    have hc':=fun i v hv=>hc1 k i v hlt hv
    generalize ns.tail.getD k 0=x at *
    have HC:=hid hc'
    clear hc1 hc'
    obtain⟨y,hy⟩:∃y,y=QeZ (ns.take (k+1))%P25:=⟨_,rfl⟩
    rw[←hy]at h2
    have hyT:y<T256:=by rw[hy];exact QDw (QCU _ QbC) (by decide)
    have HY:=hid hy
    clear hy
    have hkb:decide ((k:Int)<((n-1:Nat):Int))=true:=by simp;omega
    have hkx:(k<n-1)=True:=eq_true hlt
    go_wp2_with (first
     | (refine Qaz rfl 175 _ rfl b1 (o1+k*4) (EL x) ?hc ?hx _ Tryz.underlying175 rfl ?hi ?_;(case hx=>rfl);(case hi=>rw[Qan];exact Qhe);(case hc=>intro j v hv;exact HC.out j v hv))
     | (refine QaM (g:=wr.heap.size) rfl rfl _ _ rfl (Blk.new _ _ (QCn 4 (.int .u64 0))) rfl rfl rfl ?_;intro w4 hb4 ho4
        have L4:Later wr w4:=(Qaa _ _).only ho4 (by omega)
        have h24:=h2.later L4)
     | (refine QbP rfl _ rfl h24 rfl ?_)
     | (refine QbP rfl _ rfl hb4 rfl ?_)
     | (go_at_call 102;(with_reducible refine (QdX y x hyT hx _).mono ?_);rintro e w5 ⟨rfl,hl5⟩)
     | (refine QaM rfl rfl _ _ rfl (h24.later hl5) rfl rfl (Qan _) ?_;intro w6 hb6 ho6)
     | fail)
    go_roundw
    case rel=>
     refine⟨k+1,by omega,by go_num,((h1.later L4).later hl5).only ho6 (by omega),?_,((L.trans L4).trans hl5).only ho6 (by omega)⟩
     rw[HT.out,QEb,←HY.out]
     first|exact hb6|(rw [QEb,HY.out,QDY,←HY.out]at hb6;exact hb6)
    case measure=>simp[intOf];omega
   ·rw[show k+1=n by omega,QCE (by omega)]at h2
    have hkf:decide ((k:Int)<((n-1:Nat):Int))=false:=by simp;omega
    have hkx:(k<n-1)=False:=eq_false hlt
    go_wp2_with (first
     | (refine QbP rfl _ rfl h2 rfl ?_)
     | (refine QaM rfl rfl _ _ rfl h1 rfl rfl rfl ?_;intro w9 hb9 ho9)
     | fail)
    exact bodyPost_ret (QgY rfl hb9 rfl) rfl ⟨rfl,L.only ho9 (by omega)⟩
def nb (n:Nat):List UInt8:=(dig 256 32 n).map QC2
abbrev BB (n:Nat):Value:=.agg ((nb n).map W8).toArray
theorem Qfb (n:Nat):(nb n).length=32:=by rw[nb,QCt,QaT]
theorem Qv7 (n i:Nat) (h:i<32):(nb n)[i]?=some (QC2 (n/256^i%256)):=by rw[nb,QCH,Qf1 _ _ _ _ h];rfl
theorem Qe4:∀l:List Nat,(∀ x∈l,x<256)→(l.map QC2).map UInt8.toNat=l
 | [],_=>rfl
 | x :: l,h=>by
   rw[QCR,QCR,Qe4 l (fun y hy=>h y (by simp[hy])),QDM,QCO (h x (by simp))]
theorem QzC (n:Nat) (h:n<T256):num (nb n)=n:=by
 rw[num,nb,Qe4 _ (Qeh (by decide) 32 n),Qei,QCO (show n<256^32 from h)]
theorem Qov (bs:List UInt8):num bs<256^bs.length:=by
 have:=Qwq (B:=256) (bs.map UInt8.toNat) (by intro x hx;obtain⟨y,_,rfl⟩:=QC7.1 hx;exact y.toNat_lt)
 rwa [QCt]at this
theorem QoI (bs:List UInt8) (k:Nat) (h:k<bs.length):num (bs.take (k+1))=num (bs.take k)+256^k*(bs.getD k 0).toNat:=by
 have:=QeG 256 (bs.map UInt8.toNat) k (by simpa using h)
 rw[←QDB,←QDB]at this
 have e:(bs.map UInt8.toNat).getD k 0=(bs.getD k 0).toNat:=by
  rw[QCu,QCu,QCH,QCv h]
  rfl
 rw[e]at this
 exact this
theorem QiW (k:Nat):256^k=B64^(k/8)*256^(k%8):=by
 have e:B64=256^8:=by decide
 rw[e,←QD5,←QDO,QDx]
theorem QpB (k:Nat):256^k=B32^(k/4)*256^(k%4):=by
 have e:B32=256^4:=by decide
 rw[e,←QD5,←QDO,QDx]
theorem Qf3 (x a b c:Nat) (ha:0<a) (h:b*c ∣ a) (_hb:0<b):x%a/b%c=x/b%c:=by
 obtain⟨d,rfl⟩:=h
 rw[QDV,Nat.mod_mul_right_div_self,Nat.mod_mul_right_mod]
theorem Qt8 (n k:Nat) (_hk:k<32):lim n (k/8)/2^(8*(k%8))%256=n/256^k%256:=by
 rw[QiW k,←QDe,lim,QD5]
 generalize n/B64^(k/8)=x
 refine Qf3 x B64 (256^(k%8)) 256 Qa1 ?_ (QEl (by decide))
 have:B64=256^8:=by decide
 rw[this,←QDv]
 exact Nat.pow_dvd_pow 256 (by omega)
theorem Qu8 (n k:Nat) (_hk:k<32):lem n (k/4)/2^(8*(k%4))%256=n/256^k%256:=by
 rw[QpB k,←QDe,lem,QD5]
 generalize n/B32^(k/4)=x
 refine Qf3 x B32 (256^(k%4)) 256 Qbd ?_ (QEl (by decide))
 have:B32=256^4:=by decide
 rw[this,←QDv]
 exact Nat.pow_dvd_pow 256 (by omega)
theorem Qyd (V x k:Nat) (_hk:k<32) (hV:V<256^k) (hx:x<256):(EL V).set (k/8) (n64 (lim V (k/8)+x*2^(8*(k%8))))=EL (V+256^k*x):=by
 have hp:=QiW k
 have hB:B64=256^8:=by decide
 have hlt:V+256^k*x<256^(k+1):=by
  rw[QDv]
  have:256^k*x≤256^k*255:=QEa _ (by omega)
  omega
 have hbound:256^(k+1)≤B64^(k/8+1):=by
  rw[hB,←QD5]
  exact QDh (by decide) (by omega)
 apply QEt (by rw[QCZ,Qan,Qan])
 intro j h1 h2
 rw[Qan]at h2
 rw[List.getElem_set]
 split
 ·rename_i hj
  subst hj
  rw[QsZ]
  congr 1
  rw[lim,lim,hp,QDV,QDQ _ _ (QEl Qa1),QD5]
  have hV1:V/B64^(k/8)<256^(k%8):=QDm (by rw[←hp];exact hV)
  have hle:256^(k%8)*256≤B64:=by
   rw[hB,←QDv]
   exact QDh (by decide) (by omega)
  have hxx:256^(k%8)*x≤256^(k%8)*255:=QEa _ (by omega)
  have e:(2:Nat)^8=256:=by decide
  rw[e,QDK x]
  rw[QCO (show V/B64^(k/8)<B64 by omega),QCO (show V/B64^(k/8)+256^(k%8)*x<B64 by omega)]
 ·rename_i hj
  rw[QsZ,QsZ]
  congr 1
  rcases QDq j (k/8) with hl|hl
  ·rw[lim,lim,hp]
   obtain⟨d,hd⟩:∃d,k/8=j+1+d:=⟨k/8-j-1,by omega⟩
   rw[hd,QDO,QDv,QDV,QDV,QDV,QDQ _ _ (QEl Qa1),Nat.add_mul_mod_self_left]
  ·have hjj:k/8+1≤j:=by omega
   have hpp:B64^(k/8+1)≤B64^j:=QDh (by decide) hjj
   have hVk:V<B64^j:=QCM hV (QC4 (QDh (by decide) (by omega)) (QC4 hbound hpp))
   rw[lim,lim,QDd hVk,QDd (QCM hlt (QC4 hbound hpp))]
theorem QzK (a s y:Nat) (h:a<2^s):a ||| (y*2^s)=a+y*2^s:=by
 have:=Nat.two_pow_add_eq_or_of_lt h y
 rw[Nat.or_comm,QDK y,←this,QEz]
theorem Qyf (V k:Nat) (hV:V<256^k):lim V (k/8)<2^(8*(k%8)):=by
 have hV1:V/B64^(k/8)<256^(k%8):=QDm (by rw[←QiW];exact hV)
 rw[lim,QD5]
 exact QDN (Nat.mod_le _ _) hV1
@[go_sem] theorem QBc (T:TypeId) (x:Nat) (hx:x<B64) (k:UInt64):binOp .shr T (n64 x) (W64 k)=pure (n64 (x/2^(cnt k))):=by
  have:=QxE T x hx .u64 (k.toNat:Int) (by omega)
  rw[QEx]at this
  exact this
@[go_sem] theorem QCd (T:TypeId) (x:Nat) (hx:x<B64) (y:UInt64):binOp .or T (n64 x) (W64 y)=pure (n64 (x ||| y.toNat)):=by
  rw[n64,Qrn,QhF]
  rw[UInt64.toNat_or,tn64 hx,QCO (show (x ||| y.toNat)<B64 from Nat.or_lt_two_pow (n:=64) hx y.toNat_lt)]
theorem QoJ (i:Nat) (h:i<32):cnt (8*QDy ((i:Int)%8))=8*(i%8):=by
 have:∀k:Fin 32,cnt (8*QDy ((k.val:Int)%8))=8*(k.val%8):=by decide
 exact this ⟨i,h⟩
theorem Qbn:(Tryz.prog.info? 79).map (·.size)=some 32:=by kernel_rfl
theorem QyJ {n m:Nat} (h:n%256=m%256):n8 n=n8 m:=by
 rw[n8]
 apply n8_w
 rw[QDM,←h]
set_option maxRecDepth 100000 in
set_option maxHeartbeats 2000000 in
theorem QsP (n:Nat) (hn:n<T256) (w:World):
 Calls Tryz.prog 74 #[E n] w fun e w'=>e= .returned (BB (n%P25))∧Later w w':=by
 have h1:Blk ((w.alloc (.cells (EL n).toArray 175)).alloc (.cells (QCn 32 (Value.int .u8 0)).toArray 79)) w.heap.size 175 (EL n):=(Blk.new _ _ _).later (Qaa _ _)
 have h2:Blk ((w.alloc (.cells (EL n).toArray 175)).alloc (.cells (QCn 32 (Value.int .u8 0)).toArray 79)) (w.heap.size+1) 79 (QCn 32 (.int .u8 0)):=Blk.new' _ _ _ (by simp)
 have L0:Later w ((w.alloc (.cells (EL n).toArray 175)).alloc (.cells (QCn 32 (Value.int .u8 0)).toArray 79)):=(Qaa _ _).trans (Qaa _ _)
 have hlS:((nb (n%P25)).map W8).length=32:=by rw[QCt,Qfb]
 have HGet:=hid (fun k (h:k<32)=>show ((nb (n%P25)).map W8)[k]?=some (n8 (n%P25/256^k%256)) by rw[QCH,Qv7 _ _ h];rfl)
 go_enter Tryz.func74,Tryz.ntmps74
 go_wp2_with (first
  | (refine QbP rfl _ rfl h1 rfl ?_)
  | (go_at_call 97;(with_reducible refine (Qee n hn _).mono ?_);rintro e w2 ⟨rfl,hl2⟩)
  | (refine QaM rfl rfl _ _ rfl (h1.later hl2) rfl rfl (Qan _) ?_;intro w3 hb3 ho3
     have h23:=(h2.later hl2).only ho3 (by omega)
     have L3:=(L0.trans hl2).only ho3 (by omega))
  | fail)
 have hg:w.heap.size+1<w3.heap.size:=h23.lt
 clear h1 h2 L0 hl2 ho3
 generalize hM:n%P25=M at *
 have HM:=hid hM
 clear hM
 go_loopw [7] (fun i wr=>∃k:Nat,k≤32∧i= .int .i64 k∧Blk wr w.heap.size 175 (EL M)∧Blk wr (w.heap.size+1) 79 (QCn 32 (.int .u8 0))∧Blk wr w3.heap.size 79 (QbI ((nb M).map W8) (QCn 32 (.int .u8 0)) k)∧Later w wr) (fun i _=>32-(intOf i).toNat)
 case atStart=>exact⟨0,by omega,rfl,hb3.later (Qaa _ _),h23.later (Qaa _ _),by rw[Qbo];exact Blk.new _ _ (QCn 32 (Value.int .u8 0)),L3.trans (Qaa _ _)⟩
 case round=>
  clear hb3 h23
  have hL3:=L3.size
  clear L3
  obtain⟨k,hk,rfl,h1,h2,h3,L⟩:=hrel
  by_cases hlt:k<32
  ·have d0:=h1.cellD (k/8) (QcY M (k/8) (by omega))
   have hct:=QoJ k hlt
   have hbl:=hid (Qt8 M k hlt)
   go_wp2_with (first
    | (refine Qac rfl rfl _ _ _ rfl _ _ _ _ h3 rfl ?hl rfl (by kernel_rfl) ?_;(case hl=>rw[QaA _ _ _ (by rw[hlS];rfl)];exact hlt);intro v w6 hv hb6 ho6;simp[go_sem]at hv;subst hv)
    | fail)
   go_roundw
   case rel=>
    rw[QyJ (show lim M (k/8)/2^(8*(k%8))%256=M/256^k%256%256 by rw[hbl.out,QDY]),QaX _ _ _ _ (by rw[hlS];rfl) hlt (HGet.out k hlt)]at hb6
    exact⟨k+1,by omega,by go_num,h1.only ho6 (by omega),h2.only ho6 (by omega),hb6,L.only ho6 (by omega)⟩
   case measure=>simp[intOf];omega
  ·rw[show k=32 by omega,Qb5 _ _ _ hlS rfl]at h3
   have hkf:decide ((k:Int)<32)=false:=by simp;omega
   go_wp2_with (first
    | (refine Qbg rfl 79 _ rfl _ _ _ h3 rfl _ Tryz.underlying79 rfl 32 Qbn hlS ?_)
    | (refine Qaf rfl rfl 79 _ _ rfl _ _ _ _ h2 rfl rfl 32 Qbn hlS rfl (QaE _) ?_;intro w9 hb9 ho9)
    | fail)
   exact bodyPost_ret (QaF rfl _ _ _ _ ((nb M).map W8) _ hb9 rfl Tryz.underlying79 rfl (by rw[hlS];exact Qbn)) rfl ⟨by rw[HM.out],L.only ho9 (by omega)⟩
theorem Qvj (x:UInt8) (r:Nat) (hr:r<8):(Qi6 x.toUInt64 (8*r)).toNat=x.toNat*2^(8*r):=by
 rw[Qi6]
 show (BitVec.toNat _)=_
 rw[QDT,QD1]
 show x.toUInt64.toNat*_%_=_
 rw[UInt8.toNat_toUInt64,QCO]
 have hx:=x.toNat_lt
 have h1:2^(8*r)≤2^56:=QDh (by decide) (by omega)
 have h2:x.toNat*2^(8*r)≤255*2^56:=Nat.mul_le_mul (by omega) h1
 omega
def QdV (bs:List UInt8):Nat:=if bs.length=32 then num bs%T255%P25 else 0
def Qcq (bs:List UInt8):Nat:=if bs.length=32 then 0 else 2
set_option maxRecDepth 100000 in
set_option maxHeartbeats 2000000 in
theorem Qt6 (A:Option Addr) (n c:Nat) (bs:List UInt8) (w:World) (hr:RdB w A n bs) (hn:n≤140737488355328):
 Calls Tryz.prog 70 #[.slice A n c] w fun e w'=>e= .returned (.tuple #[E (QdV bs),.int .i64 (Qcq bs:Nat)])∧Later w w':=by
 have hbl:=hr.len
 have hb0:=Blk.new w 175 (QCn 4 (Value.int .u64 0))
 by_cases h32:n=32
 ·subst h32
  have hRN:=hid (show QdV bs=num bs%T255%P25 by rw[QdV,if_pos hbl])
  have hRE:=hid (show Qcq bs=0 by rw[Qcq,if_pos hbl])
  obtain⟨b,o,rfl,hb,hc⟩:=hr.at_ (by omega)
  have HC:=hid hc
  have HT:=hid (fun k (h:k<32)=>QoI bs k (by omega))
  have HL:=hid (fun k (h:k≤32)=>show num (bs.take k)<256^k by have:=Qov (bs.take k);rwa [QCP,QDG (by omega)]at this)
  have HF:=hid (show bs.take 32=bs from QCE (by omega))
  clear hc hr
  go_enter Tryz.func70,Tryz.ntmps70
  go_wp2
  go_loopw [13] (fun i wr=>∃k:Nat,k≤32∧i= .int .i64 k∧Blk wr w.heap.size 175 (QCn 4 (.int .u64 0))∧Blk wr (w.heap.size+1) 175 (EL (num (bs.take k)))∧Later w wr) (fun i _=>32-(intOf i).toNat)
  case atStart=>exact⟨0,by omega,rfl,hb0.later (Qaa _ _),by rw[QEm];exact Blk.new' _ _ (QCn 4 (Value.int .u64 0)) (by simp),(Qaa _ _).trans (Qaa _ _)⟩
  case round=>
   clear hb0
   obtain⟨k,hk,rfl,h1,h2,L⟩:=hrel
   by_cases hlt:k<32
   ·have d0:=h2.cellD (k/8) (QcY _ (k/8) (by omega))
    have c0:wr.cell? ⟨b,o+k,none⟩=some (W8 (bs.getD k 0)):=(L.below.cell (p:=⟨b,o+k,none⟩) hb).trans (HC.out k hlt)
    have hct:=QoJ k hlt
    have hsb:=Qvj (bs.getD k 0) (k%8) (by omega)
    have HM:=hid (Qyd (num (bs.take k)) (bs.getD k 0).toNat k hlt (HL.out k (by omega)) (UInt8.toNat_lt _))
    have HO:=hid (QzK (lim (num (bs.take k)) (k/8)) (8*(k%8)) (bs.getD k 0).toNat (Qyf _ k (HL.out k (by omega))))
    have HTk:=hid (HT.out k hlt)
    generalize bs.getD k 0=x at *
    generalize num (bs.take k)=V at *
    go_wp2_with (first
     | (refine Qac rfl rfl _ _ _ rfl _ _ _ _ h2 rfl ?hl rfl (by kernel_rfl) ?_;(case hl=>rw[Qan];omega);intro v w6 hv hb6 ho6;simp[go_sem]at hv;subst hv)
     | fail)
    go_roundw
    case rel=>
     refine⟨k+1,by omega,by go_num,h1.only ho6 (by omega),?_,L.only ho6 (by omega)⟩
     rw[HTk.out,←HM.out,←HO.out]
     first|exact hb6|(rw [hsb]at hb6;exact hb6)
    case measure=>simp[intOf];omega
   ·rw[show k=32 by omega,HF.out]at h2
    have hkf:decide ((k:Int)<32)=false:=by simp;omega
    have d3:=h2.cellD 3 (QcY _ 3 (by omega))
    have hlT:num bs%T255<T256:=QDw (QCU _ (by decide)) (by decide)
    go_wp2_with (first
     | (refine Qac rfl rfl _ _ _ rfl _ _ _ _ h2 rfl ?hl rfl (by kernel_rfl) ?_;(case hl=>rw[Qan];omega);intro v w6 hv hb6 ho6;simp[go_sem]at hv;subst hv
        rw[Qpa]at hb6
        have h16:=h1.only ho6 (by omega)
        have L6:=L.only ho6 (by omega))
     | (refine QbP rfl _ rfl hb6 rfl ?_)
     | (go_at_call 97;(with_reducible refine (Qee (num bs%T255) hlT _).mono ?_);rintro e w7 ⟨rfl,hl7⟩)
     | (refine QaM rfl rfl _ _ rfl (h16.later hl7) rfl rfl rfl ?_;intro w9 hb9 ho9)
     | fail)
    exact bodyPost_ret (Qae rfl _ _ _ _ _ _ hb9 rfl Tryz.underlying175 rfl (by rw[Qan];exact Qhe)) rfl ⟨by rw[hRN.out,hRE.out];rfl,(L6.trans hl7).only ho9 (by omega)⟩
 ·have hRN:=hid (show QdV bs=0 by rw[QdV,if_neg (by omega)])
  have hRE:=hid (show Qcq bs=2 by rw[Qcq,if_neg (by omega)])
  have hne:((n:Int) != 32)=true:=by simp;omega
  go_enter Tryz.func70,Tryz.ntmps70
  go_wp2_with (first
   | (refine Qaq rfl 175 _ rfl (EL 0) ?hb ?_;(case hb=>kernel_rfl))
   | (refine QaM (n:=0) rfl rfl _ _ rfl hb0 rfl rfl rfl ?_;intro w9 hb9 ho9)
   | fail)
  exact bodyPost_ret (Qae rfl _ _ _ _ _ _ hb9 rfl Tryz.underlying175 rfl (by rw[Qan];exact Qhe)) rfl ⟨by rw[hRN.out,hRE.out];rfl,(Qaa _ _).only ho9 (by omega)⟩
theorem QtT (bs:List UInt8) (j:Nat) (h:j<bs.length):num bs/256^j%256=(bs.getD j 0).toNat:=by
 have e:=Qj8 (B:=256) (bs.map UInt8.toNat) (by intro x hx;obtain⟨y,_,rfl⟩:=QC7.1 hx;exact y.toNat_lt)
 rw[QCt]at e
 have g:=QdF 256 bs.length (num bs) j h
 rw[num,e]at g
 rw[num,←g,QCu,QCu,QCH,QCv h]
 rfl
theorem Qyv (bs:List UInt8) (i:Nat) (h:i/8<bs.length):num bs/2^i%2=(bs.getD (i/8) 0).toNat/2^(i%8)%2:=by
 rw[←QtT bs _ h]
 have e:(2:Nat)^i=256^(i/8)*2^(i%8):=by
  have:(256:Nat)=2^8:=by decide
  rw[this,←QD5,←QDO,QDx]
 rw[e,←QDe]
 generalize num bs/256^(i/8)=x
 refine (Qf3 x 256 (2^(i%8)) 2 (by decide) ?_ (QEl (by decide))).symm
 have:(256:Nat)=2^8:=by decide
 rw[this,←QDv]
 exact Nat.pow_dvd_pow 2 (by omega)
theorem QxQ (x:UInt8) (m:Nat):(shr8 x m%2==1)=decide (x.toNat/2^m%2=1):=by
 have e:(shr8 x m).toNat=x.toNat/2^m:=by
  rw[shr8]
  show (BitVec.toNat _)=_
  rw[QDs,QDo]
  rfl
 rw[QDb,beq_iff_eq,decide_eq_true_eq,←QDl,UInt8.toNat_mod,e]
 rfl
theorem QwW (a V i P:Nat):a^(V%2^(i+1))%P=(a^(V%2^i)%P)*((a^2^i%P)^(V/2^i%2))%P:=by
 rw[Qb7,QDO,QEb,QD5,←Qeg (a^2^i),QEb (a^(V%2^i)%P),QDY,QDY,Nat.mul_mod_mod]
set_option maxRecDepth 100000 in
set_option maxHeartbeats 2000000 in
theorem Qtv (a:Nat) (ha:a<T256) (A:Option Addr) (n c:Nat) (bs:List UInt8) (w:World) (hr:RdB w A n bs) (hn:n≤140737488355328):
 Calls Tryz.prog 115 #[NN a,.slice A n c] w fun e w'=>e= .returned (NN (a^num bs%P25))∧Later w w':=by
 have hbl:=hr.len
 have h1:Blk ((w.alloc (.cells (NL a).toArray 195)).alloc (.cells (QCn 8 (.int .u32 0)).toArray 195)) w.heap.size 195 (NL a):=(Blk.new _ _ _).later (Qaa _ _)
 have h2:Blk ((w.alloc (.cells (NL a).toArray 195)).alloc (.cells (QCn 8 (.int .u32 0)).toArray 195)) (w.heap.size+1) 195 (QCn 8 (.int .u32 0)):=Blk.new' _ _ _ (by simp)
 have L0:Later w ((w.alloc (.cells (NL a).toArray 195)).alloc (.cells (QCn 8 (.int .u32 0)).toArray 195)):=(Qaa _ _).trans (Qaa _ _)
 go_enter Tryz.func115,Tryz.ntmps115
 go_wp2_with (first
  | (refine Qaq rfl 195 _ rfl (NL 1) ?hb ?_;(case hb=>kernel_rfl))
  | (refine Qaw (g:=w.heap.size+1+1) (n:=1) rfl rfl _ _ rfl (Blk.new' _ _ (QCn 8 (.int .u32 0)) (by simp)) rfl rfl rfl ?_;intro w3 hb3 ho3
     have h13:=(h1.later (Qaa _ _)).only ho3 (by omega)
     have h23:=(h2.later (Qaa _ _)).only ho3 (by omega)
     have L3:=(L0.alloc _).only ho3 (by omega))
  | (refine Qa2 rfl _ rfl h13 rfl ?_)
  | (refine Qaw rfl rfl _ _ rfl (Blk.new w3 _ (QCn 8 (.int .u32 0))) rfl rfl rfl ?_;intro w4 hb4 ho4)
  | fail)
 have hz3:=hb3.lt
 have h14:=(h13.later (Qaa _ _)).only ho4 (by omega)
 have h24:=(h23.later (Qaa _ _)).only ho4 (by omega)
 have h34:=(hb3.later (Qaa _ _)).only ho4 (by omega)
 have L4:=(L3.alloc _).only ho4 (by have:=L3.size;omega)
 generalize w3.heap.size=g at *
 clear h13 h23 hb3 L3 ho3 ho4 h1 h2 L0
 have hw8:IntKind.i64.wrap (8*(n:Int))=8*(n:Int):=by rw[IntKind.wrap_i64];omega
 have HW8:=hid hw8
 clear hw8
 go_loopw [7] (fun i wr=>∃k m s:Nat,k≤8*n∧i= .int .i64 k∧m<T256∧s<T256∧Hid (m%P25=a^(num bs%2^k)%P25)∧Hid (s%P25=a^2^k%P25)∧Blk wr (w.heap.size+1) 195 (QCn 8 (.int .u32 0))∧Blk wr (w.heap.size+1+1) 195 (NL m)∧Blk wr g 195 (NL s)∧Later w wr) (fun i _=>8*n-(intOf i).toNat)
 case atStart=>exact⟨0,1,a,by omega,rfl,by decide,ha,hid (by rw[QEE,Nat.mod_one,QEE]),hid (by rw[QEE,Nat.pow_one]),h24,h34,hb4,L4⟩
 case round=>
  clear h14 h24 h34 hb4 L4
  obtain⟨k,m,s,hk,rfl,hm,hs,HM,HSq,h2,h3,h4,L⟩:=hrel
  by_cases hlt:k<8*n
  ·obtain⟨b,o,rfl,hb,hc⟩:=hr.at_ (by omega)
   have d0:wr.cell? ⟨b,o+k/8,none⟩=some (W8 (bs.getD (k/8) 0)):=(L.below.cell (p:=⟨b,o+k/8,none⟩) hb).trans (hc _ (by omega))
   have HBit:=hid (Qyv bs k (by omega))
   have hbr:=QxQ (bs.getD (k/8) 0) (k%8)
   have HLow:=hid (QwW a (num bs) k P25)
   have hkl:decide ((k:Int)<8*(n:Int))=true:=by simp;omega
   have hkx:(k<8*n)=True:=eq_true hlt
   have HSS:=hid (show s*s%P25%P25=a^2^(k+1)%P25 by
    rw[QDY,QEb,HSq.out,←QEb,←QDO,QDv]
    congr 2
    omega)
   generalize bs.getD (k/8) 0=x at *
   clear hc hr
   rcases Nat.mod_two_eq_zero_or_one (x.toNat/2^(k%8)) with hz|hz
   ·have hd:(shr8 x (k%8)%2==1)=false:=by rw[hbr,hz];rfl
    have HL':=hid (show m%P25=a^(num bs%2^(k+1))%P25 by rw[HLow.out,HBit.out,hz,QEE,QEi,QDY,HM.out])
    clear hbr hz
    go_wp2_with (first
     | (refine Qa2 rfl _ rfl h4 rfl ?_)
     | (go_at_call 87;(with_reducible refine (Qky s s hs hs _).mono ?_);rintro e w5 ⟨rfl,hl5⟩)
     | (refine Qaw rfl rfl _ _ rfl (h4.later hl5) rfl rfl (QaB _) ?_;intro w6 hb6 ho6)
     | fail)
    go_roundw
    case rel=>exact⟨k+1,m,s*s%P25,by omega,by go_num,hm,QDw (QCU _ QbC) (by decide),hid HL'.out,hid HSS.out,(h2.later hl5).only ho6 (by omega),(h3.later hl5).only ho6 (by omega),hb6,(L.trans hl5).only ho6 (by omega)⟩
    case measure=>simp[intOf];omega
   ·have hd:(shr8 x (k%8)%2==1)=true:=by rw[hbr,hz];rfl
    have HL':=hid (show m*s%P25%P25=a^(num bs%2^(k+1))%P25 by
     rw[HLow.out,HBit.out,hz,Nat.pow_one,←HM.out,←HSq.out,←QEb,QDY])
    clear hbr hz
    go_wp2_with (first
     | (refine Qa2 rfl _ rfl h3 rfl ?_)
     | (refine Qa2 rfl _ rfl h4 rfl ?_)
     | (go_at_call 87;(with_reducible refine (Qky m s hm hs _).mono ?_);rintro e w5 ⟨rfl,hl5⟩)
     | (refine Qaw rfl rfl _ _ rfl (h3.later hl5) rfl rfl (QaB _) ?_;intro w6 hb6 ho6
        have h46:=(h4.later hl5).only ho6 (by omega))
     | (refine Qa2 rfl _ rfl h46 rfl ?_)
     | (go_at_call 87;(with_reducible refine (Qky s s hs hs _).mono ?_);rintro e w7 ⟨rfl,hl7⟩)
     | (refine Qaw rfl rfl _ _ rfl (h46.later hl7) rfl rfl (QaB _) ?_;intro w8 hb8 ho8)
     | fail)
    go_roundw
    case rel=>exact⟨k+1,m*s%P25,s*s%P25,by omega,by go_num,QDw (QCU _ QbC) (by decide),QDw (QCU _ QbC) (by decide),hid HL'.out,hid HSS.out,(((h2.later hl5).only ho6 (by omega)).later hl7).only ho8 (by omega),(hb6.later hl7).only ho8 (by omega),hb8,(((L.trans hl5).only ho6 (by omega)).trans hl7).only ho8 (by omega)⟩
    case measure=>simp[intOf];omega
  ·have hkf:decide ((k:Int)<8*(n:Int))=false:=by simp;omega
   have hkx:(k<8*n)=False:=eq_false hlt
   have HR:=hid (show m%P25=a^num bs%P25 by
    have hnl:=Qov bs
    have e:(256:Nat)^bs.length=2^(8*bs.length):=by rw[QD5]
    rw[e,←show k=8*bs.length by omega]at hnl
    rw[HM.out,QCO hnl])
   go_wp2_with (first
    | (refine Qa2 rfl _ rfl h3 rfl ?_)
    | (go_at_call 112;(with_reducible refine (Qeb m hm _).mono ?_);rintro e w5 ⟨rfl,hl5⟩)
    | (refine Qaw rfl rfl _ _ rfl (h2.later hl5) rfl rfl rfl ?_;intro w9 hb9 ho9)
    | fail)
   exact bodyPost_ret (Qkc rfl hb9 rfl) rfl ⟨by rw[HR.out],(L.trans hl5).only ho9 (by omega)⟩
set_option maxRecDepth 100000 in
set_option maxHeartbeats 2000000 in
theorem Qyh (a:Nat) (ha:a<T256) (w:World):
 Calls Tryz.prog 88 #[NN a] w fun e w'=>e= .returned (NN (pinv a))∧Later w w':=by
 have h1:Blk ((w.alloc (.cells (NL a).toArray 195)).alloc (.cells (QCn 8 (.int .u32 0)).toArray 195)) w.heap.size 195 (NL a):=(Blk.new _ _ _).later (Qaa _ _)
 have h2:Blk ((w.alloc (.cells (NL a).toArray 195)).alloc (.cells (QCn 8 (.int .u32 0)).toArray 195)) (w.heap.size+1) 195 (QCn 8 (.int .u32 0)):=Blk.new' _ _ _ (by simp)
 have L0:Later w ((w.alloc (.cells (NL a).toArray 195)).alloc (.cells (QCn 8 (.int .u32 0)).toArray 195)):=(Qaa _ _).trans (Qaa _ _)
 have HP:=hid (Qtv a ha)
 have HN:=hid QtC
 go_enter Tryz.func88,Tryz.ntmps88
 go_wp2_with (first
  | (refine QaH rfl _ _ 32 rfl 5 (.int .u8 0) 1 Tryz.underlying32 QbW rfl _ _ _ _ 32 rfl rfl rfl rfl (by omega) (by omega) ?_;intro w2 hb2 hl2)
  | fail)
 have h12:=h1.later hl2
 have h22:=h2.later hl2
 have L2:=L0.trans hl2
 replace hb2:Blk w2 (w.heap.size+1+1) 5 (QCn 32 (.int .u8 0)):=Eq.mp (congrArg (fun g=>Blk w2 g 5 (QCn 32 (.int .u8 0))) (by simp)) hb2
 clear h1 h2 L0 hl2
 go_loopw [4] (fun i wr=>∃k:Nat,k≤32∧i= .int .i64 k∧Blk wr w.heap.size 195 (NL a)∧Blk wr (w.heap.size+1) 195 (QCn 8 (.int .u32 0))∧Blk wr (w.heap.size+1+1) 5 (QbI (QCn 32 (.int .u8 255)) (QCn 32 (.int .u8 0)) k)∧Later w wr) (fun i _=>32-(intOf i).toNat)
 case atStart=>exact⟨0,by omega,rfl,h12,h22,by rw[Qbo];exact hb2,L2⟩
 case round=>
  clear h12 h22 hb2 L2
  obtain⟨k,hk,rfl,h1,h2,h3,L⟩:=hrel
  by_cases hlt:k<32
  ·go_wp2_with (first
    | (refine Qac rfl rfl _ _ _ rfl _ _ _ _ h3 rfl ?hl rfl (by kernel_rfl) ?_;(case hl=>rw[QaA _ _ _ (by rfl)];exact hlt);intro v w6 hv hb6 ho6;simp[go_sem]at hv;subst hv)
    | fail)
   go_roundw
   case rel=>
    rw[QaX _ _ _ _ (by rfl) hlt (by rw[QD4,if_pos hlt])]at hb6
    exact⟨k+1,by omega,by go_num,h1.only ho6 (by omega),h2.only ho6 (by omega),hb6,L.only ho6 (by omega)⟩
   case measure=>simp[intOf];omega
  ·have HF:=hid (QnV _ (Qb5 (QCn 32 (Value.int .u8 255)) (QCn 32 (.int .u8 0)) 32 rfl rfl))
   rw[show k=32 by omega]at h3
   have hkf:decide ((k:Int)<32)=false:=by simp;omega
   go_wp2_with (first
    | (refine Qac rfl rfl _ _ _ rfl _ _ _ _ h3 rfl ?hl rfl (by kernel_rfl) ?_;(case hl=>rw[QaA _ _ _ (by rfl)];decide);intro v w6 hv hb6 ho6;simp[go_sem]at hv;subst hv)
    | (refine Qac rfl rfl _ _ _ rfl _ _ _ _ hb6 rfl ?hl rfl (by kernel_rfl) ?_;(case hl=>rw[QCZ,QaA _ _ _ (by rfl)];decide);intro v w7 hv hb7 ho7;simp[go_sem]at hv;subst hv
       rw[HF.out]at hb7
       have h17:=(h1.only ho6 (by omega)).only ho7 (by omega)
       have h27:=(h2.only ho6 (by omega)).only ho7 (by omega)
       have L7:=(L.only ho6 (by omega)).only ho7 (by omega))
    | (refine Qa2 rfl _ rfl h17 rfl ?_)
    | (go_at_call 115;(with_reducible refine (HP.out _ 32 _ QhU _ (Qen hb7 rfl) (by omega)).mono ?_);rintro e w8 ⟨rfl,hl8⟩
       rw[HN.out])
    | (refine Qaw rfl rfl _ _ rfl (h27.later hl8) rfl rfl rfl ?_;intro w9 hb9 ho9)
    | fail)
   exact bodyPost_ret (Qkc rfl hb9 rfl) rfl ⟨rfl,(L7.trans hl8).only ho9 (by omega)⟩
@[go_sem] theorem QBJ (T:TypeId) (x:Nat) (hx:x<B32) (yk:IntKind) (k:Int) (h0:0≤k):binOp .shr T (n32 x) (.int yk k)=pure (n32 (x/2^k.toNat)):=by
  rw[n32,QkT _ _ _ _ h0,Qs8]
  rw[Qcg]
  show (BitVec.toNat _)=_
  rw[QDs]
  show (QCW x).toNat >>> _=_
  rw[tn32 hx,QDo]
  have:x/2^k.toNat<B32:=QDN (Nat.div_le_self _ _) hx
  rw[QCO this]
@[go_sem] theorem Qou {P:Program} (w:World) (S D:TypeId) (x:Nat) (hs:(P.underlying S).isSome=true) (hd:P.underlying D=some (.int .u8)):(convert S D (n32 x)).run P w= .ok (n8 x) w:=by
  rw[n32,Qgu _ _ _ _ hs hd,n8_w]
  rw[UInt32.toNat_toUInt8,QDX]
  omega
theorem QxN (k:Nat):(8*((k:Int)%4)).toNat=8*(k%4):=by omega
set_option maxRecDepth 100000 in
set_option maxHeartbeats 2000000 in
theorem Qq8 (n:Nat) (hn:n<T256) (w:World):
 Calls Tryz.prog 89 #[NN n] w fun e w'=>e= .returned (BB (n%P25))∧Later w w':=by
 have h1:Blk ((w.alloc (.cells (NL n).toArray 195)).alloc (.cells (QCn 32 (Value.int .u8 0)).toArray 79)) w.heap.size 195 (NL n):=(Blk.new _ _ _).later (Qaa _ _)
 have h2:Blk ((w.alloc (.cells (NL n).toArray 195)).alloc (.cells (QCn 32 (Value.int .u8 0)).toArray 79)) (w.heap.size+1) 79 (QCn 32 (.int .u8 0)):=Blk.new' _ _ _ (by simp)
 have L0:Later w ((w.alloc (.cells (NL n).toArray 195)).alloc (.cells (QCn 32 (Value.int .u8 0)).toArray 79)):=(Qaa _ _).trans (Qaa _ _)
 have hlS:((nb (n%P25)).map W8).length=32:=by rw[QCt,Qfb]
 have HGet:=hid (fun k (h:k<32)=>show ((nb (n%P25)).map W8)[k]?=some (n8 (n%P25/256^k%256)) by rw[QCH,Qv7 _ _ h];rfl)
 go_enter Tryz.func89,Tryz.ntmps89
 go_wp2_with (first
  | (refine Qa2 rfl _ rfl h1 rfl ?_)
  | (go_at_call 112;(with_reducible refine (Qeb n hn _).mono ?_);rintro e w2 ⟨rfl,hl2⟩)
  | (refine Qaw rfl rfl _ _ rfl (h1.later hl2) rfl rfl (QaB _) ?_;intro w3 hb3 ho3
     have h23:=(h2.later hl2).only ho3 (by omega)
     have L3:=(L0.trans hl2).only ho3 (by omega))
  | fail)
 have hg:w.heap.size+1<w3.heap.size:=h23.lt
 clear h1 h2 L0 hl2 ho3
 generalize hM:n%P25=M at *
 have HM:=hid hM
 clear hM
 go_loopw [4] (fun i wr=>∃k:Nat,k≤32∧i= .int .i64 k∧Blk wr w.heap.size 195 (NL M)∧Blk wr (w.heap.size+1) 79 (QCn 32 (.int .u8 0))∧Blk wr w3.heap.size 79 (QbI ((nb M).map W8) (QCn 32 (.int .u8 0)) k)∧Later w wr) (fun i _=>32-(intOf i).toNat)
 case atStart=>exact⟨0,by omega,rfl,hb3.later (Qaa _ _),h23.later (Qaa _ _),by rw[Qbo];exact Blk.new _ _ (QCn 32 (Value.int .u8 0)),L3.trans (Qaa _ _)⟩
 case round=>
  clear hb3 h23
  have hL3:=L3.size
  clear L3
  obtain⟨k,hk,rfl,h1,h2,h3,L⟩:=hrel
  by_cases hlt:k<32
  ·have d0:=h1.cellD (k/4) (Qd2 M (k/4) (by omega))
   have hct:=QxN k
   have h08:(0:Int)≤8*((k:Int)%4):=by omega
   have h04:(0:Int)≤(k:Int)%4:=by omega
   have hbl:=hid (Qu8 M k hlt)
   go_wp2_with (first
    | (refine Qac rfl rfl _ _ _ rfl _ _ _ _ h3 rfl ?hl rfl (by kernel_rfl) ?_;(case hl=>rw[QaA _ _ _ (by rw[hlS];rfl)];exact hlt);intro v w6 hv hb6 ho6;simp[go_sem]at hv;subst hv)
    | fail)
   go_roundw
   case rel=>
    rw[QyJ (show lem M (k/4)/2^(8*(k%4))%256=M/256^k%256%256 by rw[hbl.out,QDY]),QaX _ _ _ _ (by rw[hlS];rfl) hlt (HGet.out k hlt)]at hb6
    exact⟨k+1,by omega,by go_num,h1.only ho6 (by omega),h2.only ho6 (by omega),hb6,L.only ho6 (by omega)⟩
   case measure=>simp[intOf];omega
  ·rw[show k=32 by omega,Qb5 _ _ _ hlS rfl]at h3
   have hkf:decide ((k:Int)<32)=false:=by simp;omega
   go_wp2_with (first
    | (refine Qbg rfl 79 _ rfl _ _ _ h3 rfl _ Tryz.underlying79 rfl 32 Qbn hlS ?_)
    | (refine Qaf rfl rfl 79 _ _ rfl _ _ _ _ h2 rfl rfl 32 Qbn hlS rfl (QaE _) ?_;intro w9 hb9 ho9)
    | fail)
   exact bodyPost_ret (QaF rfl _ _ _ _ ((nb M).map W8) _ hb9 rfl Tryz.underlying79 rfl (by rw[hlS];exact Qbn)) rfl ⟨by rw[HM.out],L.only ho9 (by omega)⟩
@[go_sem] theorem QAb (T:TypeId) (x:Nat) (y:UInt64):binOp .mul T (n64 x) (W64 y)=pure (n64 (x*y.toNat)):=by
  rw[QCe y,Qnh]
theorem QzV (x:UInt8):x.toUInt64.toNat=x.toNat:=UInt8.toNat_toUInt64 x
theorem QrO (w:World):Calls Tryz.prog 139 #[.int .i64 1,.int .i64 4] w fun e w'=>e= .returned (.bool true)∧w=w':=by
 go_enter Tryz.func139,Tryz.ntmps139
 go_wp2
 go_ret
 exact⟨rfl,rfl⟩
def quad (bs:List UInt8) (k j:Nat):Nat:=num ((bs.drop (4*k)).take j)
theorem Qfo (bs:List UInt8) (k j:Nat) (h:4*k+j<bs.length):quad bs k (j+1)=quad bs k j+256^j*(bs.getD (4*k+j) 0).toNat:=by
 rw[quad,QoI _ _ (by rw[QCS];omega)]
 congr 3
 rw[QCu,QCu,QDU]
set_option maxHeartbeats 1000000 in
theorem QqM (A:Option Addr) (n c:Nat) (bs:List UInt8) (k:Nat) (w:World) (hr:RdB w A n bs) (hk:4*k+4≤n) (hn:n≤140737488355328):
 Calls Tryz.prog 111 #[.int .i64 1,.slice A n c,.int .i64 (4*(k:Int)),.int .i64 4] w fun e w'=>e= .returned (.tuple #[n64 (quad bs k 4),.int .i64 0])∧Later w w':=by
 have hbl:=hr.len
 obtain⟨b,o,rfl,hb,hc⟩:=hr.at_ (by omega)
 have HC:=hid hc
 have HQ:=hid (fun j (h:j<4)=>Qfo bs k j (by omega))
 clear hc hr
 have e1:decide (4*(k:Int)<0)=false:=by simp;omega
 have e2:decide ((n:Int)<4)=false:=by simp;omega
 have e3:decide ((n:Int)-4<4*(k:Int))=false:=by simp;omega
 go_enter Tryz.func111,Tryz.ntmps111
 go_wp2_with (go_at_call 139;(with_reducible refine (QrO _).mono ?_);rintro e w2 ⟨rfl,rfl⟩)
 go_loopw [10,11,12] (fun v x i wr=>∃j:Nat,j≤4∧i= .int .i64 j∧v=n64 (quad bs k j)∧x=n64 (256^j)∧Later w wr) (fun _ _ i _=>4-(intOf i).toNat)
 case atStart=>exact⟨0,by omega,rfl,rfl,rfl,Later.refl w⟩
 case round=>
  obtain⟨j,hj,rfl,rfl,rfl,L⟩:=hrel
  by_cases hlt:j<4
  ·have c0:wr.cell? ⟨b,o+(4*k+j),none⟩=some (W8 (bs.getD (4*k+j) 0)):=(L.below.cell (p:=⟨b,o+(4*k+j),none⟩) hb).trans (HC.out (4*k+j) (by omega))
   have HQj:=hid (HQ.out j hlt)
   generalize bs.getD (4*k+j) 0=x at *
   have hbx:=QzV x
   go_wp2
   go_roundw
   case rel=>exact⟨j+1,by omega,by go_num,by rw[HQj.out],by rw[QDv],L⟩
   case measure=>simp[intOf];omega
  ·have hkf:decide ((j:Int)<4)=false:=by simp;omega
   have HJ:=hid (show quad bs k j=quad bs k 4 by rw[show j=4 by omega])
   go_wp2
   go_ret2
   exact⟨Qm7 (congrArg n64 HJ.out) rfl,L⟩
theorem QuC (bs:List UInt8) (k:Nat) (h:4*k+4≤bs.length):quad bs k 4=lem (num bs) k:=by
 have e1:num ((bs.drop (4*k)).take 4)<256^4:=by
  have:=Qov ((bs.drop (4*k)).take 4)
  rwa [QCP,QCS,QDG (by omega)]at this
 have e2:num bs=num (bs.take (4*k))+256^(4*k)*(num ((bs.drop (4*k)).take 4)+256^4*num ((bs.drop (4*k)).drop 4)):=by
  have a1:∀l m:List UInt8,num (l++m)=num l+256^l.length*num m:=by
   intro l m
   rw[num,QC6,Qhc,QCt]
   rfl
  conv=>lhs;rw[←QC3 (4*k) bs,a1,←QC3 4 (bs.drop (4*k)),a1]
  rw[QCP,QCP,QCS,QDG (by omega),QDG (by omega)]
 have e3:num (bs.take (4*k))<256^(4*k):=by
  have:=Qov (bs.take (4*k))
  rwa [QCP,QDG (by omega)]at this
 have e4:B32^k=256^(4*k):=by rw[QD5];rfl
 have e5:B32=256^4:=by decide
 rw[quad,lem,e4,e5,e2,QDQ _ _ (QEl (by decide)),QDd e3,QCI,Nat.add_mul_mod_self_left,QCO e1]
@[go_sem] theorem QCa (T:TypeId) (x:Nat) (hx:x<B32):binOp .rem T (n32 x) (.int .u32 2147483648)=pure (n32 (x%2147483648)):=by
  rw[n32,QoT _ _ _ (by omega) (by omega) (by decide),Qs8]
  rw[UInt32.toNat_mod,tn32 hx]
  have:x%2147483648<B32:=by unfold B32;omega
  rw[QCO this]
  rfl
theorem QzR (n:Nat):(NL n).set 7 (n32 (lem n 7%2147483648))=NL (n%T255):=by
 have e:∀m,NL m=[n32 (lem m 0),n32 (lem m 1),n32 (lem m 2),n32 (lem m 3),n32 (lem m 4),n32 (lem m 5),n32 (lem m 6),n32 (lem m 7)]:=by
  intro m
  apply QEt (QaB m)
  intro i hi1 hi2
  rw[QBU]
  have:i=0∨i=1∨i=2∨i=3∨i=4∨i=5∨i=6∨i=7:=by rw[QaB]at hi1;omega
  rcases this with rfl|rfl|rfl|rfl|rfl|rfl|rfl|rfl<;>rfl
 have h0:lem n 0=lem (n%T255) 0:=by unfold lem T255 B32;omega
 have h1:lem n 1=lem (n%T255) 1:=by unfold lem T255 B32;omega
 have h2:lem n 2=lem (n%T255) 2:=by unfold lem T255 B32;omega
 have h3:lem n 3=lem (n%T255) 3:=by unfold lem T255 B32;omega
 have h4:lem n 4=lem (n%T255) 4:=by unfold lem T255 B32;omega
 have h5:lem n 5=lem (n%T255) 5:=by unfold lem T255 B32;omega
 have h6:lem n 6=lem (n%T255) 6:=by unfold lem T255 B32;omega
 have h7:lem n 7%2147483648=lem (n%T255) 7:=by unfold lem T255 B32;omega
 rw[e,e,h0,h1,h2,h3,h4,h5,h6,h7]
 rfl
set_option maxRecDepth 100000 in
set_option maxHeartbeats 2000000 in
theorem Qvh (A:Option Addr) (n c:Nat) (bs:List UInt8) (w:World) (hr:RdB w A n bs) (hn:n≤140737488355328):
 Calls Tryz.prog 84 #[.slice A n c] w fun e w'=>e= .returned (.tuple #[NN (QdV bs),.int .i64 (Qcq bs:Nat)])∧Later w w':=by
 have hbl:=hr.len
 have hb0:=Blk.new w 195 (QCn 8 (Value.int .u32 0))
 by_cases h32:n=32
 ·subst h32
  have hRN:=hid (show QdV bs=num bs%T255%P25 by rw[QdV,if_pos hbl])
  have hRE:=hid (show Qcq bs=0 by rw[Qcq,if_pos hbl])
  have HQ:=hid (fun k (h:k<8)=>QuC bs k (by omega))
  have hlS:=QaB (num bs)
  go_enter Tryz.func84,Tryz.ntmps84
  go_wp2
  go_loopw [5] (fun i wr=>∃k:Nat,k≤8∧i= .int .i64 k∧Blk wr w.heap.size 195 (QCn 8 (.int .u32 0))∧Blk wr (w.heap.size+1) 195 (QbI (NL (num bs)) (QCn 8 (.int .u32 0)) k)∧Later w wr) (fun i _=>8-(intOf i).toNat)
  case atStart=>exact⟨0,by omega,rfl,hb0.later (Qaa _ _),by rw[Qbo];exact Blk.new' _ _ (QCn 8 (Value.int .u32 0)) (by simp),(Qaa _ _).trans (Qaa _ _)⟩
  case round=>
   clear hb0
   obtain⟨k,hk,rfl,h1,h2,L⟩:=hrel
   by_cases hlt:k<8
   ·have HQk:=hid (HQ.out k hlt)
    have HG:=hid (QqM A 32 c bs k wr (hr.later L) (by omega) (by omega))
    go_wp2_with (first
     | (go_at_call 111;(with_reducible refine (HG.out).mono ?_);rintro e w3 ⟨rfl,hl3⟩;rw[HQk.out]
        have h23:=h2.later hl3)
     | (refine Qac rfl rfl _ _ _ rfl _ _ _ _ h23 rfl ?hl rfl (by kernel_rfl) ?_;(case hl=>rw[QaA _ _ _ (by rw[hlS];rfl)];exact hlt);intro v w6 hv hb6 ho6;simp[go_sem]at hv;subst hv)
     | fail)
    go_roundw
    case rel=>
     rw[QaX _ _ _ _ (by rw[hlS];rfl) hlt (Qd2 _ _ hlt)]at hb6
     exact⟨k+1,by omega,by go_num,(h1.later hl3).only ho6 (by omega),hb6,(L.trans hl3).only ho6 (by omega)⟩
    case measure=>simp[intOf];omega
   ·rw[show k=8 by omega,Qb5 _ _ _ hlS rfl]at h2
    have hkf:decide ((k:Int)<8)=false:=by simp;omega
    have d7:=h2.cellD 7 (Qd2 _ 7 (by omega))
    have hlT:num bs%T255<T256:=QDw (QCU _ (by decide)) (by decide)
    go_wp2_with (first
     | (refine Qac rfl rfl _ _ _ rfl _ _ _ _ h2 rfl ?hl rfl (by kernel_rfl) ?_;(case hl=>rw[QaB];omega);intro v w6 hv hb6 ho6;simp[go_sem]at hv;subst hv
        rw[QzR]at hb6
        have h16:=h1.only ho6 (by omega)
        have L6:=L.only ho6 (by omega))
     | (refine Qa2 rfl _ rfl hb6 rfl ?_)
     | (go_at_call 112;(with_reducible refine (Qeb (num bs%T255) hlT _).mono ?_);rintro e w7 ⟨rfl,hl7⟩)
     | (refine Qaw rfl rfl _ _ rfl (h16.later hl7) rfl rfl rfl ?_;intro w9 hb9 ho9)
     | fail)
    exact bodyPost_ret (Qae rfl _ _ _ _ _ _ hb9 rfl Tryz.underlying195 rfl (by rw[QaB];exact QkA)) rfl ⟨by rw[hRN.out,hRE.out];rfl,(L6.trans hl7).only ho9 (by omega)⟩
 ·have hRN:=hid (show QdV bs=0 by rw[QdV,if_neg (by omega)])
  have hRE:=hid (show Qcq bs=2 by rw[Qcq,if_neg (by omega)])
  have hne:((n:Int) != 32)=true:=by simp;omega
  go_enter Tryz.func84,Tryz.ntmps84
  go_wp2_with (first
   | (refine Qaq rfl 195 _ rfl (NL 0) ?hb ?_;(case hb=>kernel_rfl))
   | (refine Qaw (n:=0) rfl rfl _ _ rfl hb0 rfl rfl rfl ?_;intro w9 hb9 ho9)
   | fail)
  exact bodyPost_ret (Qae rfl _ _ _ _ _ _ hb9 rfl Tryz.underlying195 rfl (by rw[QaB];exact QkA)) rfl ⟨by rw[hRN.out,hRE.out];rfl,(Qaa _ _).only ho9 (by omega)⟩
theorem QyI (a:Nat) (h:a%P25≠0):a^(P25-1)%P25=1:=by
 have:=QBu.2 a (by unfold P25 at h;exact h)
 unfold P25
 exact this
theorem Qur (a:Nat) (h:a%P25≠0):a*pinv a%P25=1:=by
 rw[pinv,Nat.mul_mod_mod,←QEn,show (P25-2).succ=P25-1 by unfold P25;rfl]
 exact QyI a h
theorem Qx2 (a:Nat):pinv a<P25:=QCU _ QbC
theorem Qsb (a:Nat):pinv a<T256:=QDw (Qx2 a) (by decide)
@[go_sem] theorem QB3 (a:Nat):(pinv a<T256)=True:=eq_true (Qsb a)
@[go_sem] theorem one_T:(1<T256)=True:=eq_true (by decide)
@[go_sem] theorem QCk:(0<T256)=True:=eq_true (by decide)
@[go_sem] theorem T37:(37<T256)=True:=eq_true (by decide)
section
variable {ops:Array Oper} {rest:List Oper} {o:Oper} {a:Act} {w:World} {Q:Exit→Act→World→Prop}
theorem QfX (hgd:Region.wanted o (yielded ops a.tmps)=true) (x:Operand) (ho:o.op= .load 79 x) {g:Nat} {t:TypeId} {bs:List UInt8} (hb:Blk w g t (bs.map W8)) (hl:bs.length=32) (hx:a.eval x= .pointer (some ⟨g,0,none⟩))
 (h:wpList Tryz.prog ops Q rest (a.put o.dst (.agg (bs.map W8).toArray)) w):wpList Tryz.prog ops Q (o :: rest) a w:=
 Qbg hgd _ x ho g t _ hb hx _ Tryz.underlying79 rfl 32 Qbn (by rw[QCt,hl]) h
theorem Qa5 (hgd:o.guard=none) (hd:o.dst=none) (x y:Operand) (ho:o.op= .store 79 x y) {g:Nat} {t:TypeId} {l:List Value} {bs:List UInt8} (hg:Blk w g t l) (hx:a.eval x= .pointer (some ⟨g,0,none⟩)) (hy:a.eval y= .agg (bs.map W8).toArray) (hbl:bs.length=32) (hl:l.length=32)
 (h:∀w',Blk w' g t (bs.map W8)→Only g w w'→wpList Tryz.prog ops Q rest a w'):wpList Tryz.prog ops Q (o :: rest) a w:=
 Qaf hgd hd _ x y ho g t l _ hg hx hy 32 Qbn (by rw[QCt,hbl]) hl (QaE _) h
end
theorem Qc7 (n:Nat):EL n=[n64 (lim n 0),n64 (lim n 1),n64 (lim n 2),n64 (lim n 3)]:=by
 apply QEt (Qan n)
 intro i hi1 hi2
 rw[QsZ]
 have:i=0∨i=1∨i=2∨i=3:=by rw[Qan]at hi1;omega
 rcases this with rfl|rfl|rfl|rfl<;>rfl
theorem Qjf (a0 a1 a2 a3 b0 b1 b2 b3:Value) (W:World):
 (Instr.buildSlice 236 2 #[(0,.agg #[a0,a1,a2,a3]),(1,.agg #[b0,b1,b2,b3])]).run Tryz.prog W= .ok (.slice (some ⟨W.heap.size,0,none⟩) 2 2) (W.alloc (.cells #[a0,a1,a2,a3,b0,b1,b2,b3] 175)):=by kernel_rfl
theorem QjT (a b:Nat) (W:World):
 (Instr.buildSlice 236 2 #[(0,E a),(1,E b)]).run Tryz.prog W= .ok (.slice (some ⟨W.heap.size,0,none⟩) 2 2) (W.alloc (.cells (EL a++EL b).toArray 175)):=by
 rw[E,E,Qc7 a,Qc7 b]
 exact Qjf ..
section
variable {ops:Array Oper} {rest:List Oper} {o:Oper} {a:Act} {w:World} {Q:Exit→Act→World→Prop}
theorem QdI (hw:Region.wanted o (yielded ops a.tmps)=true) (x y:Operand) (ho:o.op= .buildSlice 236 2 #[(0,x),(1,y)]) (n m:Nat) (hx:a.eval x=E n) (hy:a.eval y=E m)
 (h:wpList Tryz.prog ops Q rest (a.put o.dst (.slice (some ⟨w.heap.size,0,none⟩) 2 2)) (w.alloc (.cells (EL n++EL m).toArray 175))):wpList Tryz.prog ops Q (o :: rest) a w:=
 BigFrame.wpList_want hw fun K hK=>by
  have hr:=QjT n m w
  unfold Oper.wp
  simp only[execOp,ho,QCA,QCR,QCC,hx,hy,Sem.run_bind,hr,Result.andThen_ok,Sem.run_pure]
  exact hK _ _ h
end
theorem Qrr {w:World} {g:Nat} {t:TypeId} {l:List Value} (ns:List Nat) (n:Nat) (hb:Blk w g t l) (hl:l=ns.flatMap EL) (hn:ns.length=n):RdE w (some ⟨g,0,none⟩) n ns:=by
 refine⟨hn,fun _=>⟨g,0,rfl,hb.lt,fun j i v hj hv=>?_⟩⟩
 refine hb.cellD _ ?_
 rw[hl]
 have key:∀(ns:List Nat) (j:Nat),j<ns.length→(EL (ns.getD j 0))[i]?=some v→(ns.flatMap EL)[0+j*4+i]?=some v:=by
  intro ns
  induction ns with
  | nil=>intro j hj;simp at hj
  | cons x ns ih=>
    intro j hj hv
    cases j with
    | zero=>
      rw[QDi,QCD]
      ·simpa using hv
      ·have:i<(EL x).length:=by
        have:=QCK.1 hv
        exact this.1
       omega
    | succ j=>
      rw[QDi,QCF (by rw[Qan];omega),Qan]
      have:=ih j (by simpa using hj) (by simpa using hv)
      rw[show 0+(j+1)*4+i-4=0+j*4+i by omega]
      exact this
 exact key ns j (by omega) hv
end Go.Proofs.YtdkpcdgckgaklaaGreat
namespace Go.Proofs.YtdkpcdgckgaklaaGreat
open Go.RowKit
open Go.BigFrame
def Qi3 (l:List Nat):List UInt32:=l.map QCW
theorem Qvz (n:Nat):NL n=(Qi3 (dig B32 8 n)).map W32:=by rw[NL,Qi3,List.map_map];rfl
theorem Qs9 {l m:List Nat} (hl:∀x∈l,x<B32) (hm:∀x∈m,x<B32) (h:Qi3 l=Qi3 m):l=m:=by
 have e:∀l:List Nat,(∀ x∈l,x<B32)→(Qi3 l).map UInt32.toNat=l:=by
  intro l hl
  rw[Qi3,List.map_map]
  conv=>rhs;rw[←List.map_id l]
  apply List.map_congr_left
  intro x hx
  exact tn32 (hl x hx)
 rw[←e l hl,←e m hm,h]
theorem Qtm {x y:Nat} (hx:x<T256) (hy:y<T256):(Qi3 (dig B32 8 x)==Qi3 (dig B32 8 y))=(x==y):=by
 rw[QDb,beq_iff_eq,beq_iff_eq]
 refine⟨fun h=>?_,fun h=>by rw[h]⟩
 have:=Qs9 (Qeh Qbd 8 x) (Qeh Qbd 8 y) h
 exact QsS (k:=8) (B:=B32) (by rw[Qez];exact hx) (by rw[Qez];exact hy) this
theorem Qzg:(Tryz.prog.info? 96).map (·.size)=some 1:=by kernel_rfl
theorem QB9:Tryz.prog.eqGuardType Tryz.prog.depth 195=false:=by kernel_rfl
@[go_sem high] theorem Qzx (op:BinOp) (x y:Operand) (xs ys:Array Value) (w:World):(eqGuard op 195 x y (.agg xs) (.agg ys)).run Tryz.prog w= .ok () w:=run_eqGuard_agg w op _ x y xs ys QB9
@[go_sem high] theorem Qz0 (x y:Nat) (hx:x<T256) (hy:y<T256) (w:World):(binOp .eql 195 (NN x) (NN y)).run Tryz.prog w= .ok (.bool (x==y)) w:=by
  rw[run_eql_struct,Qvz,Qvz,Qbe w 0 W32 9998 195 96 8 Tryz.underlying195 Qzg Tryz.underlying96 rfl (Qtc _ _ Tryz.underlying96) _ _ (by rw[Qi3,QCt,QaT]) (by rw[Qi3,QCt,QaT]),Qtm hx hy]
  rfl
@[go_sem] theorem Qy3 (T:TypeId) (x:Nat) (hx:x<B32):binOp .rem T (n32 x) (.int .u32 2)=pure (n32 (x%2)):=by
  rw[n32,QoT _ _ _ (by omega) (by omega) (by decide),Qs8]
  rw[UInt32.toNat_mod,tn32 hx]
  have:x%2<B32:=by unfold B32;omega
  rw[QCO this]
  rfl
@[go_sem] theorem QAz (T:TypeId) (x:Nat) (k:Int) (hx:x<B32) (h0:0≤k) (h1:k<4294967296):binOp .eql T (n32 x) (.int .u32 k)=pure (.bool (x==k.toNat)):=by
  rw[Qym k h0 h1,n32,n32,Qm5]
  congr 2
  rw[QDb]
  simp only[beq_iff_eq,←QEs,tn32 hx]
  rw[tn32 (show k.toNat<B32 by unfold B32;omega)]
end Go.Proofs.YtdkpcdgckgaklaaGreat
