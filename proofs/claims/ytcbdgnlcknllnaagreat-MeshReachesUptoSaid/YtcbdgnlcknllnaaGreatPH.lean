/-
  Lemmas for the last text of this claim (part 8 of 20).
-/
import Derived.BigQuiet
import Derived.BigRegion
import Derived.ChangeOld
import Derived.Deep.RegionWith
import Derived.DeepKeys4
import Derived.JoinedCond
import Derived.LaidMore
import Derived.Laws.CopyOwn
import Derived.Laws.Externs
import Derived.Laws.IdiomStrings
import Derived.Laws.Tables
import Derived.Lib.AppendStr
import Derived.Lib.AppendZerosOnto
import Derived.Lib.Mul64
import Derived.Lib.SlBytesConst
import Derived.LoopN
import Derived.Maps.OwnSet
import Derived.OpenShut
import Derived.OrdersHeld
import Derived.ProofKit
import Derived.Shelf.Spec.BitsCarry
import Derived.ShutString
import Derived.Test.YtcbdgnlcknllnaaGreatProg
import Derived.Test.YtcbdgnlcknllnaaGreatRows
import Derived.WalkKit
import Derived.WalkLawsBesides
import Derived.WalkSpells
import Derived.Test.YtcbdgnlcknllnaaGreatPG
open BitVec renaming toNat_ushiftRight → QGu, toNat_shiftLeft → QG9
open Bool renaming and_eq_true → QFQ, eq_iff_iff → QGk, or_eq_true → QHf
open Int renaming toNat_natCast → QHE
open List renaming replicate → QFu, getElem?_cons_succ → QFv, getElem?_cons_zero → QFw, cons_append → QFy, nil_append → QFz, length_map → QFA, getElem?_eq_getElem → QFB, getD_eq_getElem?_getD → QFC, setIfInBounds_toArray → QFD, set_cons_zero → QFG, set_cons_succ → QFH, map_toArray → QFI, take_of_length_le → QFJ, getElem?_append_right → QFK, getElem?_map → QFN, not_mem_nil → QFO, mem_cons → QFP, map_nil → QFR, getElem?_append_left → QFS, getElem?_eq_some_iff → QFU, map_cons → QFW, length_take → QFY, length_drop → QF0, map_append → QF2, take_succ_eq_append_getElem → QF5, range → QF6, take_append_drop → QF8, eq_nil_of_length_eq_zero → QGc, length_set → QGd, mem_map → QGf, all_eq_true → QGi, length_cons → QGo, drop_of_length_le → QGw, getElem_mem → QGy, drop_eq_getElem_cons → QGA, mem_singleton → QGL, getElem?_drop → QGR, mem_range → QGS, map_take → QG1, range_succ → QG4, getElem?_replicate → QHe, flatMap_cons → QHm, nodup_cons → QHn, take_zero → QHy, ext_getElem → QHA, drop_zero → QHM
open Nat renaming mod_eq_of_lt → QFT, lt_of_lt_of_le → QFV, zero_add → QFX, mod_lt → QF1, le_trans → QGh, div_div_eq_div_mul → QGj, div_eq_of_lt → QGn, shiftRight_eq_div_pow → QGp, pow_le_pow_right → QGq, pow_succ → QGs, lt_trans → QGx, div_lt_of_lt_mul → QGz, div_add_mod → QGB, lt_or_ge → QGE, mul_comm → QGF, min_eq_left → QGG, mul_assoc → QGO, mul_mod → QGT, pow_add → QGW, lt_of_le_of_lt → QGZ, mul_le_mul_left → QG2, mod_mod → QG3, add_zero → QG6, add_mul_div_left → QG7, pow_mul → QHb, shiftLeft_eq → QHd, mul_one → QHj, pow_succ' → QHo, add_comm → QHr, pow_pos → QHw, zero_mod → QHC, mul_left_comm → QHD, zero_mul → QHJ, pow_zero → QHK, add_mod → QHL, mod_one → QHP
open Option renaming toList_some → QFx, map_some → QHg
open UInt32 renaming ofNat → QF7, toNat_ofNat' → QHt, toNat_inj → QHH
open UInt64 renaming ofInt → QGH
open UInt8 renaming ofNat → QGa, toNat_inj → QGl, toNat_ofNat' → QGK, toNat → QHQ
namespace Go.Proofs.YtcbdgnlcknllnaaGreat
def Prm (n:Nat):Prop:=2≤n∧∀d,d ∣ n→d=1∨d=n
def small (n:Nat):Bool:=decide (2≤n)&&(QF6 n).all fun d=>d≤1||n%d != 0
theorem Qnx {n:Nat} (h:small n=true):Prm n:=by
 simp only[small,QFQ,decide_eq_true_eq,QGi,QGS,QHf,bne_iff_ne]at h
 refine⟨h.1,fun d hd=>?_⟩
 have hle:=Nat.le_of_dvd (by omega) hd
 by_cases he:d=n
 ·exact .inr he
 ·rcases h.2 d (by omega) with h1|h1
  ·rcases QGE 0 d with h0|h0
   ·exact .inl (by omega)
   ·have:d=0:=by omega
    subst this
    have:=Nat.eq_zero_of_zero_dvd hd
    omega
  ·exact absurd (Nat.mod_eq_zero_of_dvd hd) h1
def pwm (m:Nat):Nat→Nat→Nat→Nat
 | 0,_,_=>1%m
 | f+1,b,e=>if e=0 then 1%m else if e%2=1 then b*pwm m f (b*b%m) (e/2)%m else pwm m f (b*b%m) (e/2)
theorem Qet (b e m:Nat):(b%m)^e%m=b^e%m:=(Nat.pow_mod b e m).symm
theorem Qqj (m:Nat):∀(f b e:Nat),e<2^f→pwm m f b e=b^e%m
 | 0,b,e,h=>by
   obtain rfl:e=0:=by simpa using h
   rfl
 | f+1,b,e,h=>by
   have ih:=Qqj m f (b*b%m) (e/2) (by rw[QGs]at h;omega)
   rw[Qet]at ih
   have hb:(b*b)^(e/2)=b^(2*(e/2)):=by rw[QHb,Nat.pow_two]
   rw[hb]at ih
   rw[pwm]
   split
   ·rename_i h0
    rw[h0]
    rfl
   ·split
    ·rename_i h1
     rw[ih,Nat.mul_mod_mod,←QHo]
     congr 2
     omega
    ·rw[ih]
     congr 2
     omega
theorem QgW (t:Nat) (ht:1<t):∀fs:List Nat,(∀ q∈fs,Prm q)→t ∣ fs.foldr (· *·) 1→∃q∈fs,q ∣ t
 | [],_,h=>by
   have:=Nat.le_of_dvd (by decide) h
   simp at this
   omega
 | q :: fs,hp,h=>by
   have hq:=hp q (by simp)
   rcases hq.2 (Nat.gcd t q) (Nat.gcd_dvd_right t q) with h1|h1
   ·obtain⟨r,hr,hd⟩:=QgW t ht fs (fun r hr=>hp r (by simp[hr])) (Nat.Coprime.dvd_of_dvd_mul_left h1 h)
    exact⟨r,by simp[hr],hd⟩
   ·exact⟨q,by simp,h1 ▸ Nat.gcd_dvd_left t q⟩
theorem Qex:∀(l m:List Nat),l.Nodup→(∀ x∈l,x∈m)→l.length≤m.length
 | [],_,_,_=>Nat.zero_le _
 | x :: l,m,h,hs=>by
   rw[QHn]at h
   have hx:=hs x (by simp)
   have:=Qex l (m.erase x) h.2 (fun y hy=>(List.mem_erase_of_ne (fun e=>by subst e;exact h.1 hy)).2 (hs y (by simp[hy])))
   rw[List.length_erase_of_mem hx]at this
   have:=List.length_pos_of_mem hx
   simp only[QGo]
   omega
theorem QoA (l:List Nat) (n:Nat) (hd:l.Nodup) (hl:l.length=n) (hb:∀x∈l,0<x∧x<n+1) (a:Nat) (h0:0<a) (h1:a<n+1):a∈l:=by
 refine Classical.byContradiction fun ha=>?_
 have:=Qex (0 :: a :: l) (QF6 (n+1)) (by
  rw[QHn,QHn]
  refine⟨?_,ha,hd⟩
  intro h
  rcases QFP.1 h with h|h
  ·omega
  ·have:=hb 0 h
   omega) (by
  intro x hx
  rw[QGS]
  rcases QFP.1 hx with rfl|hx
  ·omega
  ·rcases QFP.1 hx with rfl|hx
   ·omega
   ·exact (hb x hx).2)
 simp[hl]at this
 omega
theorem QgQ {g n k:Nat} (hn:2≤n) (h:g^k%n=1) (j:Nat):g^(k*j)%n=1:=by
 rw[QHb,Nat.pow_mod,h,Nat.one_pow]
 exact QFT (by omega)
theorem Qi6 {a b n:Nat} (ha:a%n=1):a*b%n=b%n:=by
 rw[QGT,ha,Nat.one_mul,QG3]
theorem Qfx (f:Nat→Nat):∀n,(∀ i j,i<j→j<n→f i≠f j)→((QF6 n).map f).Nodup
 | 0,_=>by simp
 | n+1,h=>by
   rw[QG4,QF2,List.nodup_append]
   refine⟨Qfx f n fun i j hi hj=>h i j hi (by omega),by simp,?_⟩
   intro a ha b hb
   obtain⟨i,hi,rfl⟩:=QGf.1 ha
   rw[QGS]at hi
   simp only[QFW,QFR,QGL]at hb
   subst hb
   exact h i n hi (by omega)
theorem QEI (n g:Nat) (fs:List Nat) (hn:2≤n) (hprod:fs.foldr (· *·) 1=n-1) (hpr:∀q∈fs,Prm q) (h1:g^(n-1)%n=1) (h2:∀q∈fs,g^((n-1)/q)%n≠1):
 Prm n∧∀a,a%n≠0→a^(n-1)%n=1:=by
 have hord:∀k,0<k→k<n-1→g^k%n≠1:=by
  intro k
  induction k using Nat.strongRecOn with
  | _ m ih=>
    intro h0 hlt hg
    by_cases hr:(n-1)%m=0
    ·have ht:m*((n-1)/m)=n-1:=Nat.mul_div_cancel' (Nat.dvd_of_mod_eq_zero hr)
     generalize (n-1)/m=t at ht
     have ht1:1<t:=by
      rcases QGE 1 t with h|h
      ·exact h
      ·have:m*t≤m*1:=QG2 m h
       omega
     obtain⟨q,hq,u,hu⟩:=QgW t ht1 fs hpr (by rw[hprod,←ht];exact Nat.dvd_mul_left t m)
     have hqp:=(hpr q hq).1
     refine h2 q hq ?_
     have:(n-1)/q=m*u:=by
      rw[←ht,hu,QHD]
      exact Nat.mul_div_cancel_left _ (by omega)
     rw[this]
     exact QgQ hn hg u
    ·refine ih ((n-1)%m) (QF1 _ h0) (by omega) (by have:=QF1 (n-1) h0;omega) ?_
     have hd:g^(m*((n-1)/m))*g^((n-1)%m)=g^(n-1):=by rw[←QGW,QGB]
     have e:=Qi6 (b:=g^((n-1)%m)) (QgQ hn hg ((n-1)/m))
     rw[hd,h1]at e
     exact e.symm
 have hinv:∀i,i≤n-1→g^i*g^(n-1-i)%n=1:=by
  intro i hi
  rw[←QGW,show i+(n-1-i)=n-1 by omega]
  exact h1
 have hnz:∀i,i≤n-1→g^i%n≠0:=by
  intro i hi h
  have:=hinv i hi
  rw[QGT,h,QHJ,QHC]at this
  omega
 have hall:∀a,a%n≠0→∃i,i<n-1∧g^i%n=a%n:=by
  intro a ha
  have:=QoA ((QF6 (n-1)).map fun i=>g^i%n) (n-1) (Qfx _ _ (by
   intro i j hi hj he
   refine hord (j-i) (by omega) (by omega) ?_
   have e1:g^j=g^i*g^(j-i):=by rw[←QGW];congr 1;omega
   have e2:=hinv i (by omega)
   have e3:g^(n-1-i)*g^j%n=g^(n-1-i)*g^i%n:=by rw[QGT,←he,←QGT]
   rw[e1,←QGO,QGF (g^(n-1-i)),Qi6 e2,e2]at e3
   exact e3)) (by simp) (by
   intro x hx
   obtain⟨i,hi,rfl⟩:=QGf.1 hx
   rw[QGS]at hi
   have:=hnz i (by omega)
   have:=QF1 (g^i) (show 0<n by omega)
   omega) (a%n) (by omega) (by have:=QF1 a (show 0<n by omega);omega)
  obtain⟨i,hi,he⟩:=QGf.1 this
  exact⟨i,QGS.1 hi,he⟩
 have hfer:∀a,a%n≠0→a^(n-1)%n=1:=by
  intro a ha
  obtain⟨i,_,he⟩:=hall a ha
  rw[←Qet,←he,Qet,←QHb,QGF]
  exact QgQ hn h1 i
 refine⟨⟨hn,fun d hd=>?_⟩,hfer⟩
 by_cases hdn:d=n
 ·exact .inr hdn
 ·refine .inl ?_
  have hle:=Nat.le_of_dvd (by omega) hd
  have hd0:d≠0:=fun h=>by
   subst h
   have:=Nat.eq_zero_of_zero_dvd hd
   omega
  have h3:=hfer d (by rw[QFT (by omega)];exact hd0)
  have h4:d ∣ d^(n-1):=by
   obtain⟨k,hk⟩:∃k,n-1=k+1:=⟨n-2,by omega⟩
   rw[hk,QGs]
   exact Nat.dvd_mul_left d _
  have h5:d ∣ d^(n-1)%n:=(Nat.dvd_mod_iff hd).2 h4
  rw[h3]at h5
  exact Nat.dvd_one.1 h5
def QC5 (n g:Nat) (fs:List Nat):Bool:=
 decide (2≤n)&&decide (n<2^256)&&(fs.foldr (· *·) 1==n-1)&&(pwm n 256 g (n-1)==1)&&fs.all fun q=>pwm n 256 g ((n-1)/q) != 1
theorem Qaw (n g:Nat) (fs:List Nat) (h:QC5 n g fs=true) (hpr:∀q∈fs,Prm q):Prm n∧∀a,a%n≠0→a^(n-1)%n=1:=by
 simp only[QC5,QFQ,decide_eq_true_eq,beq_iff_eq,QGi,bne_iff_ne]at h
 obtain⟨⟨⟨⟨h1,h2⟩,h3⟩,h4⟩,h5⟩:=h
 refine QEI n g fs h1 h3 hpr ?_ ?_
 ·rw[Qqj _ _ _ _ (by omega)]at h4
  exact h4
 ·intro q hq
  have:=h5 q hq
  rw[Qqj _ _ _ _ (QGZ (Nat.div_le_self _ _) (by omega))]at this
  exact this
def Qmn:List Nat:=[2,3,5,7,13,17,19,23,29,31,41,43,47,59,83,97,103,107,127,131,173,223,353,419,479,487,991]
theorem Qae:∀q∈Qmn,Prm q:=fun q hq=>Qnx (QGi.1 (show Qmn.all small=true by decide +kernel) q hq)
theorem QsW:Prm 32573∧∀a,a%32573≠0→a^(32573-1)%32573=1:=
 Qaw 32573 2 [2,2,17,479] (by decide +kernel) (by
  intro q hq
  simp only[QFP,QFO,or_false]at hq
  rcases hq with rfl|rfl|rfl|rfl
  ·exact Qae _ (by decide)
  ·exact Qae _ (by decide)
  ·exact Qae _ (by decide)
  ·exact Qae _ (by decide))
theorem Quv:Prm 65147∧∀a,a%65147≠0→a^(65147-1)%65147=1:=
 Qaw 65147 2 [2,32573] (by decide +kernel) (by
  intro q hq
  simp only[QFP,QFO,or_false]at hq
  rcases hq with rfl|rfl
  ·exact Qae _ (by decide)
  ·exact QsW.1)
theorem Qt2:Prm 57467∧∀a,a%57467≠0→a^(57467-1)%57467=1:=
 Qaw 57467 2 [2,59,487] (by decide +kernel) (by
  intro q hq
  simp only[QFP,QFO,or_false]at hq
  rcases hq with rfl|rfl|rfl
  ·exact Qae _ (by decide)
  ·exact Qae _ (by decide)
  ·exact Qae _ (by decide))
theorem QrN:Prm 132049∧∀a,a%132049≠0→a^(132049-1)%132049=1:=
 Qaw 132049 26 [2,2,2,2,3,3,7,131] (by decide +kernel) (by
  intro q hq
  simp only[QFP,QFO,or_false]at hq
  rcases hq with rfl|rfl|rfl|rfl|rfl|rfl|rfl|rfl
  ·exact Qae _ (by decide)
  ·exact Qae _ (by decide)
  ·exact Qae _ (by decide)
  ·exact Qae _ (by decide)
  ·exact Qae _ (by decide)
  ·exact Qae _ (by decide)
  ·exact Qae _ (by decide)
  ·exact Qae _ (by decide))
theorem QxD:Prm 3727∧∀a,a%3727≠0→a^(3727-1)%3727=1:=
 Qaw 3727 3 [2,3,3,3,3,23] (by decide +kernel) (by
  intro q hq
  simp only[QFP,QFO,or_false]at hq
  rcases hq with rfl|rfl|rfl|rfl|rfl|rfl
  ·exact Qae _ (by decide)
  ·exact Qae _ (by decide)
  ·exact Qae _ (by decide)
  ·exact Qae _ (by decide)
  ·exact Qae _ (by decide)
  ·exact Qae _ (by decide))
theorem QoC:Prm 1923133∧∀a,a%1923133≠0→a^(1923133-1)%1923133=1:=
 Qaw 1923133 2 [2,2,3,43,3727] (by decide +kernel) (by
  intro q hq
  simp only[QFP,QFO,or_false]at hq
  rcases hq with rfl|rfl|rfl|rfl|rfl
  ·exact Qae _ (by decide)
  ·exact Qae _ (by decide)
  ·exact Qae _ (by decide)
  ·exact Qae _ (by decide)
  ·exact QxD.1)
theorem QlA:Prm 1723∧∀a,a%1723≠0→a^(1723-1)%1723=1:=
 Qaw 1723 3 [2,3,7,41] (by decide +kernel) (by
  intro q hq
  simp only[QFP,QFO,or_false]at hq
  rcases hq with rfl|rfl|rfl|rfl
  ·exact Qae _ (by decide)
  ·exact Qae _ (by decide)
  ·exact Qae _ (by decide)
  ·exact Qae _ (by decide))
theorem QrU:Prm 430751∧∀a,a%430751≠0→a^(430751-1)%430751=1:=
 Qaw 430751 17 [2,5,5,5,1723] (by decide +kernel) (by
  intro q hq
  simp only[QFP,QFO,or_false]at hq
  rcases hq with rfl|rfl|rfl|rfl|rfl
  ·exact Qae _ (by decide)
  ·exact Qae _ (by decide)
  ·exact Qae _ (by decide)
  ·exact Qae _ (by decide)
  ·exact QlA.1)
theorem QwQ:Prm 4153∧∀a,a%4153≠0→a^(4153-1)%4153=1:=
 Qaw 4153 5 [2,2,2,3,173] (by decide +kernel) (by
  intro q hq
  simp only[QFP,QFO,or_false]at hq
  rcases hq with rfl|rfl|rfl|rfl|rfl
  ·exact Qae _ (by decide)
  ·exact Qae _ (by decide)
  ·exact Qae _ (by decide)
  ·exact Qae _ (by decide)
  ·exact Qae _ (by decide))
theorem QfL:Prm 31757755568855353∧∀a,a%31757755568855353≠0→a^(31757755568855353-1)%31757755568855353=1:=
 Qaw 31757755568855353 10 [2,2,2,3,31,107,223,4153,430751] (by decide +kernel) (by
  intro q hq
  simp only[QFP,QFO,or_false]at hq
  rcases hq with rfl|rfl|rfl|rfl|rfl|rfl|rfl|rfl|rfl
  ·exact Qae _ (by decide)
  ·exact Qae _ (by decide)
  ·exact Qae _ (by decide)
  ·exact Qae _ (by decide)
  ·exact Qae _ (by decide)
  ·exact Qae _ (by decide)
  ·exact Qae _ (by decide)
  ·exact QwQ.1
  ·exact QrU.1)
theorem Qv3:Prm 9463∧∀a,a%9463≠0→a^(9463-1)%9463=1:=
 Qaw 9463 3 [2,3,19,83] (by decide +kernel) (by
  intro q hq
  simp only[QFP,QFO,or_false]at hq
  rcases hq with rfl|rfl|rfl|rfl
  ·exact Qae _ (by decide)
  ·exact Qae _ (by decide)
  ·exact Qae _ (by decide)
  ·exact Qae _ (by decide))
theorem QsL:Prm 37853∧∀a,a%37853≠0→a^(37853-1)%37853=1:=
 Qaw 37853 2 [2,2,9463] (by decide +kernel) (by
  intro q hq
  simp only[QFP,QFO,or_false]at hq
  rcases hq with rfl|rfl|rfl
  ·exact Qae _ (by decide)
  ·exact Qae _ (by decide)
  ·exact Qv3.1)
theorem QtT:Prm 75707∧∀a,a%75707≠0→a^(75707-1)%75707=1:=
 Qaw 75707 2 [2,37853] (by decide +kernel) (by
  intro q hq
  simp only[QFP,QFO,or_false]at hq
  rcases hq with rfl|rfl
  ·exact Qae _ (by decide)
  ·exact QsL.1)
theorem Qxd:Prm 2437∧∀a,a%2437≠0→a^(2437-1)%2437=1:=
 Qaw 2437 2 [2,2,3,7,29] (by decide +kernel) (by
  intro q hq
  simp only[QFP,QFO,or_false]at hq
  rcases hq with rfl|rfl|rfl|rfl|rfl
  ·exact Qae _ (by decide)
  ·exact Qae _ (by decide)
  ·exact Qae _ (by decide)
  ·exact Qae _ (by decide)
  ·exact Qae _ (by decide))
theorem Qr8:Prm 569003∧∀a,a%569003≠0→a^(569003-1)%569003=1:=
 Qaw 569003 2 [2,7,97,419] (by decide +kernel) (by
  intro q hq
  simp only[QFP,QFO,or_false]at hq
  rcases hq with rfl|rfl|rfl|rfl
  ·exact Qae _ (by decide)
  ·exact Qae _ (by decide)
  ·exact Qae _ (by decide)
  ·exact Qae _ (by decide))
theorem QjO:Prm 2773320623∧∀a,a%2773320623≠0→a^(2773320623-1)%2773320623=1:=
 Qaw 2773320623 5 [2,2437,569003] (by decide +kernel) (by
  intro q hq
  simp only[QFP,QFO,or_false]at hq
  rcases hq with rfl|rfl|rfl
  ·exact Qae _ (by decide)
  ·exact Qxd.1
  ·exact Qr8.1)
theorem Qi4:Prm 72106336199∧∀a,a%72106336199≠0→a^(72106336199-1)%72106336199=1:=
 Qaw 72106336199 7 [2,13,2773320623] (by decide +kernel) (by
  intro q hq
  simp only[QFP,QFO,or_false]at hq
  rcases hq with rfl|rfl|rfl
  ·exact Qae _ (by decide)
  ·exact Qae _ (by decide)
  ·exact QjO.1)
theorem Qn1:Prm 8574133∧∀a,a%8574133≠0→a^(8574133-1)%8574133=1:=
 Qaw 8574133 2 [2,2,3,7,103,991] (by decide +kernel) (by
  intro q hq
  simp only[QFP,QFO,or_false]at hq
  rcases hq with rfl|rfl|rfl|rfl|rfl|rfl
  ·exact Qae _ (by decide)
  ·exact Qae _ (by decide)
  ·exact Qae _ (by decide)
  ·exact Qae _ (by decide)
  ·exact Qae _ (by decide)
  ·exact Qae _ (by decide))
theorem Qgl:Prm 1919519569386763∧∀a,a%1919519569386763≠0→a^(1919519569386763-1)%1919519569386763=1:=
 Qaw 1919519569386763 2 [2,3,7,19,47,47,127,8574133] (by decide +kernel) (by
  intro q hq
  simp only[QFP,QFO,or_false]at hq
  rcases hq with rfl|rfl|rfl|rfl|rfl|rfl|rfl|rfl
  ·exact Qae _ (by decide)
  ·exact Qae _ (by decide)
  ·exact Qae _ (by decide)
  ·exact Qae _ (by decide)
  ·exact Qae _ (by decide)
  ·exact Qae _ (by decide)
  ·exact Qae _ (by decide)
  ·exact Qn1.1)
theorem Qcq:Prm 75445702479781427272750846543864801∧∀a,a%75445702479781427272750846543864801≠0→a^(75445702479781427272750846543864801-1)%75445702479781427272750846543864801=1:=
 Qaw 75445702479781427272750846543864801 7 [2,2,2,2,2,3,3,5,5,75707,72106336199,1919519569386763] (by decide +kernel) (by
  intro q hq
  simp only[QFP,QFO,or_false]at hq
  rcases hq with rfl|rfl|rfl|rfl|rfl|rfl|rfl|rfl|rfl|rfl|rfl|rfl
  ·exact Qae _ (by decide)
  ·exact Qae _ (by decide)
  ·exact Qae _ (by decide)
  ·exact Qae _ (by decide)
  ·exact Qae _ (by decide)
  ·exact Qae _ (by decide)
  ·exact Qae _ (by decide)
  ·exact Qae _ (by decide)
  ·exact Qae _ (by decide)
  ·exact QtT.1
  ·exact Qi4.1
  ·exact Qgl.1)
theorem Qa8:Prm 74058212732561358302231226437062788676166966415465897661863160754340907∧∀a,a%74058212732561358302231226437062788676166966415465897661863160754340907≠0→a^(74058212732561358302231226437062788676166966415465897661863160754340907-1)%74058212732561358302231226437062788676166966415465897661863160754340907=1:=
 Qaw 74058212732561358302231226437062788676166966415465897661863160754340907 2 [2,3,353,57467,132049,1923133,31757755568855353,75445702479781427272750846543864801] (by decide +kernel) (by
  intro q hq
  simp only[QFP,QFO,or_false]at hq
  rcases hq with rfl|rfl|rfl|rfl|rfl|rfl|rfl|rfl
  ·exact Qae _ (by decide)
  ·exact Qae _ (by decide)
  ·exact Qae _ (by decide)
  ·exact Qt2.1
  ·exact QrN.1
  ·exact QoC.1
  ·exact QfL.1
  ·exact Qcq.1)
theorem QEi:Prm 57896044618658097711785492504343953926634992332820282019728792003956564819949∧∀a,a%57896044618658097711785492504343953926634992332820282019728792003956564819949≠0→a^(57896044618658097711785492504343953926634992332820282019728792003956564819949-1)%57896044618658097711785492504343953926634992332820282019728792003956564819949=1:=
 Qaw 57896044618658097711785492504343953926634992332820282019728792003956564819949 2 [2,2,3,65147,74058212732561358302231226437062788676166966415465897661863160754340907] (by decide +kernel) (by
  intro q hq
  simp only[QFP,QFO,or_false]at hq
  rcases hq with rfl|rfl|rfl|rfl|rfl
  ·exact Qae _ (by decide)
  ·exact Qae _ (by decide)
  ·exact Qae _ (by decide)
  ·exact Quv.1
  ·exact Qa8.1)
end Go.Proofs.YtcbdgnlcknllnaaGreat
namespace Go.Proofs.YtcbdgnlcknllnaaGreat
open Go.RowKit
def num (bs:List UInt8):Nat:=val 256 (bs.map QHQ)
theorem Qp3 (bs:List UInt8) (j:Nat) (h:j<bs.length):num (bs.drop j)=(bs.getD j 0).toNat+256*num (bs.drop (j+1)):=by
 rw[QGA h,num,QFW,val,num,QFC,QFB h]
 rfl
def dn:Nat→Int
 | 0=> -1
 | j+1=>j
theorem Ql1:dn 0= -1:=rfl
theorem QlS (j:Nat):dn (j+1)=j:=rfl
theorem QfQ (j:Nat):(j:Int)-1=dn j:=by
 cases j with
 | zero=>rfl
 | succ j=>simp only[dn];omega
theorem Qu0 (x:UInt8) (m:Nat):(shr8 x m &&& 1).toNat=x.toNat/2^m%2:=by
 rw[UInt8.toNat_and]
 have e:(shr8 x m).toNat=x.toNat/2^m:=by
  rw[shr8]
  show (BitVec.toNat _)=_
  rw[QGu,QGp]
  rfl
 rw[e]
 exact Nat.and_two_pow_sub_one_eq_mod _ 1
theorem QvE (x:UInt8) (m:Nat):(shr8 x m &&& 1==1)=decide (x.toNat/2^m%2=1):=by
 rw[←Qu0,QGk,beq_iff_eq,decide_eq_true_eq,←QGl]
 rfl
theorem pow_two (a e P:Nat):(a^e%P)*(a^e%P)%P=a^(2*e)%P:=by rw[←QGT,←QGW,Nat.two_mul]
theorem Qoo (a e P:Nat):(a^e%P)*(a^e%P)*a%P=a^(2*e+1)%P:=by
 rw[QGs,QGT,pow_two,←QGT]
theorem QwB (N x m:Nat) (hm:m<8):N*2^(8-m)+x/2^m=2*(N*2^(8-(m+1))+x/2^(m+1))+x/2^m%2:=by
 rw[show 8-m=(8-(m+1))+1 by omega,QGs,QGs,←QGj,←QGO]
 omega
theorem of_1 (w:World):Calls Tryz.prog 111 #[.int .u64 1] w fun e w'=>e= .returned (E 1)∧Later w w':=QyO 1 (by decide) w
set_option maxRecDepth 100000 in
set_option maxHeartbeats 2000000 in
theorem QuF (a:Nat) (ha:a<T256) (A:Option Addr) (n c:Nat) (bs:List UInt8) (w:World) (hr:RdB w A n bs) (hn:n≤140737488355328):
 Calls Tryz.prog 157 #[E a,.slice A n c] w fun e w'=>e= .returned (E (a^num bs%P25))∧Later w w':=by
 have hbl:=hr.len
 have h1:Blk ((w.alloc (.cells (EL a).toArray 228)).alloc (.cells (QFu 4 (.int .u64 0)).toArray 228)) w.heap.size 228 (EL a):=(Blk.new _ _ _).later (Qaa _ _)
 have h2:Blk ((w.alloc (.cells (EL a).toArray 228)).alloc (.cells (QFu 4 (.int .u64 0)).toArray 228)) (w.heap.size+1) 228 (QFu 4 (.int .u64 0)):=Blk.new' _ _ _ (by simp)
 have L0:Later w ((w.alloc (.cells (EL a).toArray 228)).alloc (.cells (QFu 4 (.int .u64 0)).toArray 228)):=(Qaa _ _).trans (Qaa _ _)
 go_enter Tryz.func157,Tryz.ntmps157
 go_wp2_with (first
  | (go_at_call 111;(with_reducible refine (of_1 _).mono ?_);rintro e w2 ⟨rfl,hl2⟩)
  | (refine QaM rfl rfl _ _ rfl (Blk.new w2 _ (QFu 4 (.int .u64 0))) rfl rfl rfl ?_;intro w3 hb3 ho3)
  | fail)
 have h13:=((h1.later hl2).later (Qaa _ (.cells (QFu 4 (.int .u64 0)).toArray 228))).only ho3 (by have:=(h1.later hl2).lt;omega)
 have h23:=((h2.later hl2).later (Qaa _ (.cells (QFu 4 (.int .u64 0)).toArray 228))).only ho3 (by have:=(h2.later hl2).lt;omega)
 have L3:=((L0.trans hl2).alloc (.cells (QFu 4 (.int .u64 0)).toArray 228)).only ho3 (by have:=(L0.trans hl2).size;omega)
 have hg:w.heap.size+1<w2.heap.size:=(h2.later hl2).lt
 generalize w2.heap.size=g at *
 clear h1 h2 L0 hl2 ho3
 go_loopw [6] (fun i wr=>∃k:Nat,k≤n∧i= .int .i64 (dn k)∧Blk wr w.heap.size 228 (EL a)∧Blk wr (w.heap.size+1) 228 (QFu 4 (.int .u64 0))∧Blk wr g 228 (EL (a^num (bs.drop k)%P25))∧Later w wr) (fun i _=>(intOf i+1).toNat)
 case atStart=>
  refine⟨n,by omega,by rw[←QfQ],h13,h23,?_,L3⟩
  rw[QGw (by omega)]
  exact hb3
 case round=>
  clear h13 h23 hb3 L3
  obtain⟨k,hk,rfl,h1,h2,h3,L⟩:=hrel
  cases k with
  | zero=>
    rw[QHM]at h3
    obtain⟨y,hy⟩:∃y,y=a^num bs%P25:=⟨_,rfl⟩
    rw[←hy]at h3
    have HY:=hid hy
    clear hy
    simp only[Ql1]
    go_wp2_with (first
     | (refine QbN rfl _ rfl h3 rfl ?_)
     | (refine QaM rfl rfl _ _ rfl h2 rfl rfl rfl ?_;intro w9 hb9 ho9)
     | fail)
    exact bodyPost_ret (QhI rfl hb9 rfl) rfl ⟨by rw[HY.out],L.only ho9 (by omega)⟩
  | succ j=>
    obtain⟨b,o,rfl,hb,hc⟩:=hr.at_ (by omega)
    have HC:=hid (hc j (by omega))
    have HN:=hid (Qp3 bs j (by omega))
    clear hc hr
    simp only[QlS]
    generalize bs.getD j 0=x at *
    generalize num (bs.drop (j+1))=N at *
    generalize hNN:num (bs.drop j)=N' at *
    have HNN:=hid hNN
    clear hNN
    go_wp2_with fail
    go_loopw [7] (fun i wr=>∃m:Nat,m≤8∧i= .int .i64 (dn m)∧Blk wr w.heap.size 228 (EL a)∧Blk wr (w.heap.size+1) 228 (QFu 4 (.int .u64 0))∧Blk wr g 228 (EL (a^(N*2^(8-m)+x.toNat/2^m)%P25))∧Later w wr) (fun i _=>(intOf i+1).toNat)
    case atStart=>
     refine⟨8,by omega,rfl,h1,h2,?_,L⟩
     have:x.toNat/2^8=0:=QGn x.toNat_lt
     rw[this,Nat.sub_self,QHK,QHj,QG6]
     exact h3
    case round=>
     clear h1 h2 h3 L
     obtain⟨m,hm,rfl,h1,h2,h3,L⟩:=hrel
     cases m with
     | zero=>
       simp only[Ql1]
       go_wp2_with fail
       go_roundw
       case rel=>
        refine⟨j,by omega,by rw[QfQ],h1,h2,?_,L⟩
        have e:N*2^(8-0)+x.toNat/2^0=N':=by
         rw[HN.out,QHK,Nat.div_one]
         show N*256+_=_
         omega
        rw[e]at h3
        have hn':num (bs.drop j)=N':=HNN.out
        rw[hn']
        exact h3
       case measure=>simp[intOf]
     | succ m=>
       have d0:wr.cell? ⟨b,o+j,none⟩=some (W8 x):=(L.below.cell (p:=⟨b,o+j,none⟩) hb).trans HC.out
       have HE:=hid (QwB N x.toNat m (by omega))
       obtain⟨y,hy⟩:∃y,y=a^(N*2^(8-(m+1))+x.toNat/2^(m+1))%P25:=⟨_,rfl⟩
       rw[←hy]at h3
       have hyT:y<T256:=by rw[hy];exact QGx (QF1 _ Qbt) (by decide)
       have HY:=hid hy
       clear hy
       have hyy:y*y%P25<T256:=QGx (QF1 _ Qbt) (by decide)
       have hbe:=QvE x m
       have hcnt:cnt (QGH (m:Int))=m:=by rw[Qeg,cnt,tn64 (by unfold B64;omega)]
       simp only[QlS]
       rcases Nat.mod_two_eq_zero_or_one (x.toNat/2^m) with hz|hz
       ·have hd:(shr8 x m &&& 1==1)=false:=by rw[hbe,hz];rfl
        have HZ:=hid hz
        clear hbe hz
        go_wp2_with (first
         | (refine QbN rfl _ rfl h3 rfl ?_)
         | (go_at_call 135;(with_reducible refine (QhA y hyT _).mono ?_);rintro e w4 ⟨rfl,hl4⟩)
         | (refine QaM rfl rfl _ _ rfl (h3.later hl4) rfl rfl (Qam _) ?_;intro w5 hb5 ho5
            have d5:w5.cell? ⟨b,o+j,none⟩=some (W8 x):=(((L.trans hl4).only ho5 (by omega)).below.cell (p:=⟨b,o+j,none⟩) hb).trans HC.out)
         | fail)
        go_roundw
        case rel=>
         refine⟨m,by omega,by rw[QfQ],(h1.later hl4).only ho5 (by omega),(h2.later hl4).only ho5 (by omega),?_,(L.trans hl4).only ho5 (by omega)⟩
         rw[HE.out,HZ.out,QG6,←pow_two,←HY.out]
         exact hb5
        case measure=>simp[intOf]
       ·have hd:(shr8 x m &&& 1==1)=true:=by rw[hbe,hz];rfl
        have HZ:=hid hz
        clear hbe hz
        go_wp2_with (first
         | (refine QbN rfl _ rfl h3 rfl ?_)
         | (go_at_call 135;(with_reducible refine (QhA y hyT _).mono ?_);rintro e w4 ⟨rfl,hl4⟩)
         | (refine QaM rfl rfl _ _ rfl (h3.later hl4) rfl rfl (Qam _) ?_;intro w5 hb5 ho5
            have d5:w5.cell? ⟨b,o+j,none⟩=some (W8 x):=(((L.trans hl4).only ho5 (by omega)).below.cell (p:=⟨b,o+j,none⟩) hb).trans HC.out
            have h15:=(h1.later hl4).only ho5 (by omega))
         | (refine QbN rfl _ rfl hb5 rfl ?_)
         | (refine QbN rfl _ rfl h15 rfl ?_)
         | (go_at_call 137;(with_reducible refine (Qep (y*y%P25) a hyy ha _).mono ?_);rintro e w6 ⟨rfl,hl6⟩)
         | (refine QaM rfl rfl _ _ rfl (hb5.later hl6) rfl rfl (Qam _) ?_;intro w7 hb7 ho7)
         | fail)
        go_roundw
        case rel=>
         refine⟨m,by omega,by rw[QfQ],(h15.later hl6).only ho7 (by omega),(((h2.later hl4).only ho5 (by omega)).later hl6).only ho7 (by omega),?_,(((L.trans hl4).only ho5 (by omega)).trans hl6).only ho7 (by omega)⟩
         rw[HE.out,HZ.out,←Qoo,←HY.out]
         first|exact hb7|(rw [Nat.mod_mul_mod]at hb7;exact hb7)
        case measure=>simp[intOf]
theorem QBK {w:World} {g:Nat} {t:TypeId} {l:List Value} {n:Nat} (h:Blk w g t l) (hn:l.length=n):Rd w (some ⟨g,0,none⟩) n l:=
 ⟨hn,fun _=>⟨g,0,rfl,h.lt,fun j u hu=>by rw[QFX];exact h.cellD j hu⟩⟩
theorem Qec {w:World} {g:Nat} {t:TypeId} {bs:List UInt8} {n:Nat} (h:Blk w g t (bs.map W8)) (hn:bs.length=n):RdB w (some ⟨g,0,none⟩) n bs:=QBK h (by simpa using hn)
def Qiq:List UInt8:=235 :: (QFu 30 255++[127])
theorem QsE:num Qiq=P25-2:=by decide
def pinv (a:Nat):Nat:=a^(P25-2)%P25
theorem Qqt (l:List Value) (hl:l=QFu 32 (Value.int .u8 255)):(l.set 0 (.int .u8 235)).set 31 (.int .u8 127)=Qiq.map W8:=by
 subst hl
 rfl
set_option maxRecDepth 100000 in
set_option maxHeartbeats 2000000 in
theorem QAc (a:Nat) (ha:a<T256) (w:World):
 Calls Tryz.prog 138 #[E a] w fun e w'=>e= .returned (E (pinv a))∧Later w w':=by
 have h1:Blk ((w.alloc (.cells (EL a).toArray 228)).alloc (.cells (QFu 4 (.int .u64 0)).toArray 228)) w.heap.size 228 (EL a):=(Blk.new _ _ _).later (Qaa _ _)
 have h2:Blk ((w.alloc (.cells (EL a).toArray 228)).alloc (.cells (QFu 4 (.int .u64 0)).toArray 228)) (w.heap.size+1) 228 (QFu 4 (.int .u64 0)):=Blk.new' _ _ _ (by simp)
 have L0:Later w ((w.alloc (.cells (EL a).toArray 228)).alloc (.cells (QFu 4 (.int .u64 0)).toArray 228)):=(Qaa _ _).trans (Qaa _ _)
 have HP:=hid (QuF a ha)
 have HN:=hid QsE
 go_enter Tryz.func138,Tryz.ntmps138
 go_wp2_with (first
  | (refine QaE rfl _ _ 25 rfl 5 (.int .u8 0) 1 Tryz.underlying25 Qbq rfl _ _ _ _ 32 rfl rfl rfl rfl (by omega) (by omega) ?_;intro w2 hb2 hl2)
  | fail)
 have h12:=h1.later hl2
 have h22:=h2.later hl2
 have L2:=L0.trans hl2
 replace hb2:Blk w2 (w.heap.size+1+1) 5 (QFu 32 (.int .u8 0)):=Eq.mp (congrArg (fun g=>Blk w2 g 5 (QFu 32 (.int .u8 0))) (by simp)) hb2
 clear h1 h2 L0 hl2
 go_loopw [8] (fun i wr=>∃k:Nat,k≤32∧i= .int .i64 k∧Blk wr w.heap.size 228 (EL a)∧Blk wr (w.heap.size+1) 228 (QFu 4 (.int .u64 0))∧Blk wr (w.heap.size+1+1) 5 (QbK (QFu 32 (.int .u8 255)) (QFu 32 (.int .u8 0)) k)∧Later w wr) (fun i _=>32-(intOf i).toNat)
 case atStart=>exact⟨0,by omega,rfl,h12,h22,by rw[Qbw];exact hb2,L2⟩
 case round=>
  clear h12 h22 hb2 L2
  obtain⟨k,hk,rfl,h1,h2,h3,L⟩:=hrel
  by_cases hlt:k<32
  ·go_wp2_with (first
    | (refine Qac rfl rfl _ _ _ rfl _ _ _ _ h3 rfl ?hl rfl (by kernel_rfl) ?_;(case hl=>rw[QaD _ _ _ (by rfl)];exact hlt);intro v w6 hv hb6 ho6;simp[go_sem]at hv;subst hv)
    | fail)
   go_roundw
   case rel=>
    rw[Qa3 _ _ _ _ (by rfl) hlt (by rw[QHe,if_pos hlt])]at hb6
    exact⟨k+1,by omega,by go_num,h1.only ho6 (by omega),h2.only ho6 (by omega),hb6,L.only ho6 (by omega)⟩
   case measure=>simp[intOf];omega
  ·have HF:=hid (Qqt _ (Qb7 (QFu 32 (Value.int .u8 255)) (QFu 32 (.int .u8 0)) 32 rfl rfl))
   rw[show k=32 by omega]at h3
   have hkf:decide ((k:Int)<32)=false:=by simp;omega
   go_wp2_with (first
    | (refine Qac rfl rfl _ _ _ rfl _ _ _ _ h3 rfl ?hl rfl (by kernel_rfl) ?_;(case hl=>rw[QaD _ _ _ (by rfl)];decide);intro v w6 hv hb6 ho6;simp[go_sem]at hv;subst hv)
    | (refine Qac rfl rfl _ _ _ rfl _ _ _ _ hb6 rfl ?hl rfl (by kernel_rfl) ?_;(case hl=>rw[QGd,QaD _ _ _ (by rfl)];decide);intro v w7 hv hb7 ho7;simp[go_sem]at hv;subst hv
       rw[HF.out]at hb7
       have h17:=(h1.only ho6 (by omega)).only ho7 (by omega)
       have h27:=(h2.only ho6 (by omega)).only ho7 (by omega)
       have L7:=(L.only ho6 (by omega)).only ho7 (by omega))
    | (refine QbN rfl _ rfl h17 rfl ?_)
    | (go_at_call 157;(with_reducible refine (HP.out _ 32 _ Qiq _ (Qec hb7 rfl) (by omega)).mono ?_);rintro e w8 ⟨rfl,hl8⟩
       rw[HN.out])
    | (refine QaM rfl rfl _ _ rfl (h27.later hl8) rfl rfl rfl ?_;intro w9 hb9 ho9)
    | fail)
   exact bodyPost_ret (QhI rfl hb9 rfl) rfl ⟨rfl,(L7.trans hl8).only ho9 (by omega)⟩
def RdE (w:World) (A:Option Addr) (n:Nat) (ns:List Nat):Prop:=
 ns.length=n∧(0<n→∃b o,A=some ⟨b,o,none⟩∧b<w.heap.size∧∀j i v,j<n→(EL (ns.getD j 0))[i]?=some v→w.cell? ⟨b,o+j*4+i,none⟩=some v)
theorem RdE.later {w w':World} {A:Option Addr} {n:Nat} {ns:List Nat} (h:RdE w A n ns) (hl:Later w w'):RdE w' A n ns:=by
 refine⟨h.1,fun hn=>?_⟩
 obtain⟨b,o,hA,hb,hc⟩:=h.2 hn
 exact⟨b,o,hA,QFV hb hl.size,fun j i v hj hv=>(hl.below.cell (p:=⟨b,o+j*4+i,none⟩) hb).trans (hc j i v hj hv)⟩
theorem QvT (l:List Nat) (k:Nat) (h:k<l.length):(l.take (k+1)).sum=(l.take k).sum+l.getD k 0:=by
 rw[QF5 h,List.sum_append,QFC,QFB h]
 simp
def Qfv:List Nat→Nat
 | []=>1
 | x :: l=>x*Qfv l
theorem QhZ:∀l m:List Nat,Qfv (l++m)=Qfv l*Qfv m
 | [],m=>by simp[Qfv]
 | x :: l,m=>by rw[QFy,Qfv,QhZ l m,Qfv,QGO]
theorem Qti (l:List Nat) (k:Nat) (h:k<l.length):Qfv (l.take (k+1))=Qfv (l.take k)*l.getD k 0:=by
 rw[QF5 h,QhZ,QFC,QFB h]
 simp[Qfv]
theorem QlX {l:List Nat} {j:Nat} (h:j<l.length):l.getD j 0∈l:=by
 rw[QFC,QFB h]
 exact QGy h
set_option maxRecDepth 100000 in
set_option maxHeartbeats 2000000 in
theorem QAg (A:Option Addr) (n c:Nat) (ns:List Nat) (w:World) (hr:RdE w A n ns) (hns:∀x∈ns,x<T256) (hn:n≤140737488355328):
 Calls Tryz.prog 133 #[.slice A n c] w fun e w'=>e= .returned (E (ns.sum%P25))∧Later w w':=by
 have hnl:=hr.1
 go_enter Tryz.func133,Tryz.ntmps133
 go_wp2
 go_loopw [8] (fun i wr=>∃k:Nat,k≤n∧i= .int .i64 k∧Blk wr w.heap.size 228 (QFu 4 (.int .u64 0))∧Blk wr (w.heap.size+1) 228 (EL ((ns.take k).sum%P25))∧Later w wr) (fun i _=>n-(intOf i).toNat)
 case atStart=>exact⟨0,by omega,rfl,(Blk.new w _ (QFu 4 (Value.int .u64 0))).later (Qaa _ _),by rw[QHy];exact Blk.new' _ _ (QFu 4 (Value.int .u64 0)) (by simp),(Qaa _ _).trans (Qaa _ _)⟩
 case round=>
  obtain⟨k,hk,rfl,h1,h2,L⟩:=hrel
  by_cases hlt:k<n
  ·obtain⟨b,o,rfl,hb,hc⟩:=(hr.later L).2 (by omega)
   have HT:=hid (QvT ns k (by omega))
   have hx:ns.getD k 0<T256:=hns _ (QlX (by omega))
   have hc':=fun i v hv=>hc k i v hlt hv
   generalize ns.getD k 0=x at *
   have HC:=hid hc'
   clear hc hc' hr
   generalize hs:(ns.take k).sum=s at *
   have HSS:=hid hs
   clear hs
   go_wp2_with (first
    | (refine QaC rfl 228 _ rfl b (o+k*4) (EL x) ?hc ?hx _ Tryz.underlying228 rfl ?hi ?_;(case hx=>rfl);(case hi=>rw[Qam];exact QhP);(case hc=>intro j v hv;exact HC.out j v hv))
    | (refine QaM (g:=wr.heap.size) rfl rfl _ _ rfl (Blk.new _ _ (QFu 4 (.int .u64 0))) rfl rfl rfl ?_;intro w3 hb3 ho3)
    | fail)
   have L3:Later wr w3:=(Qaa _ _).only ho3 (by omega)
   have h23:=h2.later L3
   go_wp2_with fail
   refine Qad [([0,1],2)] [] [3,4] (by as_aux_lemma=>kernel_rfl) (by as_aux_lemma=>kernel_rfl) (by intro _ _ d _ _ h;cases d<;>exact h) ?_
   simp only[Qah,pick,QFv,QFw,QFx,QFy,QFz]
   repeat (first|go_big_quiet_skip|(go_big_quiet_want;(first|refine QcM _ rfl h23.drew rfl ?_|refine QcM _ rfl hb3.drew rfl ?_);simp only[Act.put,QFD,QFH,QFG];go_big_quiet_on)|(go_big_quiet_step (fail)))
   refine wpQuiet_nil ?_
   go_wp2_with fail
   (with_reducible refine (Qez x hx _).mono ?_);rintro e w4 ⟨rfl,hl4⟩
   go_wp2_with fail
   try refine⟨by first|assumption|exact Qab _|exact Qaa _ _|exact Later.refl _,?_⟩
   try simp only[Qah,pick,QFv,QFw,QFx,QFy,QFz]
   repeat (go_big_quiet_step (fail))
   refine wpQuiet_nil ?_
   go_wp2_with fail
   (with_reducible refine (QpI (s%P25) (x%P25) (by have:=QF1 s Qbt;have:=QF1 x Qbt;unfold P25 at *;unfold T256;omega) _).mono ?_);rintro e w5 ⟨rfl,hl5⟩
   have h25:=((h23.drew).later hl4).later hl5
   go_wp2_with (first
    | (refine QaM rfl rfl _ _ rfl h25 rfl rfl (Qam _) ?_;intro w6 hb6 ho6)
    | fail)
   have L5:Later wr w5:=(((L3.trans (Qab _)).trans hl4).trans hl5)
   go_roundw
   case rel=>
    refine⟨k+1,by omega,by go_num,(h1.later L5).only ho6 (by omega),?_,(L.trans L5).only ho6 (by omega)⟩
    rw[HT.out]
    first|exact hb6|(rw [←QHL];exact hb6)|(rw [QHL];exact hb6)
   case measure=>simp[intOf];omega
  ·rw[show k=n by omega,QFJ (by omega)]at h2
   have hkf:decide ((k:Int)<(n:Int))=false:=by simp;omega
   go_wp2_with (first
    | (refine QbN rfl _ rfl h2 rfl ?_)
    | (refine QaM rfl rfl _ _ rfl h1 rfl rfl rfl ?_;intro w9 hb9 ho9)
    | fail)
   exact bodyPost_ret (QhI rfl hb9 rfl) rfl ⟨rfl,L.only ho9 (by omega)⟩
theorem Qi2 {P:Program} {t e:TypeId} (s:Nat) (ht:P.underlying t=some (.slice e)) (hs:(P.info? e).map (·.size)=some s) (A:Option Addr) (n c:Nat) (kl:IntKind) (l:Nat) (h1:l≤n) (W:World):
 (Instr.sliceAt t (.slice A n c) (some (.int kl l)) none none).run P W= .ok (.slice (if c=l then A else A.map (·.add (l*s))) (n-l) (c-l)) W:=by
 have he:P.elem t=e:=by unfold Program.elem;rw[ht]
 have ht':P.underlying t=some (.slice (P.elem t)):=by rw[he];exact ht
 rw[run_sliceAt_slice _ _ _ _ _ _ ht',run_slice_l (ht:=ht') (h0:=by omega) (h1:=by omega),he]
 cases hq:P.info? e with
 | none=>simp[hq]at hs
 | some i=>
   have hsz:i.size=s:=by simpa [hq] using hs
   simp[sizeOf,typeInfo,hq,hsz,sliced]
theorem RdE.cut1 {w:World} {A:Option Addr} {n:Nat} {ns:List Nat} (h:RdE w A n ns) (h1:1<n):RdE w (A.map (·.add 4)) (n-1) ns.tail:=by
 refine⟨by rw[List.length_tail,h.1],fun hn=>?_⟩
 obtain⟨b,o,rfl,hb,hc⟩:=h.2 (by omega)
 refine⟨b,o+4,by rw[QHg,Qda],hb,fun j i v hj hv=>?_⟩
 have e:ns.tail.getD j 0=ns.getD (j+1) 0:=by rw[QFC,QFC,List.getElem?_tail]
 rw[e]at hv
 have:=hc (j+1) i v (by omega) hv
 rw[show o+4+j*4+i=o+(j+1)*4+i by omega]
 exact this
set_option maxRecDepth 100000 in
set_option maxHeartbeats 2000000 in
theorem Qo5 (A:Option Addr) (n c:Nat) (ns:List Nat) (w:World) (hr:RdE w A n ns) (hns:∀x∈ns,x<T256) (hn:n≤c) (hc0:n≤140737488355328):
 Calls Tryz.prog 136 #[.slice A n c] w fun e w'=>e= .returned (E (Qfv ns%P25))∧Later w w':=by
 have hnl:=hr.1
 have hb0:=Blk.new w 228 (QFu 4 (Value.int .u64 0))
 rcases Nat.eq_zero_or_pos n with hz|hz
 ·subst hz
  obtain rfl:ns=[]:=QGc hnl
  go_enter Tryz.func136,Tryz.ntmps136
  go_wp2_with (first
   | (go_at_call 111;(with_reducible refine (of_1 _).mono ?_);rintro e w2 ⟨rfl,hl2⟩)
   | (refine QaM rfl rfl _ _ rfl (hb0.later hl2) rfl rfl rfl ?_;intro w3 hb3 ho3)
   | fail)
  exact bodyPost_ret (QhI rfl hb3 rfl) rfl ⟨rfl,((Qaa _ _).trans hl2).only ho3 (by omega)⟩
 ·have hne:((n:Int)==0)=false:=by simp;omega
  have hlt0:decide ((0:Int)<(n:Int))=true:=by simp;omega
  obtain⟨T,d,hcutT,hT⟩:∃(T:Option Addr) (d:Nat),(∀ W,(Instr.sliceAt 279 (.slice A n c) (some (.int .i64 1)) none none).run Tryz.prog W= .ok (.slice T (n-1) d) W)∧RdE w T (n-1) ns.tail:=by
   refine⟨_,_,Qi2 4 Tryz.underlying279 QhP A n c .i64 1 hz,?_⟩
   by_cases h1:1<n
   ·rw[if_neg (by omega)]
    exact hr.cut1 h1
   ·refine⟨by rw[List.length_tail,hnl],fun h=>by omega⟩
  obtain⟨b,o,rfl,hb,hc⟩:=hr.2 hz
  have hx0:ns.getD 0 0<T256:=hns _ (QlX (by omega))
  have hc0':∀i v,(EL (ns.getD 0 0))[i]?=some v→w.cell? ⟨b,o+i,none⟩=some v:=fun i v hv=>by have:=hc 0 i v hz hv;rwa [QHJ,QG6]at this
  have HX:=hid (show ns.take 1=[ns.getD 0 0] by cases ns with|nil=>simp at hnl;omega|cons y l=>rfl)
  have hnt:∀x∈ns.tail,x<T256:=fun x hx=>hns x (List.mem_of_mem_tail hx)
  have HTL:=hid (show ∀k,k<n-1→Qfv (ns.take (k+1+1))=Qfv (ns.take (k+1))*ns.tail.getD k 0 by
   intro k hk
   rw[Qti ns (k+1) (by omega)]
   congr 1
   rw[QFC,QFC,List.getElem?_tail])
  have HC0:=hid hc0'
  clear hc hc0' hr
  generalize hX0:ns.getD 0 0=x0 at *
  go_enter Tryz.func136,Tryz.ntmps136
  clear hX0
  go_wp2_with (first
   | (refine QaC rfl 228 _ rfl b o (EL x0) ?hc ?hx _ Tryz.underlying228 rfl ?hi ?_;(case hx=>rfl);(case hi=>rw[Qam];exact QhP);(case hc=>intro j v hv;exact ((Qaa w _).below.cell (p:=⟨b,o+j,none⟩) hb).trans (HC0.out j v hv)))
   | (go_at_call 132;(with_reducible refine (Qez x0 hx0 _).mono ?_);rintro e w2 ⟨rfl,hl2⟩)
   | (refine QaM rfl rfl _ _ rfl (Blk.new w2 _ (QFu 4 (.int .u64 0))) rfl rfl rfl ?_;intro w3 hb3 ho3)
   | fail)
  have hb03:=((hb0.later hl2).later (Qaa _ (.cells (QFu 4 (.int .u64 0)).toArray 228))).only ho3 (Nat.ne_of_lt (hb0.later hl2).lt)
  have L3:Later w w3:=(((Qaa _ _).trans hl2).trans (Qaa _ _)).only ho3 (by have:=((Qaa w _).trans hl2).size;omega)
  have hg:w.heap.size<w2.heap.size:=(hb0.later hl2).lt
  generalize w2.heap.size=g at *
  clear hb0 hl2 ho3 HC0
  go_loopw [17] (fun i wr=>∃k:Nat,k≤n-1∧i= .int .i64 k∧Blk wr w.heap.size 228 (QFu 4 (.int .u64 0))∧Blk wr g 228 (EL (Qfv (ns.take (k+1))%P25))∧Later w wr) (fun i _=>n-1-(intOf i).toNat)
  case atStart=>exact⟨0,by omega,rfl,hb03,by rw[QFX,HX.out];simpa [Qfv] using hb3,L3⟩
  case round=>
   clear hb03 hb3 L3
   obtain⟨k,hk,rfl,h1,h2,L⟩:=hrel
   by_cases hlt:k<n-1
   ·obtain⟨b1,o1,rfl,hb1,hc1⟩:=(hT.later L).2 (by omega)
    have HT:=hid (HTL.out k hlt)
    have hx:ns.tail.getD k 0<T256:=hnt _ (QlX (by rw[List.length_tail];omega))
    have hc':=fun i v hv=>hc1 k i v hlt hv
    generalize ns.tail.getD k 0=x at *
    have HC:=hid hc'
    clear hc1 hc'
    obtain⟨y,hy⟩:∃y,y=Qfv (ns.take (k+1))%P25:=⟨_,rfl⟩
    rw[←hy]at h2
    have hyT:y<T256:=by rw[hy];exact QGx (QF1 _ Qbt) (by decide)
    have HY:=hid hy
    clear hy
    have hkb:decide ((k:Int)<((n-1:Nat):Int))=true:=by simp;omega
    have hkx:(k<n-1)=True:=eq_true hlt
    go_wp2_with (first
     | (refine QaC rfl 228 _ rfl b1 (o1+k*4) (EL x) ?hc ?hx _ Tryz.underlying228 rfl ?hi ?_;(case hx=>rfl);(case hi=>rw[Qam];exact QhP);(case hc=>intro j v hv;exact HC.out j v hv))
     | (refine QaM (g:=wr.heap.size) rfl rfl _ _ rfl (Blk.new _ _ (QFu 4 (.int .u64 0))) rfl rfl rfl ?_;intro w4 hb4 ho4
        have L4:Later wr w4:=(Qaa _ _).only ho4 (by omega)
        have h24:=h2.later L4)
     | (refine QbN rfl _ rfl h24 rfl ?_)
     | (refine QbN rfl _ rfl hb4 rfl ?_)
     | (go_at_call 137;(with_reducible refine (Qep y x hyT hx _).mono ?_);rintro e w5 ⟨rfl,hl5⟩)
     | (refine QaM rfl rfl _ _ rfl (h24.later hl5) rfl rfl (Qam _) ?_;intro w6 hb6 ho6)
     | fail)
    go_roundw
    case rel=>
     refine⟨k+1,by omega,by go_num,((h1.later L4).later hl5).only ho6 (by omega),?_,((L.trans L4).trans hl5).only ho6 (by omega)⟩
     rw[HT.out,QGT,←HY.out]
     first|exact hb6|(rw [QGT,HY.out,QG3,←HY.out]at hb6;exact hb6)
    case measure=>simp[intOf];omega
   ·rw[show k+1=n by omega,QFJ (by omega)]at h2
    have hkf:decide ((k:Int)<((n-1:Nat):Int))=false:=by simp;omega
    have hkx:(k<n-1)=False:=eq_false hlt
    go_wp2_with (first
     | (refine QbN rfl _ rfl h2 rfl ?_)
     | (refine QaM rfl rfl _ _ rfl h1 rfl rfl rfl ?_;intro w9 hb9 ho9)
     | fail)
    exact bodyPost_ret (QhI rfl hb9 rfl) rfl ⟨rfl,L.only ho9 (by omega)⟩
def nb (n:Nat):List UInt8:=(dig 256 32 n).map QGa
abbrev BB (n:Nat):Value:=.agg ((nb n).map W8).toArray
theorem Qch (n:Nat):(nb n).length=32:=by rw[nb,QFA,QaT]
theorem Qyu (n i:Nat) (h:i<32):(nb n)[i]?=some (QGa (n/256^i%256)):=by rw[nb,QFN,QgF _ _ _ _ h];rfl
theorem QfS:∀l:List Nat,(∀ x∈l,x<256)→(l.map QGa).map QHQ=l
 | [],_=>rfl
 | x :: l,h=>by
   rw[QFW,QFW,QfS l (fun y hy=>h y (by simp[hy])),QGK,QFT (h x (by simp))]
theorem QyI (n:Nat) (h:n<T256):num (nb n)=n:=by
 rw[num,nb,QfS _ (Qeu (by decide) 32 n),QeI,QFT (show n<256^32 from h)]
theorem QmR (bs:List UInt8):num bs<256^bs.length:=by
 have:=Qy3 (B:=256) (bs.map QHQ) (by intro x hx;obtain⟨y,_,rfl⟩:=QGf.1 hx;exact y.toNat_lt)
 rwa [QFA]at this
theorem Qmd (bs:List UInt8) (k:Nat) (h:k<bs.length):num (bs.take (k+1))=num (bs.take k)+256^k*(bs.getD k 0).toNat:=by
 have:=Qfk 256 (bs.map QHQ) k (by simpa using h)
 rw[←QG1,←QG1]at this
 have e:(bs.map QHQ).getD k 0=(bs.getD k 0).toNat:=by
  rw[QFC,QFC,QFN,QFB h]
  rfl
 rw[e]at this
 exact this
theorem Qjb (k:Nat):256^k=B64^(k/8)*256^(k%8):=by
 have e:B64=256^8:=by decide
 rw[e,←QHb,←QGW,QGB]
theorem Qrm (k:Nat):256^k=B32^(k/4)*256^(k%4):=by
 have e:B32=256^4:=by decide
 rw[e,←QHb,←QGW,QGB]
theorem QgC (x a b c:Nat) (ha:0<a) (h:b*c ∣ a) (_hb:0<b):x%a/b%c=x/b%c:=by
 obtain⟨d,rfl⟩:=h
 rw[QGO,Nat.mod_mul_right_div_self,Nat.mod_mul_right_mod]
theorem Qxc (n k:Nat) (_hk:k<32):lim n (k/8)/2^(8*(k%8))%256=n/256^k%256:=by
 rw[Qjb k,←QGj,lim,QHb]
 generalize n/B64^(k/8)=x
 refine QgC x B64 (256^(k%8)) 256 Qa6 ?_ (QHw (by decide))
 have:B64=256^8:=by decide
 rw[this,←QGs]
 exact Nat.pow_dvd_pow 256 (by omega)
theorem Qwe (n k:Nat) (_hk:k<32):lem n (k/4)/2^(8*(k%4))%256=n/256^k%256:=by
 rw[Qrm k,←QGj,lem,QHb]
 generalize n/B32^(k/4)=x
 refine QgC x B32 (256^(k%4)) 256 Qbj ?_ (QHw (by decide))
 have:B32=256^4:=by decide
 rw[this,←QGs]
 exact Nat.pow_dvd_pow 256 (by omega)
theorem QAP (V x k:Nat) (_hk:k<32) (hV:V<256^k) (hx:x<256):(EL V).set (k/8) (n64 (lim V (k/8)+x*2^(8*(k%8))))=EL (V+256^k*x):=by
 have hp:=Qjb k
 have hB:B64=256^8:=by decide
 have hlt:V+256^k*x<256^(k+1):=by
  rw[QGs]
  have:256^k*x≤256^k*255:=QG2 _ (by omega)
  omega
 have hbound:256^(k+1)≤B64^(k/8+1):=by
  rw[hB,←QHb]
  exact QGq (by decide) (by omega)
 apply QHA (by rw[QGd,Qam,Qam])
 intro j h1 h2
 rw[Qam]at h2
 rw[List.getElem_set]
 split
 ·rename_i hj
  subst hj
  rw[QvL]
  congr 1
  rw[lim,lim,hp,QGO,QG7 _ _ (QHw Qa6),QHb]
  have hV1:V/B64^(k/8)<256^(k%8):=QGz (by rw[←hp];exact hV)
  have hle:256^(k%8)*256≤B64:=by
   rw[hB,←QGs]
   exact QGq (by decide) (by omega)
  have hxx:256^(k%8)*x≤256^(k%8)*255:=QG2 _ (by omega)
  have e:(2:Nat)^8=256:=by decide
  rw[e,QGF x]
  rw[QFT (show V/B64^(k/8)<B64 by omega),QFT (show V/B64^(k/8)+256^(k%8)*x<B64 by omega)]
 ·rename_i hj
  rw[QvL,QvL]
  congr 1
  rcases QGE j (k/8) with hl|hl
  ·rw[lim,lim,hp]
   obtain⟨d,hd⟩:∃d,k/8=j+1+d:=⟨k/8-j-1,by omega⟩
   rw[hd,QGW,QGs,QGO,QGO,QGO,QG7 _ _ (QHw Qa6),Nat.add_mul_mod_self_left]
  ·have hjj:k/8+1≤j:=by omega
   have hpp:B64^(k/8+1)≤B64^j:=QGq (by decide) hjj
   have hVk:V<B64^j:=QFV hV (QGh (QGq (by decide) (by omega)) (QGh hbound hpp))
   rw[lim,lim,QGn hVk,QGn (QFV hlt (QGh hbound hpp))]
theorem QCY (a s y:Nat) (h:a<2^s):a ||| (y*2^s)=a+y*2^s:=by
 have:=Nat.two_pow_add_eq_or_of_lt h y
 rw[Nat.or_comm,QGF y,←this,QHr]
theorem QzY (V k:Nat) (hV:V<256^k):lim V (k/8)<2^(8*(k%8)):=by
 have hV1:V/B64^(k/8)<256^(k%8):=QGz (by rw[←Qjb];exact hV)
 rw[lim,QHb]
 exact QGZ (Nat.mod_le _ _) hV1
@[go_sem] theorem QEa (T:TypeId) (x:Nat) (hx:x<B64) (k:UInt64):binOp .shr T (n64 x) (W64 k)=pure (n64 (x/2^(cnt k))):=by
  have:=Qz7 T x hx .u64 (k.toNat:Int) (by omega)
  rw[QHE]at this
  exact this
@[go_sem] theorem QES (T:TypeId) (x:Nat) (hx:x<B64) (y:UInt64):binOp .or T (n64 x) (W64 y)=pure (n64 (x ||| y.toNat)):=by
  rw[n64,QsA,Qij]
  rw[UInt64.toNat_or,tn64 hx,QFT (show (x ||| y.toNat)<B64 from Nat.or_lt_two_pow (n:=64) hx y.toNat_lt)]
theorem Qqu (i:Nat) (h:i<32):cnt (8*QGH ((i:Int)%8))=8*(i%8):=by
 have:∀k:Fin 32,cnt (8*QGH ((k.val:Int)%8))=8*(k.val%8):=by decide
 exact this ⟨i,h⟩
theorem Qbk:(Tryz.prog.info? 45).map (·.size)=some 32:=by kernel_rfl
theorem QCh {n m:Nat} (h:n%256=m%256):n8 n=n8 m:=by
 rw[n8]
 apply n8_w
 rw[QGK,←h]
set_option maxRecDepth 100000 in
set_option maxHeartbeats 2000000 in
theorem QsK (n:Nat) (hn:n<T256) (w:World):
 Calls Tryz.prog 114 #[E n] w fun e w'=>e= .returned (BB (n%P25))∧Later w w':=by
 have h1:Blk ((w.alloc (.cells (EL n).toArray 228)).alloc (.cells (QFu 32 (Value.int .u8 0)).toArray 45)) w.heap.size 228 (EL n):=(Blk.new _ _ _).later (Qaa _ _)
 have h2:Blk ((w.alloc (.cells (EL n).toArray 228)).alloc (.cells (QFu 32 (Value.int .u8 0)).toArray 45)) (w.heap.size+1) 45 (QFu 32 (.int .u8 0)):=Blk.new' _ _ _ (by simp)
 have L0:Later w ((w.alloc (.cells (EL n).toArray 228)).alloc (.cells (QFu 32 (Value.int .u8 0)).toArray 45)):=(Qaa _ _).trans (Qaa _ _)
 have hlS:((nb (n%P25)).map W8).length=32:=by rw[QFA,Qch]
 have HGet:=hid (fun k (h:k<32)=>show ((nb (n%P25)).map W8)[k]?=some (n8 (n%P25/256^k%256)) by rw[QFN,Qyu _ _ h];rfl)
 go_enter Tryz.func114,Tryz.ntmps114
 go_wp2_with (first
  | (refine QbN rfl _ rfl h1 rfl ?_)
  | (go_at_call 132;(with_reducible refine (Qez n hn _).mono ?_);rintro e w2 ⟨rfl,hl2⟩)
  | (refine QaM rfl rfl _ _ rfl (h1.later hl2) rfl rfl (Qam _) ?_;intro w3 hb3 ho3
     have h23:=(h2.later hl2).only ho3 (by omega)
     have L3:=(L0.trans hl2).only ho3 (by omega))
  | fail)
 have hg:w.heap.size+1<w3.heap.size:=h23.lt
 clear h1 h2 L0 hl2 ho3
 generalize hM:n%P25=M at *
 have HM:=hid hM
 clear hM
 go_loopw [7] (fun i wr=>∃k:Nat,k≤32∧i= .int .i64 k∧Blk wr w.heap.size 228 (EL M)∧Blk wr (w.heap.size+1) 45 (QFu 32 (.int .u8 0))∧Blk wr w3.heap.size 45 (QbK ((nb M).map W8) (QFu 32 (.int .u8 0)) k)∧Later w wr) (fun i _=>32-(intOf i).toNat)
 case atStart=>exact⟨0,by omega,rfl,hb3.later (Qaa _ _),h23.later (Qaa _ _),by rw[Qbw];exact Blk.new _ _ (QFu 32 (Value.int .u8 0)),L3.trans (Qaa _ _)⟩
 case round=>
  clear hb3 h23
  have hL3:=L3.size
  clear L3
  obtain⟨k,hk,rfl,h1,h2,h3,L⟩:=hrel
  by_cases hlt:k<32
  ·have d0:=h1.cellD (k/8) (QcZ M (k/8) (by omega))
   have hct:=Qqu k hlt
   have hbl:=hid (Qxc M k hlt)
   go_wp2_with (first
    | (refine Qac rfl rfl _ _ _ rfl _ _ _ _ h3 rfl ?hl rfl (by kernel_rfl) ?_;(case hl=>rw[QaD _ _ _ (by rw[hlS];rfl)];exact hlt);intro v w6 hv hb6 ho6;simp[go_sem]at hv;subst hv)
    | fail)
   go_roundw
   case rel=>
    rw[QCh (show lim M (k/8)/2^(8*(k%8))%256=M/256^k%256%256 by rw[hbl.out,QG3]),Qa3 _ _ _ _ (by rw[hlS];rfl) hlt (HGet.out k hlt)]at hb6
    exact⟨k+1,by omega,by go_num,h1.only ho6 (by omega),h2.only ho6 (by omega),hb6,L.only ho6 (by omega)⟩
   case measure=>simp[intOf];omega
  ·rw[show k=32 by omega,Qb7 _ _ _ hlS rfl]at h3
   have hkf:decide ((k:Int)<32)=false:=by simp;omega
   go_wp2_with (first
    | (refine Qbo rfl 45 _ rfl _ _ _ h3 rfl _ Tryz.underlying45 rfl 32 Qbk hlS ?_)
    | (refine Qaj rfl rfl 45 _ _ rfl _ _ _ _ h2 rfl rfl 32 Qbk hlS rfl (Qay _) ?_;intro w9 hb9 ho9)
    | fail)
   exact bodyPost_ret (QaI rfl _ _ _ _ ((nb M).map W8) _ hb9 rfl Tryz.underlying45 rfl (by rw[hlS];exact Qbk)) rfl ⟨by rw[HM.out],L.only ho9 (by omega)⟩
theorem Qxt (x:UInt8) (r:Nat) (hr:r<8):(Qj3 x.toUInt64 (8*r)).toNat=x.toNat*2^(8*r):=by
 rw[Qj3]
 show (BitVec.toNat _)=_
 rw[QG9,QHd]
 show x.toUInt64.toNat*_%_=_
 rw[UInt8.toNat_toUInt64,QFT]
 have hx:=x.toNat_lt
 have h1:2^(8*r)≤2^56:=QGq (by decide) (by omega)
 have h2:x.toNat*2^(8*r)≤255*2^56:=Nat.mul_le_mul (by omega) h1
 omega
def QcE (bs:List UInt8):Nat:=if bs.length=32 then num bs%T255%P25 else 0
def Qca (bs:List UInt8):Nat:=if bs.length=32 then 0 else 2
set_option maxRecDepth 100000 in
set_option maxHeartbeats 2000000 in
theorem QxC (A:Option Addr) (n c:Nat) (bs:List UInt8) (w:World) (hr:RdB w A n bs) (hn:n≤140737488355328):
 Calls Tryz.prog 110 #[.slice A n c] w fun e w'=>e= .returned (.tuple #[E (QcE bs),.int .i64 (Qca bs:Nat)])∧Later w w':=by
 have hbl:=hr.len
 have hb0:=Blk.new w 228 (QFu 4 (Value.int .u64 0))
 by_cases h32:n=32
 ·subst h32
  have hRN:=hid (show QcE bs=num bs%T255%P25 by rw[QcE,if_pos hbl])
  have hRE:=hid (show Qca bs=0 by rw[Qca,if_pos hbl])
  obtain⟨b,o,rfl,hb,hc⟩:=hr.at_ (by omega)
  have HC:=hid hc
  have HT:=hid (fun k (h:k<32)=>Qmd bs k (by omega))
  have HL:=hid (fun k (h:k≤32)=>show num (bs.take k)<256^k by have:=QmR (bs.take k);rwa [QFY,QGG (by omega)]at this)
  have HF:=hid (show bs.take 32=bs from QFJ (by omega))
  clear hc hr
  go_enter Tryz.func110,Tryz.ntmps110
  go_wp2
  go_loopw [13] (fun i wr=>∃k:Nat,k≤32∧i= .int .i64 k∧Blk wr w.heap.size 228 (QFu 4 (.int .u64 0))∧Blk wr (w.heap.size+1) 228 (EL (num (bs.take k)))∧Later w wr) (fun i _=>32-(intOf i).toNat)
  case atStart=>exact⟨0,by omega,rfl,hb0.later (Qaa _ _),by rw[QHy];exact Blk.new' _ _ (QFu 4 (Value.int .u64 0)) (by simp),(Qaa _ _).trans (Qaa _ _)⟩
  case round=>
   clear hb0
   obtain⟨k,hk,rfl,h1,h2,L⟩:=hrel
   by_cases hlt:k<32
   ·have d0:=h2.cellD (k/8) (QcZ _ (k/8) (by omega))
    have c0:wr.cell? ⟨b,o+k,none⟩=some (W8 (bs.getD k 0)):=(L.below.cell (p:=⟨b,o+k,none⟩) hb).trans (HC.out k hlt)
    have hct:=Qqu k hlt
    have hsb:=Qxt (bs.getD k 0) (k%8) (by omega)
    have HM:=hid (QAP (num (bs.take k)) (bs.getD k 0).toNat k hlt (HL.out k (by omega)) (UInt8.toNat_lt _))
    have HO:=hid (QCY (lim (num (bs.take k)) (k/8)) (8*(k%8)) (bs.getD k 0).toNat (QzY _ k (HL.out k (by omega))))
    have HTk:=hid (HT.out k hlt)
    generalize bs.getD k 0=x at *
    generalize num (bs.take k)=V at *
    go_wp2_with (first
     | (refine Qac rfl rfl _ _ _ rfl _ _ _ _ h2 rfl ?hl rfl (by kernel_rfl) ?_;(case hl=>rw[Qam];omega);intro v w6 hv hb6 ho6;simp[go_sem]at hv;subst hv)
     | fail)
    go_roundw
    case rel=>
     refine⟨k+1,by omega,by go_num,h1.only ho6 (by omega),?_,L.only ho6 (by omega)⟩
     rw[HTk.out,←HM.out,←HO.out]
     first|exact hb6|(rw [hsb]at hb6;exact hb6)
    case measure=>simp[intOf];omega
   ·rw[show k=32 by omega,HF.out]at h2
    have hkf:decide ((k:Int)<32)=false:=by simp;omega
    have d3:=h2.cellD 3 (QcZ _ 3 (by omega))
    have hlT:num bs%T255<T256:=QGx (QF1 _ (by decide)) (by decide)
    go_wp2_with (first
     | (refine Qac rfl rfl _ _ _ rfl _ _ _ _ h2 rfl ?hl rfl (by kernel_rfl) ?_;(case hl=>rw[Qam];omega);intro v w6 hv hb6 ho6;simp[go_sem]at hv;subst hv
        rw[Qp9]at hb6
        have h16:=h1.only ho6 (by omega)
        have L6:=L.only ho6 (by omega))
     | (refine QbN rfl _ rfl hb6 rfl ?_)
     | (go_at_call 132;(with_reducible refine (Qez (num bs%T255) hlT _).mono ?_);rintro e w7 ⟨rfl,hl7⟩)
     | (refine QaM rfl rfl _ _ rfl (h16.later hl7) rfl rfl rfl ?_;intro w9 hb9 ho9)
     | fail)
    exact bodyPost_ret (Qaf rfl _ _ _ _ _ _ hb9 rfl Tryz.underlying228 rfl (by rw[Qam];exact QhP)) rfl ⟨by rw[hRN.out,hRE.out];rfl,(L6.trans hl7).only ho9 (by omega)⟩
 ·have hRN:=hid (show QcE bs=0 by rw[QcE,if_neg (by omega)])
  have hRE:=hid (show Qca bs=2 by rw[Qca,if_neg (by omega)])
  have hne:((n:Int) != 32)=true:=by simp;omega
  go_enter Tryz.func110,Tryz.ntmps110
  go_wp2_with (first
   | (refine Qao rfl 228 _ rfl (EL 0) ?hb ?_;(case hb=>kernel_rfl))
   | (refine QaM (n:=0) rfl rfl _ _ rfl hb0 rfl rfl rfl ?_;intro w9 hb9 ho9)
   | fail)
  exact bodyPost_ret (Qaf rfl _ _ _ _ _ _ hb9 rfl Tryz.underlying228 rfl (by rw[Qam];exact QhP)) rfl ⟨by rw[hRN.out,hRE.out];rfl,(Qaa _ _).only ho9 (by omega)⟩
theorem Qxy (bs:List UInt8) (j:Nat) (h:j<bs.length):num bs/256^j%256=(bs.getD j 0).toNat:=by
 have e:=QlQ (B:=256) (bs.map QHQ) (by intro x hx;obtain⟨y,_,rfl⟩:=QGf.1 hx;exact y.toNat_lt)
 rw[QFA]at e
 have g:=QdN 256 bs.length (num bs) j h
 rw[num,e]at g
 rw[num,←g,QFC,QFC,QFN,QFB h]
 rfl
theorem QuC (bs:List UInt8) (i:Nat) (h:i/8<bs.length):num bs/2^i%2=(bs.getD (i/8) 0).toNat/2^(i%8)%2:=by
 rw[←Qxy bs _ h]
 have e:(2:Nat)^i=256^(i/8)*2^(i%8):=by
  have:(256:Nat)=2^8:=by decide
  rw[this,←QHb,←QGW,QGB]
 rw[e,←QGj]
 generalize num bs/256^(i/8)=x
 refine (QgC x 256 (2^(i%8)) 2 (by decide) ?_ (QHw (by decide))).symm
 have:(256:Nat)=2^8:=by decide
 rw[this,←QGs]
 exact Nat.pow_dvd_pow 2 (by omega)
theorem QBk (x:UInt8) (m:Nat):(shr8 x m%2==1)=decide (x.toNat/2^m%2=1):=by
 have e:(shr8 x m).toNat=x.toNat/2^m:=by
  rw[shr8]
  show (BitVec.toNat _)=_
  rw[QGu,QGp]
  rfl
 rw[QGk,beq_iff_eq,decide_eq_true_eq,←QGl,UInt8.toNat_mod,e]
 rfl
theorem QzO (a V i P:Nat):a^(V%2^(i+1))%P=(a^(V%2^i)%P)*((a^2^i%P)^(V/2^i%2))%P:=by
 rw[Qcc,QGW,QGT,QHb,←Qet (a^2^i),QGT (a^(V%2^i)%P),QG3,QG3,Nat.mul_mod_mod]
set_option maxRecDepth 100000 in
set_option maxHeartbeats 2000000 in
theorem Qt5 (a:Nat) (ha:a<T256) (A:Option Addr) (n c:Nat) (bs:List UInt8) (w:World) (hr:RdB w A n bs) (hn:n≤140737488355328):
 Calls Tryz.prog 101 #[NN a,.slice A n c] w fun e w'=>e= .returned (NN (a^num bs%P25))∧Later w w':=by
 have hbl:=hr.len
 have h1:Blk ((w.alloc (.cells (NL a).toArray 141)).alloc (.cells (QFu 8 (.int .u32 0)).toArray 141)) w.heap.size 141 (NL a):=(Blk.new _ _ _).later (Qaa _ _)
 have h2:Blk ((w.alloc (.cells (NL a).toArray 141)).alloc (.cells (QFu 8 (.int .u32 0)).toArray 141)) (w.heap.size+1) 141 (QFu 8 (.int .u32 0)):=Blk.new' _ _ _ (by simp)
 have L0:Later w ((w.alloc (.cells (NL a).toArray 141)).alloc (.cells (QFu 8 (.int .u32 0)).toArray 141)):=(Qaa _ _).trans (Qaa _ _)
 go_enter Tryz.func101,Tryz.ntmps101
 go_wp2_with (first
  | (refine Qao rfl 141 _ rfl (NL 1) ?hb ?_;(case hb=>kernel_rfl))
  | (refine Qav (g:=w.heap.size+1+1) (n:=1) rfl rfl _ _ rfl (Blk.new' _ _ (QFu 8 (.int .u32 0)) (by simp)) rfl rfl rfl ?_;intro w3 hb3 ho3
     have h13:=(h1.later (Qaa _ _)).only ho3 (by omega)
     have h23:=(h2.later (Qaa _ _)).only ho3 (by omega)
     have L3:=(L0.alloc _).only ho3 (by omega))
  | (refine Qa5 rfl _ rfl h13 rfl ?_)
  | (refine Qav rfl rfl _ _ rfl (Blk.new w3 _ (QFu 8 (.int .u32 0))) rfl rfl rfl ?_;intro w4 hb4 ho4)
  | fail)
 have hz3:=hb3.lt
 have h14:=(h13.later (Qaa _ _)).only ho4 (by omega)
 have h24:=(h23.later (Qaa _ _)).only ho4 (by omega)
 have h34:=(hb3.later (Qaa _ _)).only ho4 (by omega)
 have L4:=(L3.alloc _).only ho4 (by have:=L3.size;omega)
 generalize w3.heap.size=g at *
 clear h13 h23 hb3 L3 ho3 ho4 h1 h2 L0
 have hw8:IntKind.i64.wrap (8*(n:Int))=8*(n:Int):=by rw[IntKind.wrap_i64];omega
 have HW8:=hid hw8
 clear hw8
 go_loopw [7] (fun i wr=>∃k m s:Nat,k≤8*n∧i= .int .i64 k∧m<T256∧s<T256∧Hid (m%P25=a^(num bs%2^k)%P25)∧Hid (s%P25=a^2^k%P25)∧Blk wr (w.heap.size+1) 141 (QFu 8 (.int .u32 0))∧Blk wr (w.heap.size+1+1) 141 (NL m)∧Blk wr g 141 (NL s)∧Later w wr) (fun i _=>8*n-(intOf i).toNat)
 case atStart=>exact⟨0,1,a,by omega,rfl,by decide,ha,hid (by rw[QHK,QHP,QHK]),hid (by rw[QHK,Nat.pow_one]),h24,h34,hb4,L4⟩
 case round=>
  clear h14 h24 h34 hb4 L4
  obtain⟨k,m,s,hk,rfl,hm,hs,HM,HSq,h2,h3,h4,L⟩:=hrel
  by_cases hlt:k<8*n
  ·obtain⟨b,o,rfl,hb,hc⟩:=hr.at_ (by omega)
   have d0:wr.cell? ⟨b,o+k/8,none⟩=some (W8 (bs.getD (k/8) 0)):=(L.below.cell (p:=⟨b,o+k/8,none⟩) hb).trans (hc _ (by omega))
   have HBit:=hid (QuC bs k (by omega))
   have hbr:=QBk (bs.getD (k/8) 0) (k%8)
   have HLow:=hid (QzO a (num bs) k P25)
   have hkl:decide ((k:Int)<8*(n:Int))=true:=by simp;omega
   have hkx:(k<8*n)=True:=eq_true hlt
   have HSS:=hid (show s*s%P25%P25=a^2^(k+1)%P25 by
    rw[QG3,QGT,HSq.out,←QGT,←QGW,QGs]
    congr 2
    omega)
   generalize bs.getD (k/8) 0=x at *
   clear hc hr
   rcases Nat.mod_two_eq_zero_or_one (x.toNat/2^(k%8)) with hz|hz
   ·have hd:(shr8 x (k%8)%2==1)=false:=by rw[hbr,hz];rfl
    have HL':=hid (show m%P25=a^(num bs%2^(k+1))%P25 by rw[HLow.out,HBit.out,hz,QHK,QHj,QG3,HM.out])
    clear hbr hz
    go_wp2_with (first
     | (refine Qa5 rfl _ rfl h4 rfl ?_)
     | (go_at_call 76;(with_reducible refine (QlD s s hs hs _).mono ?_);rintro e w5 ⟨rfl,hl5⟩)
     | (refine Qav rfl rfl _ _ rfl (h4.later hl5) rfl rfl (QaB _) ?_;intro w6 hb6 ho6)
     | fail)
    go_roundw
    case rel=>exact⟨k+1,m,s*s%P25,by omega,by go_num,hm,QGx (QF1 _ Qbt) (by decide),hid HL'.out,hid HSS.out,(h2.later hl5).only ho6 (by omega),(h3.later hl5).only ho6 (by omega),hb6,(L.trans hl5).only ho6 (by omega)⟩
    case measure=>simp[intOf];omega
   ·have hd:(shr8 x (k%8)%2==1)=true:=by rw[hbr,hz];rfl
    have HL':=hid (show m*s%P25%P25=a^(num bs%2^(k+1))%P25 by
     rw[HLow.out,HBit.out,hz,Nat.pow_one,←HM.out,←HSq.out,←QGT,QG3])
    clear hbr hz
    go_wp2_with (first
     | (refine Qa5 rfl _ rfl h3 rfl ?_)
     | (refine Qa5 rfl _ rfl h4 rfl ?_)
     | (go_at_call 76;(with_reducible refine (QlD m s hm hs _).mono ?_);rintro e w5 ⟨rfl,hl5⟩)
     | (refine Qav rfl rfl _ _ rfl (h3.later hl5) rfl rfl (QaB _) ?_;intro w6 hb6 ho6
        have h46:=(h4.later hl5).only ho6 (by omega))
     | (refine Qa5 rfl _ rfl h46 rfl ?_)
     | (go_at_call 76;(with_reducible refine (QlD s s hs hs _).mono ?_);rintro e w7 ⟨rfl,hl7⟩)
     | (refine Qav rfl rfl _ _ rfl (h46.later hl7) rfl rfl (QaB _) ?_;intro w8 hb8 ho8)
     | fail)
    go_roundw
    case rel=>exact⟨k+1,m*s%P25,s*s%P25,by omega,by go_num,QGx (QF1 _ Qbt) (by decide),QGx (QF1 _ Qbt) (by decide),hid HL'.out,hid HSS.out,(((h2.later hl5).only ho6 (by omega)).later hl7).only ho8 (by omega),(hb6.later hl7).only ho8 (by omega),hb8,(((L.trans hl5).only ho6 (by omega)).trans hl7).only ho8 (by omega)⟩
    case measure=>simp[intOf];omega
  ·have hkf:decide ((k:Int)<8*(n:Int))=false:=by simp;omega
   have hkx:(k<8*n)=False:=eq_false hlt
   have HR:=hid (show m%P25=a^num bs%P25 by
    have hnl:=QmR bs
    have e:(256:Nat)^bs.length=2^(8*bs.length):=by rw[QHb]
    rw[e,←show k=8*bs.length by omega]at hnl
    rw[HM.out,QFT hnl])
   go_wp2_with (first
    | (refine Qa5 rfl _ rfl h3 rfl ?_)
    | (go_at_call 71;(with_reducible refine (QeE m hm _).mono ?_);rintro e w5 ⟨rfl,hl5⟩)
    | (refine Qav rfl rfl _ _ rfl (h2.later hl5) rfl rfl rfl ?_;intro w9 hb9 ho9)
    | fail)
   exact bodyPost_ret (Ql4 rfl hb9 rfl) rfl ⟨by rw[HR.out],(L.trans hl5).only ho9 (by omega)⟩
set_option maxRecDepth 100000 in
set_option maxHeartbeats 2000000 in
theorem Qzz (a:Nat) (ha:a<T256) (w:World):
 Calls Tryz.prog 77 #[NN a] w fun e w'=>e= .returned (NN (pinv a))∧Later w w':=by
 have h1:Blk ((w.alloc (.cells (NL a).toArray 141)).alloc (.cells (QFu 8 (.int .u32 0)).toArray 141)) w.heap.size 141 (NL a):=(Blk.new _ _ _).later (Qaa _ _)
 have h2:Blk ((w.alloc (.cells (NL a).toArray 141)).alloc (.cells (QFu 8 (.int .u32 0)).toArray 141)) (w.heap.size+1) 141 (QFu 8 (.int .u32 0)):=Blk.new' _ _ _ (by simp)
 have L0:Later w ((w.alloc (.cells (NL a).toArray 141)).alloc (.cells (QFu 8 (.int .u32 0)).toArray 141)):=(Qaa _ _).trans (Qaa _ _)
 have HP:=hid (Qt5 a ha)
 have HN:=hid QsE
 go_enter Tryz.func77,Tryz.ntmps77
 go_wp2_with (first
  | (refine QaE rfl _ _ 25 rfl 5 (.int .u8 0) 1 Tryz.underlying25 Qbq rfl _ _ _ _ 32 rfl rfl rfl rfl (by omega) (by omega) ?_;intro w2 hb2 hl2)
  | fail)
 have h12:=h1.later hl2
 have h22:=h2.later hl2
 have L2:=L0.trans hl2
 replace hb2:Blk w2 (w.heap.size+1+1) 5 (QFu 32 (.int .u8 0)):=Eq.mp (congrArg (fun g=>Blk w2 g 5 (QFu 32 (.int .u8 0))) (by simp)) hb2
 clear h1 h2 L0 hl2
 go_loopw [4] (fun i wr=>∃k:Nat,k≤32∧i= .int .i64 k∧Blk wr w.heap.size 141 (NL a)∧Blk wr (w.heap.size+1) 141 (QFu 8 (.int .u32 0))∧Blk wr (w.heap.size+1+1) 5 (QbK (QFu 32 (.int .u8 255)) (QFu 32 (.int .u8 0)) k)∧Later w wr) (fun i _=>32-(intOf i).toNat)
 case atStart=>exact⟨0,by omega,rfl,h12,h22,by rw[Qbw];exact hb2,L2⟩
 case round=>
  clear h12 h22 hb2 L2
  obtain⟨k,hk,rfl,h1,h2,h3,L⟩:=hrel
  by_cases hlt:k<32
  ·go_wp2_with (first
    | (refine Qac rfl rfl _ _ _ rfl _ _ _ _ h3 rfl ?hl rfl (by kernel_rfl) ?_;(case hl=>rw[QaD _ _ _ (by rfl)];exact hlt);intro v w6 hv hb6 ho6;simp[go_sem]at hv;subst hv)
    | fail)
   go_roundw
   case rel=>
    rw[Qa3 _ _ _ _ (by rfl) hlt (by rw[QHe,if_pos hlt])]at hb6
    exact⟨k+1,by omega,by go_num,h1.only ho6 (by omega),h2.only ho6 (by omega),hb6,L.only ho6 (by omega)⟩
   case measure=>simp[intOf];omega
  ·have HF:=hid (Qqt _ (Qb7 (QFu 32 (Value.int .u8 255)) (QFu 32 (.int .u8 0)) 32 rfl rfl))
   rw[show k=32 by omega]at h3
   have hkf:decide ((k:Int)<32)=false:=by simp;omega
   go_wp2_with (first
    | (refine Qac rfl rfl _ _ _ rfl _ _ _ _ h3 rfl ?hl rfl (by kernel_rfl) ?_;(case hl=>rw[QaD _ _ _ (by rfl)];decide);intro v w6 hv hb6 ho6;simp[go_sem]at hv;subst hv)
    | (refine Qac rfl rfl _ _ _ rfl _ _ _ _ hb6 rfl ?hl rfl (by kernel_rfl) ?_;(case hl=>rw[QGd,QaD _ _ _ (by rfl)];decide);intro v w7 hv hb7 ho7;simp[go_sem]at hv;subst hv
       rw[HF.out]at hb7
       have h17:=(h1.only ho6 (by omega)).only ho7 (by omega)
       have h27:=(h2.only ho6 (by omega)).only ho7 (by omega)
       have L7:=(L.only ho6 (by omega)).only ho7 (by omega))
    | (refine Qa5 rfl _ rfl h17 rfl ?_)
    | (go_at_call 101;(with_reducible refine (HP.out _ 32 _ Qiq _ (Qec hb7 rfl) (by omega)).mono ?_);rintro e w8 ⟨rfl,hl8⟩
       rw[HN.out])
    | (refine Qav rfl rfl _ _ rfl (h27.later hl8) rfl rfl rfl ?_;intro w9 hb9 ho9)
    | fail)
   exact bodyPost_ret (Ql4 rfl hb9 rfl) rfl ⟨rfl,(L7.trans hl8).only ho9 (by omega)⟩
@[go_sem] theorem QEH (T:TypeId) (x:Nat) (hx:x<B32) (yk:IntKind) (k:Int) (h0:0≤k):binOp .shr T (n32 x) (.int yk k)=pure (n32 (x/2^k.toNat)):=by
  rw[n32,Qls _ _ _ _ h0,Qsx]
  rw[QbZ]
  show (BitVec.toNat _)=_
  rw[QGu]
  show (QF7 x).toNat >>> _=_
  rw[tn32 hx,QGp]
  have:x/2^k.toNat<B32:=QGZ (Nat.div_le_self _ _) hx
  rw[QFT this]
@[go_sem] theorem QqA {P:Program} (w:World) (S D:TypeId) (x:Nat) (hs:(P.underlying S).isSome=true) (hd:P.underlying D=some (.int .u8)):(convert S D (n32 x)).run P w= .ok (n8 x) w:=by
  rw[n32,Qhi _ _ _ _ hs hd,n8_w]
  rw[UInt32.toNat_toUInt8,QHt]
  omega
theorem QA3 (k:Nat):(8*((k:Int)%4)).toNat=8*(k%4):=by omega
set_option maxRecDepth 100000 in
set_option maxHeartbeats 2000000 in
theorem Qjs (n:Nat) (hn:n<T256) (w:World):
 Calls Tryz.prog 48 #[NN n] w fun e w'=>e= .returned (BB (n%P25))∧Later w w':=by
 have h1:Blk ((w.alloc (.cells (NL n).toArray 141)).alloc (.cells (QFu 32 (Value.int .u8 0)).toArray 45)) w.heap.size 141 (NL n):=(Blk.new _ _ _).later (Qaa _ _)
 have h2:Blk ((w.alloc (.cells (NL n).toArray 141)).alloc (.cells (QFu 32 (Value.int .u8 0)).toArray 45)) (w.heap.size+1) 45 (QFu 32 (.int .u8 0)):=Blk.new' _ _ _ (by simp)
 have L0:Later w ((w.alloc (.cells (NL n).toArray 141)).alloc (.cells (QFu 32 (Value.int .u8 0)).toArray 45)):=(Qaa _ _).trans (Qaa _ _)
 have hlS:((nb (n%P25)).map W8).length=32:=by rw[QFA,Qch]
 have HGet:=hid (fun k (h:k<32)=>show ((nb (n%P25)).map W8)[k]?=some (n8 (n%P25/256^k%256)) by rw[QFN,Qyu _ _ h];rfl)
 go_enter Tryz.func48,Tryz.ntmps48
 go_wp2_with (first
  | (refine Qa5 rfl _ rfl h1 rfl ?_)
  | (go_at_call 71;(with_reducible refine (QeE n hn _).mono ?_);rintro e w2 ⟨rfl,hl2⟩)
  | (refine Qav rfl rfl _ _ rfl (h1.later hl2) rfl rfl (QaB _) ?_;intro w3 hb3 ho3
     have h23:=(h2.later hl2).only ho3 (by omega)
     have L3:=(L0.trans hl2).only ho3 (by omega))
  | fail)
 have hg:w.heap.size+1<w3.heap.size:=h23.lt
 clear h1 h2 L0 hl2 ho3
 generalize hM:n%P25=M at *
 have HM:=hid hM
 clear hM
 go_loopw [4] (fun i wr=>∃k:Nat,k≤32∧i= .int .i64 k∧Blk wr w.heap.size 141 (NL M)∧Blk wr (w.heap.size+1) 45 (QFu 32 (.int .u8 0))∧Blk wr w3.heap.size 45 (QbK ((nb M).map W8) (QFu 32 (.int .u8 0)) k)∧Later w wr) (fun i _=>32-(intOf i).toNat)
 case atStart=>exact⟨0,by omega,rfl,hb3.later (Qaa _ _),h23.later (Qaa _ _),by rw[Qbw];exact Blk.new _ _ (QFu 32 (Value.int .u8 0)),L3.trans (Qaa _ _)⟩
 case round=>
  clear hb3 h23
  have hL3:=L3.size
  clear L3
  obtain⟨k,hk,rfl,h1,h2,h3,L⟩:=hrel
  by_cases hlt:k<32
  ·have d0:=h1.cellD (k/4) (Qef M (k/4) (by omega))
   have hct:=QA3 k
   have h08:(0:Int)≤8*((k:Int)%4):=by omega
   have h04:(0:Int)≤(k:Int)%4:=by omega
   have hbl:=hid (Qwe M k hlt)
   go_wp2_with (first
    | (refine Qac rfl rfl _ _ _ rfl _ _ _ _ h3 rfl ?hl rfl (by kernel_rfl) ?_;(case hl=>rw[QaD _ _ _ (by rw[hlS];rfl)];exact hlt);intro v w6 hv hb6 ho6;simp[go_sem]at hv;subst hv)
    | fail)
   go_roundw
   case rel=>
    rw[QCh (show lem M (k/4)/2^(8*(k%4))%256=M/256^k%256%256 by rw[hbl.out,QG3]),Qa3 _ _ _ _ (by rw[hlS];rfl) hlt (HGet.out k hlt)]at hb6
    exact⟨k+1,by omega,by go_num,h1.only ho6 (by omega),h2.only ho6 (by omega),hb6,L.only ho6 (by omega)⟩
   case measure=>simp[intOf];omega
  ·rw[show k=32 by omega,Qb7 _ _ _ hlS rfl]at h3
   have hkf:decide ((k:Int)<32)=false:=by simp;omega
   go_wp2_with (first
    | (refine Qbo rfl 45 _ rfl _ _ _ h3 rfl _ Tryz.underlying45 rfl 32 Qbk hlS ?_)
    | (refine Qaj rfl rfl 45 _ _ rfl _ _ _ _ h2 rfl rfl 32 Qbk hlS rfl (Qay _) ?_;intro w9 hb9 ho9)
    | fail)
   exact bodyPost_ret (QaI rfl _ _ _ _ ((nb M).map W8) _ hb9 rfl Tryz.underlying45 rfl (by rw[hlS];exact Qbk)) rfl ⟨by rw[HM.out],L.only ho9 (by omega)⟩
@[go_sem] theorem QD4 (T:TypeId) (x:Nat) (y:UInt64):binOp .mul T (n64 x) (W64 y)=pure (n64 (x*y.toNat)):=by
  rw[QEp y,Qpj]
theorem QBy (x:UInt8):x.toUInt64.toNat=x.toNat:=UInt8.toNat_toUInt64 x
theorem QvN (w:World):Calls Tryz.prog 125 #[.int .i64 1,.int .i64 4] w fun e w'=>e= .returned (.bool true)∧w=w':=by
 go_enter Tryz.func125,Tryz.ntmps125
 go_wp2
 go_ret
 exact⟨rfl,rfl⟩
def quad (bs:List UInt8) (k j:Nat):Nat:=num ((bs.drop (4*k)).take j)
theorem QfT (bs:List UInt8) (k j:Nat) (h:4*k+j<bs.length):quad bs k (j+1)=quad bs k j+256^j*(bs.getD (4*k+j) 0).toNat:=by
 rw[quad,Qmd _ _ (by rw[QF0];omega)]
 congr 3
 rw[QFC,QFC,QGR]
set_option maxHeartbeats 1000000 in
theorem Qvi (A:Option Addr) (n c:Nat) (bs:List UInt8) (k:Nat) (w:World) (hr:RdB w A n bs) (hk:4*k+4≤n) (hn:n≤140737488355328):
 Calls Tryz.prog 99 #[.int .i64 1,.slice A n c,.int .i64 (4*(k:Int)),.int .i64 4] w fun e w'=>e= .returned (.tuple #[n64 (quad bs k 4),.int .i64 0])∧Later w w':=by
 have hbl:=hr.len
 obtain⟨b,o,rfl,hb,hc⟩:=hr.at_ (by omega)
 have HC:=hid hc
 have HQ:=hid (fun j (h:j<4)=>QfT bs k j (by omega))
 clear hc hr
 have e1:decide (4*(k:Int)<0)=false:=by simp;omega
 have e2:decide ((n:Int)<4)=false:=by simp;omega
 have e3:decide ((n:Int)-4<4*(k:Int))=false:=by simp;omega
 go_enter Tryz.func99,Tryz.ntmps99
 go_wp2_with (go_at_call 125;(with_reducible refine (QvN _).mono ?_);rintro e w2 ⟨rfl,rfl⟩)
 go_loopw [10,11,12] (fun v x i wr=>∃j:Nat,j≤4∧i= .int .i64 j∧v=n64 (quad bs k j)∧x=n64 (256^j)∧Later w wr) (fun _ _ i _=>4-(intOf i).toNat)
 case atStart=>exact⟨0,by omega,rfl,rfl,rfl,Later.refl w⟩
 case round=>
  obtain⟨j,hj,rfl,rfl,rfl,L⟩:=hrel
  by_cases hlt:j<4
  ·have c0:wr.cell? ⟨b,o+(4*k+j),none⟩=some (W8 (bs.getD (4*k+j) 0)):=(L.below.cell (p:=⟨b,o+(4*k+j),none⟩) hb).trans (HC.out (4*k+j) (by omega))
   have HQj:=hid (HQ.out j hlt)
   generalize bs.getD (4*k+j) 0=x at *
   have hbx:=QBy x
   go_wp2
   go_roundw
   case rel=>exact⟨j+1,by omega,by go_num,by rw[HQj.out],by rw[QGs],L⟩
   case measure=>simp[intOf];omega
  ·have hkf:decide ((j:Int)<4)=false:=by simp;omega
   have HJ:=hid (show quad bs k j=quad bs k 4 by rw[show j=4 by omega])
   go_wp2
   go_ret2
   exact⟨Qo4 (congrArg n64 HJ.out) rfl,L⟩
theorem Qxh (bs:List UInt8) (k:Nat) (h:4*k+4≤bs.length):quad bs k 4=lem (num bs) k:=by
 have e1:num ((bs.drop (4*k)).take 4)<256^4:=by
  have:=QmR ((bs.drop (4*k)).take 4)
  rwa [QFY,QF0,QGG (by omega)]at this
 have e2:num bs=num (bs.take (4*k))+256^(4*k)*(num ((bs.drop (4*k)).take 4)+256^4*num ((bs.drop (4*k)).drop 4)):=by
  have a1:∀l m:List UInt8,num (l++m)=num l+256^l.length*num m:=by
   intro l m
   rw[num,QF2,Qhu,QFA]
   rfl
  conv=>lhs;rw[←QF8 (4*k) bs,a1,←QF8 4 (bs.drop (4*k)),a1]
  rw[QFY,QFY,QF0,QGG (by omega),QGG (by omega)]
 have e3:num (bs.take (4*k))<256^(4*k):=by
  have:=QmR (bs.take (4*k))
  rwa [QFY,QGG (by omega)]at this
 have e4:B32^k=256^(4*k):=by rw[QHb];rfl
 have e5:B32=256^4:=by decide
 rw[quad,lem,e4,e5,e2,QG7 _ _ (QHw (by decide)),QGn e3,QFX,Nat.add_mul_mod_self_left,QFT e1]
@[go_sem] theorem QFi (T:TypeId) (x:Nat) (hx:x<B32):binOp .rem T (n32 x) (.int .u32 2147483648)=pure (n32 (x%2147483648)):=by
  rw[n32,QpG _ _ _ (by omega) (by omega) (by decide),Qsx]
  rw[UInt32.toNat_mod,tn32 hx]
  have:x%2147483648<B32:=by unfold B32;omega
  rw[QFT this]
  rfl
theorem QBA (n:Nat):(NL n).set 7 (n32 (lem n 7%2147483648))=NL (n%T255):=by
 have e:∀m,NL m=[n32 (lem m 0),n32 (lem m 1),n32 (lem m 2),n32 (lem m 3),n32 (lem m 4),n32 (lem m 5),n32 (lem m 6),n32 (lem m 7)]:=by
  intro m
  apply QHA (QaB m)
  intro i hi1 hi2
  rw[QEv]
  have:i=0∨i=1∨i=2∨i=3∨i=4∨i=5∨i=6∨i=7:=by rw[QaB]at hi1;omega
  rcases this with rfl|rfl|rfl|rfl|rfl|rfl|rfl|rfl<;>rfl
 have h0:lem n 0=lem (n%T255) 0:=by unfold lem T255 B32;omega
 have h1:lem n 1=lem (n%T255) 1:=by unfold lem T255 B32;omega
 have h2:lem n 2=lem (n%T255) 2:=by unfold lem T255 B32;omega
 have h3:lem n 3=lem (n%T255) 3:=by unfold lem T255 B32;omega
 have h4:lem n 4=lem (n%T255) 4:=by unfold lem T255 B32;omega
 have h5:lem n 5=lem (n%T255) 5:=by unfold lem T255 B32;omega
 have h6:lem n 6=lem (n%T255) 6:=by unfold lem T255 B32;omega
 have h7:lem n 7%2147483648=lem (n%T255) 7:=by unfold lem T255 B32;omega
 rw[e,e,h0,h1,h2,h3,h4,h5,h6,h7]
 rfl
set_option maxRecDepth 100000 in
set_option maxHeartbeats 2000000 in
theorem Qqw (A:Option Addr) (n c:Nat) (bs:List UInt8) (w:World) (hr:RdB w A n bs) (hn:n≤140737488355328):
 Calls Tryz.prog 73 #[.slice A n c] w fun e w'=>e= .returned (.tuple #[NN (QcE bs),.int .i64 (Qca bs:Nat)])∧Later w w':=by
 have hbl:=hr.len
 have hb0:=Blk.new w 141 (QFu 8 (Value.int .u32 0))
 by_cases h32:n=32
 ·subst h32
  have hRN:=hid (show QcE bs=num bs%T255%P25 by rw[QcE,if_pos hbl])
  have hRE:=hid (show Qca bs=0 by rw[Qca,if_pos hbl])
  have HQ:=hid (fun k (h:k<8)=>Qxh bs k (by omega))
  have hlS:=QaB (num bs)
  go_enter Tryz.func73,Tryz.ntmps73
  go_wp2
  go_loopw [5] (fun i wr=>∃k:Nat,k≤8∧i= .int .i64 k∧Blk wr w.heap.size 141 (QFu 8 (.int .u32 0))∧Blk wr (w.heap.size+1) 141 (QbK (NL (num bs)) (QFu 8 (.int .u32 0)) k)∧Later w wr) (fun i _=>8-(intOf i).toNat)
  case atStart=>exact⟨0,by omega,rfl,hb0.later (Qaa _ _),by rw[Qbw];exact Blk.new' _ _ (QFu 8 (Value.int .u32 0)) (by simp),(Qaa _ _).trans (Qaa _ _)⟩
  case round=>
   clear hb0
   obtain⟨k,hk,rfl,h1,h2,L⟩:=hrel
   by_cases hlt:k<8
   ·have HQk:=hid (HQ.out k hlt)
    have HG:=hid (Qvi A 32 c bs k wr (hr.later L) (by omega) (by omega))
    go_wp2_with (first
     | (go_at_call 99;(with_reducible refine (HG.out).mono ?_);rintro e w3 ⟨rfl,hl3⟩;rw[HQk.out]
        have h23:=h2.later hl3)
     | (refine Qac rfl rfl _ _ _ rfl _ _ _ _ h23 rfl ?hl rfl (by kernel_rfl) ?_;(case hl=>rw[QaD _ _ _ (by rw[hlS];rfl)];exact hlt);intro v w6 hv hb6 ho6;simp[go_sem]at hv;subst hv)
     | fail)
    go_roundw
    case rel=>
     rw[Qa3 _ _ _ _ (by rw[hlS];rfl) hlt (Qef _ _ hlt)]at hb6
     exact⟨k+1,by omega,by go_num,(h1.later hl3).only ho6 (by omega),hb6,(L.trans hl3).only ho6 (by omega)⟩
    case measure=>simp[intOf];omega
   ·rw[show k=8 by omega,Qb7 _ _ _ hlS rfl]at h2
    have hkf:decide ((k:Int)<8)=false:=by simp;omega
    have d7:=h2.cellD 7 (Qef _ 7 (by omega))
    have hlT:num bs%T255<T256:=QGx (QF1 _ (by decide)) (by decide)
    go_wp2_with (first
     | (refine Qac rfl rfl _ _ _ rfl _ _ _ _ h2 rfl ?hl rfl (by kernel_rfl) ?_;(case hl=>rw[QaB];omega);intro v w6 hv hb6 ho6;simp[go_sem]at hv;subst hv
        rw[QBA]at hb6
        have h16:=h1.only ho6 (by omega)
        have L6:=L.only ho6 (by omega))
     | (refine Qa5 rfl _ rfl hb6 rfl ?_)
     | (go_at_call 71;(with_reducible refine (QeE (num bs%T255) hlT _).mono ?_);rintro e w7 ⟨rfl,hl7⟩)
     | (refine Qav rfl rfl _ _ rfl (h16.later hl7) rfl rfl rfl ?_;intro w9 hb9 ho9)
     | fail)
    exact bodyPost_ret (Qaf rfl _ _ _ _ _ _ hb9 rfl Tryz.underlying141 rfl (by rw[QaB];exact QlK)) rfl ⟨by rw[hRN.out,hRE.out];rfl,(L6.trans hl7).only ho9 (by omega)⟩
 ·have hRN:=hid (show QcE bs=0 by rw[QcE,if_neg (by omega)])
  have hRE:=hid (show Qca bs=2 by rw[Qca,if_neg (by omega)])
  have hne:((n:Int) != 32)=true:=by simp;omega
  go_enter Tryz.func73,Tryz.ntmps73
  go_wp2_with (first
   | (refine Qao rfl 141 _ rfl (NL 0) ?hb ?_;(case hb=>kernel_rfl))
   | (refine Qav (n:=0) rfl rfl _ _ rfl hb0 rfl rfl rfl ?_;intro w9 hb9 ho9)
   | fail)
  exact bodyPost_ret (Qaf rfl _ _ _ _ _ _ hb9 rfl Tryz.underlying141 rfl (by rw[QaB];exact QlK)) rfl ⟨by rw[hRN.out,hRE.out];rfl,(Qaa _ _).only ho9 (by omega)⟩
theorem QyS (a:Nat) (h:a%P25≠0):a^(P25-1)%P25=1:=by
 have:=QEi.2 a (by unfold P25 at h;exact h)
 unfold P25
 exact this
theorem Qwb (a:Nat) (h:a%P25≠0):a*pinv a%P25=1:=by
 rw[pinv,Nat.mul_mod_mod,←QHo,show (P25-2).succ=P25-1 by unfold P25;rfl]
 exact QyS a h
theorem QAY (a:Nat):pinv a<P25:=QF1 _ Qbt
theorem Qu8 (a:Nat):pinv a<T256:=QGx (QAY a) (by decide)
@[go_sem] theorem QEX (a:Nat):(pinv a<T256)=True:=eq_true (Qu8 a)
@[go_sem] theorem one_T:(1<T256)=True:=eq_true (by decide)
@[go_sem] theorem QFp:(0<T256)=True:=eq_true (by decide)
@[go_sem] theorem T37:(37<T256)=True:=eq_true (by decide)
section
variable {ops:Array Oper} {rest:List Oper} {o:Oper} {a:Act} {w:World} {Q:Exit→Act→World→Prop}
theorem Qfp (hgd:Region.wanted o (yielded ops a.tmps)=true) (x:Operand) (ho:o.op= .load 45 x) {g:Nat} {t:TypeId} {bs:List UInt8} (hb:Blk w g t (bs.map W8)) (hl:bs.length=32) (hx:a.eval x= .pointer (some ⟨g,0,none⟩))
 (h:wpList Tryz.prog ops Q rest (a.put o.dst (.agg (bs.map W8).toArray)) w):wpList Tryz.prog ops Q (o :: rest) a w:=
 Qbo hgd _ x ho g t _ hb hx _ Tryz.underlying45 rfl 32 Qbk (by rw[QFA,hl]) h
theorem QaW (hgd:o.guard=none) (hd:o.dst=none) (x y:Operand) (ho:o.op= .store 45 x y) {g:Nat} {t:TypeId} {l:List Value} {bs:List UInt8} (hg:Blk w g t l) (hx:a.eval x= .pointer (some ⟨g,0,none⟩)) (hy:a.eval y= .agg (bs.map W8).toArray) (hbl:bs.length=32) (hl:l.length=32)
 (h:∀w',Blk w' g t (bs.map W8)→Only g w w'→wpList Tryz.prog ops Q rest a w'):wpList Tryz.prog ops Q (o :: rest) a w:=
 Qaj hgd hd _ x y ho g t l _ hg hx hy 32 Qbk (by rw[QFA,hbl]) hl (Qay _) h
theorem QAC {K:Act→Prop} (x:Operand) (ho:o.op= .load 45 x) {w0:World} {g:Nat} {t:TypeId} {bs:List UInt8} (hb:Blk w0 g t (bs.map W8)) (hl:bs.length=32) (hx:a.eval x= .pointer (some ⟨g,0,none⟩)) (h:K (a.put o.dst (.agg (bs.map W8).toArray))):
 o.quiet Tryz.prog a (fun w'=>∃x,w'=grow w0 x) K:=
 QaP _ x ho g 0 (bs.map W8) (fun w' hw j v hv=>by obtain⟨y,rfl⟩:=hw;rw[QFX];exact (hb.later ⟨y,rfl⟩).cellD j hv) hx _ Tryz.underlying45 rfl (by rw[QFA,hl];exact Qbk) h
end
theorem Qdi (n:Nat):EL n=[n64 (lim n 0),n64 (lim n 1),n64 (lim n 2),n64 (lim n 3)]:=by
 apply QHA (Qam n)
 intro i hi1 hi2
 rw[QvL]
 have:i=0∨i=1∨i=2∨i=3:=by rw[Qam]at hi1;omega
 rcases this with rfl|rfl|rfl|rfl<;>rfl
theorem QjX (a0 a1 a2 a3 b0 b1 b2 b3:Value) (W:World):
 (Instr.buildSlice 279 2 #[(0,.agg #[a0,a1,a2,a3]),(1,.agg #[b0,b1,b2,b3])]).run Tryz.prog W= .ok (.slice (some ⟨W.heap.size,0,none⟩) 2 2) (W.alloc (.cells #[a0,a1,a2,a3,b0,b1,b2,b3] 228)):=by kernel_rfl
theorem Qkz (a b:Nat) (W:World):
 (Instr.buildSlice 279 2 #[(0,E a),(1,E b)]).run Tryz.prog W= .ok (.slice (some ⟨W.heap.size,0,none⟩) 2 2) (W.alloc (.cells (EL a++EL b).toArray 228)):=by
 rw[E,E,Qdi a,Qdi b]
 exact QjX ..
section
variable {ops:Array Oper} {rest:List Oper} {o:Oper} {a:Act} {w:World} {Q:Exit→Act→World→Prop}
theorem QdR (hw:Region.wanted o (yielded ops a.tmps)=true) (x y:Operand) (ho:o.op= .buildSlice 279 2 #[(0,x),(1,y)]) (n m:Nat) (hx:a.eval x=E n) (hy:a.eval y=E m)
 (h:wpList Tryz.prog ops Q rest (a.put o.dst (.slice (some ⟨w.heap.size,0,none⟩) 2 2)) (w.alloc (.cells (EL n++EL m).toArray 228))):wpList Tryz.prog ops Q (o :: rest) a w:=
 BigFrame.wpList_want hw fun K hK=>by
  have hr:=Qkz n m w
  unfold Oper.wp
  simp only[execOp,ho,QFI,QFW,QFR,hx,hy,Sem.run_bind,hr,Result.andThen_ok,Sem.run_pure]
  exact hK _ _ h
end
theorem QvC {w:World} {g:Nat} {t:TypeId} {l:List Value} (ns:List Nat) (n:Nat) (hb:Blk w g t l) (hl:l=ns.flatMap EL) (hn:ns.length=n):RdE w (some ⟨g,0,none⟩) n ns:=by
 refine⟨hn,fun _=>⟨g,0,rfl,hb.lt,fun j i v hj hv=>?_⟩⟩
 refine hb.cellD _ ?_
 rw[hl]
 have key:∀(ns:List Nat) (j:Nat),j<ns.length→(EL (ns.getD j 0))[i]?=some v→(ns.flatMap EL)[0+j*4+i]?=some v:=by
  intro ns
  induction ns with
  | nil=>intro j hj;simp at hj
  | cons x ns ih=>
    intro j hj hv
    cases j with
    | zero=>
      rw[QHm,QFS]
      ·simpa using hv
      ·have:i<(EL x).length:=by
        have:=QFU.1 hv
        exact this.1
       omega
    | succ j=>
      rw[QHm,QFK (by rw[Qam];omega),Qam]
      have:=ih j (by simpa using hj) (by simpa using hv)
      rw[show 0+(j+1)*4+i-4=0+j*4+i by omega]
      exact this
 exact key ns j (by omega) hv
theorem QpV (x:Nat) (h:x<P25):QcE (nb x)=x:=by
 have hT:x<T256:=QGx h (by decide)
 rw[QcE,if_pos (Qch x),QyI x hT,QFT (show x<T255 from QGx h (by decide)),QFT h]
end Go.Proofs.YtcbdgnlcknllnaaGreat
namespace Go.Proofs.YtcbdgnlcknllnaaGreat
open Go.RowKit
open Go.BigFrame
def QjS (l:List Nat):List UInt32:=l.map QF7
theorem Qza (n:Nat):NL n=(QjS (dig B32 8 n)).map W32:=by rw[NL,QjS,List.map_map];rfl
theorem Qs4 {l m:List Nat} (hl:∀x∈l,x<B32) (hm:∀x∈m,x<B32) (h:QjS l=QjS m):l=m:=by
 have e:∀l:List Nat,(∀ x∈l,x<B32)→(QjS l).map UInt32.toNat=l:=by
  intro l hl
  rw[QjS,List.map_map]
  conv=>rhs;rw[←List.map_id l]
  apply List.map_congr_left
  intro x hx
  exact tn32 (hl x hx)
 rw[←e l hl,←e m hm,h]
theorem QuT {x y:Nat} (hx:x<T256) (hy:y<T256):(QjS (dig B32 8 x)==QjS (dig B32 8 y))=(x==y):=by
 rw[QGk,beq_iff_eq,beq_iff_eq]
 refine⟨fun h=>?_,fun h=>by rw[h]⟩
 have:=Qs4 (Qeu Qbj 8 x) (Qeu Qbj 8 y) h
 exact QtG (k:=8) (B:=B32) (by rw[Qfe];exact hx) (by rw[Qfe];exact hy) this
theorem QCi:(Tryz.prog.info? 50).map (·.size)=some 1:=by kernel_rfl
theorem QFd:Tryz.prog.eqGuardType Tryz.prog.depth 141=false:=by kernel_rfl
@[go_sem high] theorem QCx (op:BinOp) (x y:Operand) (xs ys:Array Value) (w:World):(eqGuard op 141 x y (.agg xs) (.agg ys)).run Tryz.prog w= .ok () w:=run_eqGuard_agg w op _ x y xs ys QFd
@[go_sem high] theorem QCW (x y:Nat) (hx:x<T256) (hy:y<T256) (w:World):(binOp .eql 141 (NN x) (NN y)).run Tryz.prog w= .ok (.bool (x==y)) w:=by
  rw[run_eql_struct,Qza,Qza,Qbn w 0 W32 9998 141 50 8 Tryz.underlying141 QCi Tryz.underlying50 rfl (QtS _ _ Tryz.underlying50) _ _ (by rw[QjS,QFA,QaT]) (by rw[QjS,QFA,QaT]),QuT hx hy]
  rfl
@[go_sem] theorem QBE (T:TypeId) (x:Nat) (hx:x<B32):binOp .rem T (n32 x) (.int .u32 2)=pure (n32 (x%2)):=by
  rw[n32,QpG _ _ _ (by omega) (by omega) (by decide),Qsx]
  rw[UInt32.toNat_mod,tn32 hx]
  have:x%2<B32:=by unfold B32;omega
  rw[QFT this]
  rfl
@[go_sem] theorem QDn (T:TypeId) (x:Nat) (k:Int) (hx:x<B32) (h0:0≤k) (h1:k<4294967296):binOp .eql T (n32 x) (.int .u32 k)=pure (.bool (x==k.toNat)):=by
  rw[QzL k h0 h1,n32,n32,QoI]
  congr 2
  rw[QGk]
  simp only[beq_iff_eq,←QHH,tn32 hx]
  rw[tn32 (show k.toNat<B32 by unfold B32;omega)]
end Go.Proofs.YtcbdgnlcknllnaaGreat
namespace Go.Proofs.YtcbdgnlcknllnaaGreat
namespace Ed
def Qy6:List Nat:=[2,3,5,7,11,13,17,19,23,31,41,43,47,61,67,73,79,101,113,181,227,269,307,383,467,487,727]
theorem Qag:∀q∈Qy6,Prm q:=fun q hq=>Qnx (QGi.1 (show Qy6.all small=true by decide +kernel) q hq)
theorem Qvp:Prm 30703∧∀a,a%30703≠0→a^(30703-1)%30703=1:=
 Qaw 30703 3 [2,3,7,17,43] (by decide +kernel) (by
  intro q hq
  simp only[QFP,QFO,or_false]at hq
  rcases hq with rfl|rfl|rfl|rfl|rfl
  ·exact Qag _ (by decide)
  ·exact Qag _ (by decide)
  ·exact Qag _ (by decide)
  ·exact Qag _ (by decide)
  ·exact Qag _ (by decide))
theorem Quf:Prm 41081∧∀a,a%41081≠0→a^(41081-1)%41081=1:=
 Qaw 41081 3 [2,2,2,5,13,79] (by decide +kernel) (by
  intro q hq
  simp only[QFP,QFO,or_false]at hq
  rcases hq with rfl|rfl|rfl|rfl|rfl|rfl
  ·exact Qag _ (by decide)
  ·exact Qag _ (by decide)
  ·exact Qag _ (by decide)
  ·exact Qag _ (by decide)
  ·exact Qag _ (by decide)
  ·exact Qag _ (by decide))
theorem QtA:Prm 82163∧∀a,a%82163≠0→a^(82163-1)%82163=1:=
 Qaw 82163 2 [2,41081] (by decide +kernel) (by
  intro q hq
  simp only[QFP,QFO,or_false]at hq
  rcases hq with rfl|rfl
  ·exact Qag _ (by decide)
  ·exact Quf.1)
theorem QlA:Prm 1723∧∀a,a%1723≠0→a^(1723-1)%1723=1:=
 Qaw 1723 3 [2,3,7,41] (by decide +kernel) (by
  intro q hq
  simp only[QFP,QFO,or_false]at hq
  rcases hq with rfl|rfl|rfl|rfl
  ·exact Qag _ (by decide)
  ·exact Qag _ (by decide)
  ·exact Qag _ (by decide)
  ·exact Qag _ (by decide))
theorem QuE:Prm 17231∧∀a,a%17231≠0→a^(17231-1)%17231=1:=
 Qaw 17231 13 [2,5,1723] (by decide +kernel) (by
  intro q hq
  simp only[QFP,QFO,or_false]at hq
  rcases hq with rfl|rfl|rfl
  ·exact Qag _ (by decide)
  ·exact Qag _ (by decide)
  ·exact QlA.1)
theorem Qr5:Prm 137849∧∀a,a%137849≠0→a^(137849-1)%137849=1:=
 Qaw 137849 3 [2,2,2,17231] (by decide +kernel) (by
  intro q hq
  simp only[QFP,QFO,or_false]at hq
  rcases hq with rfl|rfl|rfl|rfl
  ·exact Qag _ (by decide)
  ·exact Qag _ (by decide)
  ·exact Qag _ (by decide)
  ·exact QuE.1)
theorem QvJ:Prm 22111∧∀a,a%22111≠0→a^(22111-1)%22111=1:=
 Qaw 22111 6 [2,3,5,11,67] (by decide +kernel) (by
  intro q hq
  simp only[QFP,QFO,or_false]at hq
  rcases hq with rfl|rfl|rfl|rfl|rfl
  ·exact Qag _ (by decide)
  ·exact Qag _ (by decide)
  ·exact Qag _ (by decide)
  ·exact Qag _ (by decide)
  ·exact Qag _ (by decide))
theorem Qr6:Prm 132667∧∀a,a%132667≠0→a^(132667-1)%132667=1:=
 Qaw 132667 5 [2,3,22111] (by decide +kernel) (by
  intro q hq
  simp only[QFP,QFO,or_false]at hq
  rcases hq with rfl|rfl|rfl
  ·exact Qag _ (by decide)
  ·exact Qag _ (by decide)
  ·exact QvJ.1)
theorem Qee:Prm 3044861653679985063343∧∀a,a%3044861653679985063343≠0→a^(3044861653679985063343-1)%3044861653679985063343=1:=
 Qaw 3044861653679985063343 5 [2,3,11,30703,82163,132667,137849] (by decide +kernel) (by
  intro q hq
  simp only[QFP,QFO,or_false]at hq
  rcases hq with rfl|rfl|rfl|rfl|rfl|rfl|rfl
  ·exact Qag _ (by decide)
  ·exact Qag _ (by decide)
  ·exact Qag _ (by decide)
  ·exact Qvp.1
  ·exact QtA.1
  ·exact Qr6.1
  ·exact Qr5.1)
theorem Qvx:Prm 34123∧∀a,a%34123≠0→a^(34123-1)%34123=1:=
 Qaw 34123 2 [2,3,11,11,47] (by decide +kernel) (by
  intro q hq
  simp only[QFP,QFO,or_false]at hq
  rcases hq with rfl|rfl|rfl|rfl|rfl
  ·exact Qag _ (by decide)
  ·exact Qag _ (by decide)
  ·exact Qag _ (by decide)
  ·exact Qag _ (by decide)
  ·exact Qag _ (by decide))
theorem QrD:Prm 409477∧∀a,a%409477≠0→a^(409477-1)%409477=1:=
 Qaw 409477 2 [2,2,3,34123] (by decide +kernel) (by
  intro q hq
  simp only[QFP,QFO,or_false]at hq
  rcases hq with rfl|rfl|rfl|rfl
  ·exact Qag _ (by decide)
  ·exact Qag _ (by decide)
  ·exact Qag _ (by decide)
  ·exact Qvx.1)
theorem QnE:Prm 14741173∧∀a,a%14741173≠0→a^(14741173-1)%14741173=1:=
 Qaw 14741173 2 [2,2,3,3,409477] (by decide +kernel) (by
  intro q hq
  simp only[QFP,QFO,or_false]at hq
  rcases hq with rfl|rfl|rfl|rfl|rfl
  ·exact Qag _ (by decide)
  ·exact Qag _ (by decide)
  ·exact Qag _ (by decide)
  ·exact Qag _ (by decide)
  ·exact QrD.1)
theorem Qm6:Prm 58964693∧∀a,a%58964693≠0→a^(58964693-1)%58964693=1:=
 Qaw 58964693 2 [2,2,14741173] (by decide +kernel) (by
  intro q hq
  simp only[QFP,QFO,or_false]at hq
  rcases hq with rfl|rfl|rfl
  ·exact Qag _ (by decide)
  ·exact Qag _ (by decide)
  ·exact QnE.1)
theorem QcB:Prm 198211423230930754013084525763697∧∀a,a%198211423230930754013084525763697≠0→a^(198211423230930754013084525763697-1)%198211423230930754013084525763697=1:=
 Qaw 198211423230930754013084525763697 5 [2,2,2,2,3,23,58964693,3044861653679985063343] (by decide +kernel) (by
  intro q hq
  simp only[QFP,QFO,or_false]at hq
  rcases hq with rfl|rfl|rfl|rfl|rfl|rfl|rfl|rfl
  ·exact Qag _ (by decide)
  ·exact Qag _ (by decide)
  ·exact Qag _ (by decide)
  ·exact Qag _ (by decide)
  ·exact Qag _ (by decide)
  ·exact Qag _ (by decide)
  ·exact Qm6.1
  ·exact Qee.1)
theorem Qv2:Prm 2939∧∀a,a%2939≠0→a^(2939-1)%2939=1:=
 Qaw 2939 2 [2,13,113] (by decide +kernel) (by
  intro q hq
  simp only[QFP,QFO,or_false]at hq
  rcases hq with rfl|rfl|rfl
  ·exact Qag _ (by decide)
  ·exact Qag _ (by decide)
  ·exact Qag _ (by decide))
theorem Qxb:Prm 5879∧∀a,a%5879≠0→a^(5879-1)%5879=1:=
 Qaw 5879 11 [2,2939] (by decide +kernel) (by
  intro q hq
  simp only[QFP,QFO,or_false]at hq
  rcases hq with rfl|rfl
  ·exact Qag _ (by decide)
  ·exact Qv2.1)
theorem Qle:Prm 292386187∧∀a,a%292386187≠0→a^(292386187-1)%292386187=1:=
 Qaw 292386187 2 [2,3,3,3,3,307,5879] (by decide +kernel) (by
  intro q hq
  simp only[QFP,QFO,or_false]at hq
  rcases hq with rfl|rfl|rfl|rfl|rfl|rfl|rfl
  ·exact Qag _ (by decide)
  ·exact Qag _ (by decide)
  ·exact Qag _ (by decide)
  ·exact Qag _ (by decide)
  ·exact Qag _ (by decide)
  ·exact Qag _ (by decide)
  ·exact Qxb.1)
theorem Qie:Prm 213441916511∧∀a,a%213441916511≠0→a^(213441916511-1)%213441916511=1:=
 Qaw 213441916511 13 [2,5,73,292386187] (by decide +kernel) (by
  intro q hq
  simp only[QFP,QFO,or_false]at hq
  rcases hq with rfl|rfl|rfl|rfl
  ·exact Qag _ (by decide)
  ·exact Qag _ (by decide)
  ·exact Qag _ (by decide)
  ·exact Qle.1)
theorem QxM:Prm 1361∧∀a,a%1361≠0→a^(1361-1)%1361=1:=
 Qaw 1361 3 [2,2,2,2,5,17] (by decide +kernel) (by
  intro q hq
  simp only[QFP,QFO,or_false]at hq
  rcases hq with rfl|rfl|rfl|rfl|rfl|rfl
  ·exact Qag _ (by decide)
  ·exact Qag _ (by decide)
  ·exact Qag _ (by decide)
  ·exact Qag _ (by decide)
  ·exact Qag _ (by decide)
  ·exact Qag _ (by decide))
theorem Qww:Prm 2851∧∀a,a%2851≠0→a^(2851-1)%2851=1:=
 Qaw 2851 2 [2,3,5,5,19] (by decide +kernel) (by
  intro q hq
  simp only[QFP,QFO,or_false]at hq
  rcases hq with rfl|rfl|rfl|rfl|rfl
  ·exact Qag _ (by decide)
  ·exact Qag _ (by decide)
  ·exact Qag _ (by decide)
  ·exact Qag _ (by decide)
  ·exact Qag _ (by decide))
theorem Qwj:Prm 2551∧∀a,a%2551≠0→a^(2551-1)%2551=1:=
 Qaw 2551 6 [2,3,5,5,17] (by decide +kernel) (by
  intro q hq
  simp only[QFP,QFO,or_false]at hq
  rcases hq with rfl|rfl|rfl|rfl|rfl
  ·exact Qag _ (by decide)
  ·exact Qag _ (by decide)
  ·exact Qag _ (by decide)
  ·exact Qag _ (by decide)
  ·exact Qag _ (by decide))
theorem Qos:Prm 1224481∧∀a,a%1224481≠0→a^(1224481-1)%1224481=1:=
 Qaw 1224481 13 [2,2,2,2,2,3,5,2551] (by decide +kernel) (by
  intro q hq
  simp only[QFP,QFO,or_false]at hq
  rcases hq with rfl|rfl|rfl|rfl|rfl|rfl|rfl|rfl
  ·exact Qag _ (by decide)
  ·exact Qag _ (by decide)
  ·exact Qag _ (by decide)
  ·exact Qag _ (by decide)
  ·exact Qag _ (by decide)
  ·exact Qag _ (by decide)
  ·exact Qag _ (by decide)
  ·exact Qwj.1)
theorem Qv8:Prm 3797∧∀a,a%3797≠0→a^(3797-1)%3797=1:=
 Qaw 3797 2 [2,2,13,73] (by decide +kernel) (by
  intro q hq
  simp only[QFP,QFO,or_false]at hq
  rcases hq with rfl|rfl|rfl|rfl
  ·exact Qag _ (by decide)
  ·exact Qag _ (by decide)
  ·exact Qag _ (by decide)
  ·exact Qag _ (by decide))
theorem QrP:Prm 531581∧∀a,a%531581≠0→a^(531581-1)%531581=1:=
 Qaw 531581 2 [2,2,5,7,3797] (by decide +kernel) (by
  intro q hq
  simp only[QFP,QFO,or_false]at hq
  rcases hq with rfl|rfl|rfl|rfl|rfl
  ·exact Qag _ (by decide)
  ·exact Qag _ (by decide)
  ·exact Qag _ (by decide)
  ·exact Qag _ (by decide)
  ·exact Qv8.1)
theorem Qgn:Prm 1257559732178653∧∀a,a%1257559732178653≠0→a^(1257559732178653-1)%1257559732178653=1:=
 Qaw 1257559732178653 2 [2,2,3,7,23,531581,1224481] (by decide +kernel) (by
  intro q hq
  simp only[QFP,QFO,or_false]at hq
  rcases hq with rfl|rfl|rfl|rfl|rfl|rfl|rfl
  ·exact Qag _ (by decide)
  ·exact Qag _ (by decide)
  ·exact Qag _ (by decide)
  ·exact Qag _ (by decide)
  ·exact Qag _ (by decide)
  ·exact QrP.1
  ·exact Qos.1)
theorem Qe9:Prm 4434155615661930479∧∀a,a%4434155615661930479≠0→a^(4434155615661930479-1)%4434155615661930479=1:=
 Qaw 4434155615661930479 17 [2,41,43,1257559732178653] (by decide +kernel) (by
  intro q hq
  simp only[QFP,QFO,or_false]at hq
  rcases hq with rfl|rfl|rfl|rfl
  ·exact Qag _ (by decide)
  ·exact Qag _ (by decide)
  ·exact Qag _ (by decide)
  ·exact Qgn.1)
theorem Qde:Prm 172054593956031949258510691∧∀a,a%172054593956031949258510691≠0→a^(172054593956031949258510691-1)%172054593956031949258510691=1:=
 Qaw 172054593956031949258510691 2 [2,5,1361,2851,4434155615661930479] (by decide +kernel) (by
  intro q hq
  simp only[QFP,QFO,or_false]at hq
  rcases hq with rfl|rfl|rfl|rfl|rfl
  ·exact Qag _ (by decide)
  ·exact Qag _ (by decide)
  ·exact QxM.1
  ·exact Qww.1
  ·exact Qe9.1)
theorem Qb9:Prm 19757330305831588566944191468367130476339∧∀a,a%19757330305831588566944191468367130476339≠0→a^(19757330305831588566944191468367130476339-1)%19757330305831588566944191468367130476339=1:=
 Qaw 19757330305831588566944191468367130476339 2 [2,269,213441916511,172054593956031949258510691] (by decide +kernel) (by
  intro q hq
  simp only[QFP,QFO,or_false]at hq
  rcases hq with rfl|rfl|rfl|rfl
  ·exact Qag _ (by decide)
  ·exact Qag _ (by decide)
  ·exact Qie.1
  ·exact Qde.1)
theorem Qb3:Prm 276602624281642239937218680557139826668747∧∀a,a%276602624281642239937218680557139826668747≠0→a^(276602624281642239937218680557139826668747-1)%276602624281642239937218680557139826668747=1:=
 Qaw 276602624281642239937218680557139826668747 2 [2,7,19757330305831588566944191468367130476339] (by decide +kernel) (by
  intro q hq
  simp only[QFP,QFO,or_false]at hq
  rcases hq with rfl|rfl|rfl
  ·exact Qag _ (by decide)
  ·exact Qag _ (by decide)
  ·exact Qb9.1)
theorem QEV:Prm 7237005577332262213973186563042994240857116359379907606001950938285454250989∧∀a,a%7237005577332262213973186563042994240857116359379907606001950938285454250989≠0→a^(7237005577332262213973186563042994240857116359379907606001950938285454250989-1)%7237005577332262213973186563042994240857116359379907606001950938285454250989=1:=
 Qaw 7237005577332262213973186563042994240857116359379907606001950938285454250989 2 [2,2,3,11,198211423230930754013084525763697,276602624281642239937218680557139826668747] (by decide +kernel) (by
  intro q hq
  simp only[QFP,QFO,or_false]at hq
  rcases hq with rfl|rfl|rfl|rfl|rfl|rfl
  ·exact Qag _ (by decide)
  ·exact Qag _ (by decide)
  ·exact Qag _ (by decide)
  ·exact Qag _ (by decide)
  ·exact QcB.1
  ·exact Qb3.1)
end Ed
end Go.Proofs.YtcbdgnlcknllnaaGreat
