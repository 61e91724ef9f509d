/-
  Lemmas for the last text of this claim (part 8 of 20).
-/
import Derived.ArgAppend
import Derived.BigQuiet
import Derived.BigRegion
import Derived.ChangeOld
import Derived.Deep.RegionWith
import Derived.DeepKeys4
import Derived.JoinedCond
import Derived.LaidMore
import Derived.Laws.Append
import Derived.Laws.BytesArg
import Derived.Laws.CopyOwn
import Derived.Laws.Externs
import Derived.Laws.IdiomStrings
import Derived.Laws.Tables
import Derived.Lib.AppendStr
import Derived.Lib.AppendZerosOnto
import Derived.Lib.Mul64
import Derived.Lib.SlBytesConst
import Derived.LoopN
import Derived.Maps.OwnSet
import Derived.OpenShut
import Derived.OrdersHeld
import Derived.ProofKit
import Derived.Shelf.Spec.BitsCarry
import Derived.ShutString
import Derived.Test.YticcbmhcgmhohaaGreatProg
import Derived.Test.YticcbmhcgmhohaaGreatRows
import Derived.WalkKit
import Derived.WalkLawsBesides
import Derived.WalkSpells
import Derived.Test.YticcbmhcgmhohaaGreatPG
open BitVec renaming toNat_ushiftRight → QDz, toNat_shiftLeft → QEC
open Bool renaming and_eq_true → QC2, eq_iff_iff → QDw, or_eq_true → QEH
open Int renaming toNat_natCast → QEv
open List renaming replicate → QCC, getElem?_cons_succ → QCD, getElem?_cons_zero → QCE, length_map → QCF, nil_append → QCH, cons_append → QCI, getElem?_eq_getElem → QCJ, getD_eq_getElem?_getD → QCK, setIfInBounds_toArray → QCL, set_cons_zero → QCN, set_cons_succ → QCO, take_of_length_le → QCQ, getElem?_append_right → QCR, map_toArray → QCT, getElem?_eq_some_iff → QCV, getElem?_append_left → QCW, getElem?_map → QCY, mem_cons → QCZ, not_mem_nil → QC0, map_nil → QC3, length_take → QC5, length_drop → QC6, map_cons → QC9, take_append_drop → QDa, take_succ_eq_append_getElem → QDd, eq_nil_of_length_eq_zero → QDk, length_set → QDl, all_eq_true → QDn, length_cons → QDp, map_append → QDq, mem_map → QDs, range → QDu, getElem?_drop → QDE, drop_of_length_le → QDM, drop_eq_getElem_cons → QDP, getElem_mem → QD0, drop_zero → QD7, map_take → QD9, flatMap_cons → QEi, getElem?_replicate → QEj, mem_range → QEo, take_zero → QEw, nodup_cons → QEI, mem_singleton → QEK, range_succ → QER, map_congr_left → QES, ext_getElem → QEU
open Nat renaming lt_of_lt_of_le → QCX, mod_eq_of_lt → QC1, zero_add → QC4, mod_lt → QC8, le_trans → QDm, div_div_eq_div_mul → QDt, shiftRight_eq_div_pow → QDv, div_eq_of_lt → QDy, div_add_mod → QDA, mul_comm → QDD, pow_succ → QDF, lt_trans → QDG, pow_le_pow_right → QDH, div_lt_of_lt_mul → QDI, lt_or_ge → QDJ, min_eq_left → QDK, sub_self → QDL, le_mul_of_pos_right → QDO, mul_assoc → QDR, mul_mod → QDX, pow_add → QD2, mod_mod → QD4, lt_of_le_of_lt → QD6, add_zero → QD8, add_mul_div_left → QEa, pow_mul → QEf, mul_le_mul_left → QEg, mul_one → QEq, pow_succ' → QEx, zero_mul → QEA, add_comm → QEB, pow_pos → QEF, shiftLeft_eq → QEM, zero_mod → QEO, mul_left_comm → QEP, pow_zero → QEW, add_mod → QEY
open Option renaming toList_some → QCG, map_some → QEd
open UInt32 renaming ofNat → QDg, toNat_ofNat' → QEE, toNat_inj → QE2
open UInt64 renaming ofInt → QDC
open UInt8 renaming ofNat → QDe, toNat_inj → QDr, toNat_ofNat' → QDB, toNat → QE4
set_option linter.all false
namespace Go.Proofs.YticcbmhcgmhohaaGreat
def Prm (n:Nat):Prop:=2≤n∧∀d,d ∣ n→d=1∨d=n
def small (n:Nat):Bool:=decide (2≤n)&&(QDu n).all fun d=>d≤1||n%d != 0
theorem QlO {n:Nat} (h:small n=true):Prm n:=by
 simp only[small,QC2,decide_eq_true_eq,QDn,QEo,QEH,bne_iff_ne]at h
 refine⟨h.1,fun d hd=>?_⟩
 have hle:=Nat.le_of_dvd (by omega) hd
 by_cases he:d=n
 ·exact .inr he
 ·rcases h.2 d (by omega) with h1|h1
  ·rcases QDJ 0 d with h0|h0
   ·exact .inl (by omega)
   ·have:d=0:=by omega
    subst this
    have:=Nat.eq_zero_of_zero_dvd hd
    omega
  ·exact absurd (Nat.mod_eq_zero_of_dvd hd) h1
def pwm (m:Nat):Nat→Nat→Nat→Nat
 | 0,_,_=>1%m
 | f+1,b,e=>if e=0 then 1%m else if e%2=1 then b*pwm m f (b*b%m) (e/2)%m else pwm m f (b*b%m) (e/2)
theorem QdO (b e m:Nat):(b%m)^e%m=b^e%m:=(Nat.pow_mod b e m).symm
theorem Qoh (m:Nat):∀(f b e:Nat),e<2^f→pwm m f b e=b^e%m
 | 0,b,e,h=>by
   obtain rfl:e=0:=by simpa using h
   rfl
 | f+1,b,e,h=>by
   have ih:=Qoh m f (b*b%m) (e/2) (by rw[QDF]at h;omega)
   rw[QdO]at ih
   have hb:(b*b)^(e/2)=b^(2*(e/2)):=by rw[QEf,Nat.pow_two]
   rw[hb]at ih
   rw[pwm]
   split
   ·rename_i h0
    rw[h0]
    rfl
   ·split
    ·rename_i h1
     rw[ih,Nat.mul_mod_mod,←QEx]
     congr 2
     omega
    ·rw[ih]
     congr 2
     omega
theorem Qgu (t:Nat) (ht:1<t):∀fs:List Nat,(∀ q∈fs,Prm q)→t ∣ fs.foldr (· *·) 1→∃q∈fs,q ∣ t
 | [],_,h=>by
   have:=Nat.le_of_dvd (by decide) h
   simp at this
   omega
 | q :: fs,hp,h=>by
   have hq:=hp q (by simp)
   rcases hq.2 (Nat.gcd t q) (Nat.gcd_dvd_right t q) with h1|h1
   ·obtain⟨r,hr,hd⟩:=Qgu t ht fs (fun r hr=>hp r (by simp[hr])) (Nat.Coprime.dvd_of_dvd_mul_left h1 h)
    exact⟨r,by simp[hr],hd⟩
   ·exact⟨q,by simp,h1 ▸ Nat.gcd_dvd_left t q⟩
theorem QdR:∀(l m:List Nat),l.Nodup→(∀ x∈l,x∈m)→l.length≤m.length
 | [],_,_,_=>Nat.zero_le _
 | x :: l,m,h,hs=>by
   rw[QEI]at h
   have hx:=hs x (by simp)
   have:=QdR l (m.erase x) h.2 (fun y hy=>(List.mem_erase_of_ne (fun e=>by subst e;exact h.1 hy)).2 (hs y (by simp[hy])))
   rw[List.length_erase_of_mem hx]at this
   have:=List.length_pos_of_mem hx
   simp only[QDp]
   omega
theorem Qne (l:List Nat) (n:Nat) (hd:l.Nodup) (hl:l.length=n) (hb:∀x∈l,0<x∧x<n+1) (a:Nat) (h0:0<a) (h1:a<n+1):a∈l:=by
 refine Classical.byContradiction fun ha=>?_
 have:=QdR (0 :: a :: l) (QDu (n+1)) (by
  rw[QEI,QEI]
  refine⟨?_,ha,hd⟩
  intro h
  rcases QCZ.1 h with h|h
  ·omega
  ·have:=hb 0 h
   omega) (by
  intro x hx
  rw[QEo]
  rcases QCZ.1 hx with rfl|hx
  ·omega
  ·rcases QCZ.1 hx with rfl|hx
   ·omega
   ·exact (hb x hx).2)
 simp[hl]at this
 omega
theorem Qf0 {g n k:Nat} (hn:2≤n) (h:g^k%n=1) (j:Nat):g^(k*j)%n=1:=by
 rw[QEf,Nat.pow_mod,h,Nat.one_pow]
 exact QC1 (by omega)
theorem Qh4 {a b n:Nat} (ha:a%n=1):a*b%n=b%n:=by
 rw[QDX,ha,Nat.one_mul,QD4]
theorem QeW (f:Nat→Nat):∀n,(∀ i j,i<j→j<n→f i≠f j)→((QDu n).map f).Nodup
 | 0,_=>by simp
 | n+1,h=>by
   rw[QER,QDq,List.nodup_append]
   refine⟨QeW f n fun i j hi hj=>h i j hi (by omega),by simp,?_⟩
   intro a ha b hb
   obtain⟨i,hi,rfl⟩:=QDs.1 ha
   rw[QEo]at hi
   simp only[QC9,QC3,QEK]at hb
   subst hb
   exact h i n hi (by omega)
theorem QCe (n g:Nat) (fs:List Nat) (hn:2≤n) (hprod:fs.foldr (· *·) 1=n-1) (hpr:∀q∈fs,Prm q) (h1:g^(n-1)%n=1) (h2:∀q∈fs,g^((n-1)/q)%n≠1):
 Prm n∧∀a,a%n≠0→a^(n-1)%n=1:=by
 have hord:∀k,0<k→k<n-1→g^k%n≠1:=by
  intro k
  induction k using Nat.strongRecOn with
  | _ m ih=>
    intro h0 hlt hg
    by_cases hr:(n-1)%m=0
    ·have ht:m*((n-1)/m)=n-1:=Nat.mul_div_cancel' (Nat.dvd_of_mod_eq_zero hr)
     generalize (n-1)/m=t at ht
     have ht1:1<t:=by
      rcases QDJ 1 t with h|h
      ·exact h
      ·have:m*t≤m*1:=QEg m h
       omega
     obtain⟨q,hq,u,hu⟩:=Qgu t ht1 fs hpr (by rw[hprod,←ht];exact Nat.dvd_mul_left t m)
     have hqp:=(hpr q hq).1
     refine h2 q hq ?_
     have:(n-1)/q=m*u:=by
      rw[←ht,hu,QEP]
      exact Nat.mul_div_cancel_left _ (by omega)
     rw[this]
     exact Qf0 hn hg u
    ·refine ih ((n-1)%m) (QC8 _ h0) (by omega) (by have:=QC8 (n-1) h0;omega) ?_
     have hd:g^(m*((n-1)/m))*g^((n-1)%m)=g^(n-1):=by rw[←QD2,QDA]
     have e:=Qh4 (b:=g^((n-1)%m)) (Qf0 hn hg ((n-1)/m))
     rw[hd,h1]at e
     exact e.symm
 have hinv:∀i,i≤n-1→g^i*g^(n-1-i)%n=1:=by
  intro i hi
  rw[←QD2,show i+(n-1-i)=n-1 by omega]
  exact h1
 have hnz:∀i,i≤n-1→g^i%n≠0:=by
  intro i hi h
  have:=hinv i hi
  rw[QDX,h,QEA,QEO]at this
  omega
 have hall:∀a,a%n≠0→∃i,i<n-1∧g^i%n=a%n:=by
  intro a ha
  have:=Qne ((QDu (n-1)).map fun i=>g^i%n) (n-1) (QeW _ _ (by
   intro i j hi hj he
   refine hord (j-i) (by omega) (by omega) ?_
   have e1:g^j=g^i*g^(j-i):=by rw[←QD2];congr 1;omega
   have e2:=hinv i (by omega)
   have e3:g^(n-1-i)*g^j%n=g^(n-1-i)*g^i%n:=by rw[QDX,←he,←QDX]
   rw[e1,←QDR,QDD (g^(n-1-i)),Qh4 e2,e2]at e3
   exact e3)) (by simp) (by
   intro x hx
   obtain⟨i,hi,rfl⟩:=QDs.1 hx
   rw[QEo]at hi
   have:=hnz i (by omega)
   have:=QC8 (g^i) (show 0<n by omega)
   omega) (a%n) (by omega) (by have:=QC8 a (show 0<n by omega);omega)
  obtain⟨i,hi,he⟩:=QDs.1 this
  exact⟨i,QEo.1 hi,he⟩
 have hfer:∀a,a%n≠0→a^(n-1)%n=1:=by
  intro a ha
  obtain⟨i,_,he⟩:=hall a ha
  rw[←QdO,←he,QdO,←QEf,QDD]
  exact Qf0 hn h1 i
 refine⟨⟨hn,fun d hd=>?_⟩,hfer⟩
 by_cases hdn:d=n
 ·exact .inr hdn
 ·refine .inl ?_
  have hle:=Nat.le_of_dvd (by omega) hd
  have hd0:d≠0:=fun h=>by
   subst h
   have:=Nat.eq_zero_of_zero_dvd hd
   omega
  have h3:=hfer d (by rw[QC1 (by omega)];exact hd0)
  have h4:d ∣ d^(n-1):=by
   obtain⟨k,hk⟩:∃k,n-1=k+1:=⟨n-2,by omega⟩
   rw[hk,QDF]
   exact Nat.dvd_mul_left d _
  have h5:d ∣ d^(n-1)%n:=(Nat.dvd_mod_iff hd).2 h4
  rw[h3]at h5
  exact Nat.dvd_one.1 h5
def Qz3 (n g:Nat) (fs:List Nat):Bool:=
 decide (2≤n)&&decide (n<2^256)&&(fs.foldr (· *·) 1==n-1)&&(pwm n 256 g (n-1)==1)&&fs.all fun q=>pwm n 256 g ((n-1)/q) != 1
theorem Qat (n g:Nat) (fs:List Nat) (h:Qz3 n g fs=true) (hpr:∀q∈fs,Prm q):Prm n∧∀a,a%n≠0→a^(n-1)%n=1:=by
 simp only[Qz3,QC2,decide_eq_true_eq,beq_iff_eq,QDn,bne_iff_ne]at h
 obtain⟨⟨⟨⟨h1,h2⟩,h3⟩,h4⟩,h5⟩:=h
 refine QCe n g fs h1 h3 hpr ?_ ?_
 ·rw[Qoh _ _ _ _ (by omega)]at h4
  exact h4
 ·intro q hq
  have:=h5 q hq
  rw[Qoh _ _ _ _ (QD6 (Nat.div_le_self _ _) (by omega))]at this
  exact this
def Qlz:List Nat:=[2,3,5,7,13,17,19,23,29,31,41,43,47,59,83,97,103,107,127,131,173,223,353,419,479,487,991]
theorem Qac:∀q∈Qlz,Prm q:=fun q hq=>QlO (QDn.1 (show Qlz.all small=true by decide +kernel) q hq)
theorem Qq0:Prm 32573∧∀a,a%32573≠0→a^(32573-1)%32573=1:=
 Qat 32573 2 [2,2,17,479] (by decide +kernel) (by
  intro q hq
  simp only[QCZ,QC0,or_false]at hq
  rcases hq with rfl|rfl|rfl|rfl
  ·exact Qac _ (by decide)
  ·exact Qac _ (by decide)
  ·exact Qac _ (by decide)
  ·exact Qac _ (by decide))
theorem Qs1:Prm 65147∧∀a,a%65147≠0→a^(65147-1)%65147=1:=
 Qat 65147 2 [2,32573] (by decide +kernel) (by
  intro q hq
  simp only[QCZ,QC0,or_false]at hq
  rcases hq with rfl|rfl
  ·exact Qac _ (by decide)
  ·exact Qq0.1)
theorem Qrh:Prm 57467∧∀a,a%57467≠0→a^(57467-1)%57467=1:=
 Qat 57467 2 [2,59,487] (by decide +kernel) (by
  intro q hq
  simp only[QCZ,QC0,or_false]at hq
  rcases hq with rfl|rfl|rfl
  ·exact Qac _ (by decide)
  ·exact Qac _ (by decide)
  ·exact Qac _ (by decide))
theorem QpG:Prm 132049∧∀a,a%132049≠0→a^(132049-1)%132049=1:=
 Qat 132049 26 [2,2,2,2,3,3,7,131] (by decide +kernel) (by
  intro q hq
  simp only[QCZ,QC0,or_false]at hq
  rcases hq with rfl|rfl|rfl|rfl|rfl|rfl|rfl|rfl
  ·exact Qac _ (by decide)
  ·exact Qac _ (by decide)
  ·exact Qac _ (by decide)
  ·exact Qac _ (by decide)
  ·exact Qac _ (by decide)
  ·exact Qac _ (by decide)
  ·exact Qac _ (by decide)
  ·exact Qac _ (by decide))
theorem QuD:Prm 3727∧∀a,a%3727≠0→a^(3727-1)%3727=1:=
 Qat 3727 3 [2,3,3,3,3,23] (by decide +kernel) (by
  intro q hq
  simp only[QCZ,QC0,or_false]at hq
  rcases hq with rfl|rfl|rfl|rfl|rfl|rfl
  ·exact Qac _ (by decide)
  ·exact Qac _ (by decide)
  ·exact Qac _ (by decide)
  ·exact Qac _ (by decide)
  ·exact Qac _ (by decide)
  ·exact Qac _ (by decide))
theorem QnP:Prm 1923133∧∀a,a%1923133≠0→a^(1923133-1)%1923133=1:=
 Qat 1923133 2 [2,2,3,43,3727] (by decide +kernel) (by
  intro q hq
  simp only[QCZ,QC0,or_false]at hq
  rcases hq with rfl|rfl|rfl|rfl|rfl
  ·exact Qac _ (by decide)
  ·exact Qac _ (by decide)
  ·exact Qac _ (by decide)
  ·exact Qac _ (by decide)
  ·exact QuD.1)
theorem QkE:Prm 1723∧∀a,a%1723≠0→a^(1723-1)%1723=1:=
 Qat 1723 3 [2,3,7,41] (by decide +kernel) (by
  intro q hq
  simp only[QCZ,QC0,or_false]at hq
  rcases hq with rfl|rfl|rfl|rfl
  ·exact Qac _ (by decide)
  ·exact Qac _ (by decide)
  ·exact Qac _ (by decide)
  ·exact Qac _ (by decide))
theorem QpU:Prm 430751∧∀a,a%430751≠0→a^(430751-1)%430751=1:=
 Qat 430751 17 [2,5,5,5,1723] (by decide +kernel) (by
  intro q hq
  simp only[QCZ,QC0,or_false]at hq
  rcases hq with rfl|rfl|rfl|rfl|rfl
  ·exact Qac _ (by decide)
  ·exact Qac _ (by decide)
  ·exact Qac _ (by decide)
  ·exact Qac _ (by decide)
  ·exact QkE.1)
theorem QtJ:Prm 4153∧∀a,a%4153≠0→a^(4153-1)%4153=1:=
 Qat 4153 5 [2,2,2,3,173] (by decide +kernel) (by
  intro q hq
  simp only[QCZ,QC0,or_false]at hq
  rcases hq with rfl|rfl|rfl|rfl|rfl
  ·exact Qac _ (by decide)
  ·exact Qac _ (by decide)
  ·exact Qac _ (by decide)
  ·exact Qac _ (by decide)
  ·exact Qac _ (by decide))
theorem Qfb:Prm 31757755568855353∧∀a,a%31757755568855353≠0→a^(31757755568855353-1)%31757755568855353=1:=
 Qat 31757755568855353 10 [2,2,2,3,31,107,223,4153,430751] (by decide +kernel) (by
  intro q hq
  simp only[QCZ,QC0,or_false]at hq
  rcases hq with rfl|rfl|rfl|rfl|rfl|rfl|rfl|rfl|rfl
  ·exact Qac _ (by decide)
  ·exact Qac _ (by decide)
  ·exact Qac _ (by decide)
  ·exact Qac _ (by decide)
  ·exact Qac _ (by decide)
  ·exact Qac _ (by decide)
  ·exact Qac _ (by decide)
  ·exact QtJ.1
  ·exact QpU.1)
theorem QtS:Prm 9463∧∀a,a%9463≠0→a^(9463-1)%9463=1:=
 Qat 9463 3 [2,3,19,83] (by decide +kernel) (by
  intro q hq
  simp only[QCZ,QC0,or_false]at hq
  rcases hq with rfl|rfl|rfl|rfl
  ·exact Qac _ (by decide)
  ·exact Qac _ (by decide)
  ·exact Qac _ (by decide)
  ·exact Qac _ (by decide))
theorem QrQ:Prm 37853∧∀a,a%37853≠0→a^(37853-1)%37853=1:=
 Qat 37853 2 [2,2,9463] (by decide +kernel) (by
  intro q hq
  simp only[QCZ,QC0,or_false]at hq
  rcases hq with rfl|rfl|rfl
  ·exact Qac _ (by decide)
  ·exact Qac _ (by decide)
  ·exact QtS.1)
theorem Qrb:Prm 75707∧∀a,a%75707≠0→a^(75707-1)%75707=1:=
 Qat 75707 2 [2,37853] (by decide +kernel) (by
  intro q hq
  simp only[QCZ,QC0,or_false]at hq
  rcases hq with rfl|rfl
  ·exact Qac _ (by decide)
  ·exact QrQ.1)
theorem QuA:Prm 2437∧∀a,a%2437≠0→a^(2437-1)%2437=1:=
 Qat 2437 2 [2,2,3,7,29] (by decide +kernel) (by
  intro q hq
  simp only[QCZ,QC0,or_false]at hq
  rcases hq with rfl|rfl|rfl|rfl|rfl
  ·exact Qac _ (by decide)
  ·exact Qac _ (by decide)
  ·exact Qac _ (by decide)
  ·exact Qac _ (by decide)
  ·exact Qac _ (by decide))
theorem Qpu:Prm 569003∧∀a,a%569003≠0→a^(569003-1)%569003=1:=
 Qat 569003 2 [2,7,97,419] (by decide +kernel) (by
  intro q hq
  simp only[QCZ,QC0,or_false]at hq
  rcases hq with rfl|rfl|rfl|rfl
  ·exact Qac _ (by decide)
  ·exact Qac _ (by decide)
  ·exact Qac _ (by decide)
  ·exact Qac _ (by decide))
theorem QiR:Prm 2773320623∧∀a,a%2773320623≠0→a^(2773320623-1)%2773320623=1:=
 Qat 2773320623 5 [2,2437,569003] (by decide +kernel) (by
  intro q hq
  simp only[QCZ,QC0,or_false]at hq
  rcases hq with rfl|rfl|rfl
  ·exact Qac _ (by decide)
  ·exact QuA.1
  ·exact Qpu.1)
theorem Qh9:Prm 72106336199∧∀a,a%72106336199≠0→a^(72106336199-1)%72106336199=1:=
 Qat 72106336199 7 [2,13,2773320623] (by decide +kernel) (by
  intro q hq
  simp only[QCZ,QC0,or_false]at hq
  rcases hq with rfl|rfl|rfl
  ·exact Qac _ (by decide)
  ·exact Qac _ (by decide)
  ·exact QiR.1)
theorem QmS:Prm 8574133∧∀a,a%8574133≠0→a^(8574133-1)%8574133=1:=
 Qat 8574133 2 [2,2,3,7,103,991] (by decide +kernel) (by
  intro q hq
  simp only[QCZ,QC0,or_false]at hq
  rcases hq with rfl|rfl|rfl|rfl|rfl|rfl
  ·exact Qac _ (by decide)
  ·exact Qac _ (by decide)
  ·exact Qac _ (by decide)
  ·exact Qac _ (by decide)
  ·exact Qac _ (by decide)
  ·exact Qac _ (by decide))
theorem Qfy:Prm 1919519569386763∧∀a,a%1919519569386763≠0→a^(1919519569386763-1)%1919519569386763=1:=
 Qat 1919519569386763 2 [2,3,7,19,47,47,127,8574133] (by decide +kernel) (by
  intro q hq
  simp only[QCZ,QC0,or_false]at hq
  rcases hq with rfl|rfl|rfl|rfl|rfl|rfl|rfl|rfl
  ·exact Qac _ (by decide)
  ·exact Qac _ (by decide)
  ·exact Qac _ (by decide)
  ·exact Qac _ (by decide)
  ·exact Qac _ (by decide)
  ·exact Qac _ (by decide)
  ·exact Qac _ (by decide)
  ·exact QmS.1)
theorem Qcb:Prm 75445702479781427272750846543864801∧∀a,a%75445702479781427272750846543864801≠0→a^(75445702479781427272750846543864801-1)%75445702479781427272750846543864801=1:=
 Qat 75445702479781427272750846543864801 7 [2,2,2,2,2,3,3,5,5,75707,72106336199,1919519569386763] (by decide +kernel) (by
  intro q hq
  simp only[QCZ,QC0,or_false]at hq
  rcases hq with rfl|rfl|rfl|rfl|rfl|rfl|rfl|rfl|rfl|rfl|rfl|rfl
  ·exact Qac _ (by decide)
  ·exact Qac _ (by decide)
  ·exact Qac _ (by decide)
  ·exact Qac _ (by decide)
  ·exact Qac _ (by decide)
  ·exact Qac _ (by decide)
  ·exact Qac _ (by decide)
  ·exact Qac _ (by decide)
  ·exact Qac _ (by decide)
  ·exact Qrb.1
  ·exact Qh9.1
  ·exact Qfy.1)
theorem QaS:Prm 74058212732561358302231226437062788676166966415465897661863160754340907∧∀a,a%74058212732561358302231226437062788676166966415465897661863160754340907≠0→a^(74058212732561358302231226437062788676166966415465897661863160754340907-1)%74058212732561358302231226437062788676166966415465897661863160754340907=1:=
 Qat 74058212732561358302231226437062788676166966415465897661863160754340907 2 [2,3,353,57467,132049,1923133,31757755568855353,75445702479781427272750846543864801] (by decide +kernel) (by
  intro q hq
  simp only[QCZ,QC0,or_false]at hq
  rcases hq with rfl|rfl|rfl|rfl|rfl|rfl|rfl|rfl
  ·exact Qac _ (by decide)
  ·exact Qac _ (by decide)
  ·exact Qac _ (by decide)
  ·exact Qrh.1
  ·exact QpG.1
  ·exact QnP.1
  ·exact Qfb.1
  ·exact Qcb.1)
theorem QBB:Prm 57896044618658097711785492504343953926634992332820282019728792003956564819949∧∀a,a%57896044618658097711785492504343953926634992332820282019728792003956564819949≠0→a^(57896044618658097711785492504343953926634992332820282019728792003956564819949-1)%57896044618658097711785492504343953926634992332820282019728792003956564819949=1:=
 Qat 57896044618658097711785492504343953926634992332820282019728792003956564819949 2 [2,2,3,65147,74058212732561358302231226437062788676166966415465897661863160754340907] (by decide +kernel) (by
  intro q hq
  simp only[QCZ,QC0,or_false]at hq
  rcases hq with rfl|rfl|rfl|rfl|rfl
  ·exact Qac _ (by decide)
  ·exact Qac _ (by decide)
  ·exact Qac _ (by decide)
  ·exact Qs1.1
  ·exact QaS.1)
end Go.Proofs.YticcbmhcgmhohaaGreat
namespace Go.Proofs.YticcbmhcgmhohaaGreat
open Go.RowKit
def num (bs:List UInt8):Nat:=val 256 (bs.map QE4)
theorem Qoy (bs:List UInt8) (j:Nat) (h:j<bs.length):num (bs.drop j)=(bs.getD j 0).toNat+256*num (bs.drop (j+1)):=by
 rw[QDP h,num,QC9,val,num,QCK,QCJ h]
 rfl
def dn:Nat→Int
 | 0=> -1
 | j+1=>j
theorem Qkl:dn 0= -1:=rfl
theorem Qkp (j:Nat):dn (j+1)=j:=rfl
theorem QeU (j:Nat):(j:Int)-1=dn j:=by
 cases j with
 | zero=>rfl
 | succ j=>simp only[dn];omega
theorem Qth (x:UInt8) (m:Nat):(shr8 x m &&& 1).toNat=x.toNat/2^m%2:=by
 rw[UInt8.toNat_and]
 have e:(shr8 x m).toNat=x.toNat/2^m:=by
  rw[shr8]
  show (BitVec.toNat _)=_
  rw[QDz,QDv]
  rfl
 rw[e]
 exact Nat.and_two_pow_sub_one_eq_mod _ 1
theorem QrF (x:UInt8) (m:Nat):(shr8 x m &&& 1==1)=decide (x.toNat/2^m%2=1):=by
 rw[←Qth,QDw,beq_iff_eq,decide_eq_true_eq,←QDr]
 rfl
theorem pow_two (a e P:Nat):(a^e%P)*(a^e%P)%P=a^(2*e)%P:=by rw[←QDX,←QD2,Nat.two_mul]
theorem Qmr (a e P:Nat):(a^e%P)*(a^e%P)*a%P=a^(2*e+1)%P:=by
 rw[QDF,QDX,pow_two,←QDX]
theorem QtT (N x m:Nat) (hm:m<8):N*2^(8-m)+x/2^m=2*(N*2^(8-(m+1))+x/2^(m+1))+x/2^m%2:=by
 rw[show 8-m=(8-(m+1))+1 by omega,QDF,QDF,←QDt,←QDR]
 omega
theorem of_1 (w:World):Calls Tryz.prog 158 #[.int .u64 1] w fun e w'=>e= .returned (E 1)∧Later w w':=Qtm 1 (by decide) w
set_option maxRecDepth 100000 in
set_option maxHeartbeats 2000000 in
theorem QsA (a:Nat) (ha:a<T256) (A:Option Addr) (n c:Nat) (bs:List UInt8) (w:World) (hr:RdB w A n bs) (hn:n≤140737488355328):
 Calls Tryz.prog 326 #[E a,.slice A n c] w fun e w'=>e= .returned (E (a^num bs%P25))∧Later w w':=by
 have hbl:=hr.len
 have h1:Blk ((w.alloc (.cells (EL a).toArray 360)).alloc (.cells (QCC 4 (.int .u64 0)).toArray 360)) w.heap.size 360 (EL a):=(Blk.new _ _ _).later (Qaa _ _)
 have h2:Blk ((w.alloc (.cells (EL a).toArray 360)).alloc (.cells (QCC 4 (.int .u64 0)).toArray 360)) (w.heap.size+1) 360 (QCC 4 (.int .u64 0)):=Blk.new' _ _ _ (by simp)
 have L0:Later w ((w.alloc (.cells (EL a).toArray 360)).alloc (.cells (QCC 4 (.int .u64 0)).toArray 360)):=(Qaa _ _).trans (Qaa _ _)
 go_enter Tryz.func326,Tryz.ntmps326
 go_wp2_with (first
  | (go_at_call 158;(with_reducible refine (of_1 _).mono ?_);rintro e w2 ⟨rfl,hl2⟩)
  | (refine QaA rfl rfl _ _ rfl (Blk.new w2 _ (QCC 4 (.int .u64 0))) rfl rfl rfl ?_;intro w3 hb3 ho3)
  | fail)
 have h13:=((h1.later hl2).later (Qaa _ (.cells (QCC 4 (.int .u64 0)).toArray 360))).only ho3 (by have:=(h1.later hl2).lt;omega)
 have h23:=((h2.later hl2).later (Qaa _ (.cells (QCC 4 (.int .u64 0)).toArray 360))).only ho3 (by have:=(h2.later hl2).lt;omega)
 have L3:=((L0.trans hl2).alloc (.cells (QCC 4 (.int .u64 0)).toArray 360)).only ho3 (by have:=(L0.trans hl2).size;omega)
 have hg:w.heap.size+1<w2.heap.size:=(h2.later hl2).lt
 generalize w2.heap.size=g at *
 clear h1 h2 L0 hl2 ho3
 go_loopw [6] (fun i wr=>∃k:Nat,k≤n∧i= .int .i64 (dn k)∧Blk wr w.heap.size 360 (EL a)∧Blk wr (w.heap.size+1) 360 (QCC 4 (.int .u64 0))∧Blk wr g 360 (EL (a^num (bs.drop k)%P25))∧Later w wr) (fun i _=>(intOf i+1).toNat)
 case atStart=>
  refine⟨n,by omega,by rw[←QeU],h13,h23,?_,L3⟩
  rw[QDM (by omega)]
  exact hb3
 case round=>
  clear h13 h23 hb3 L3
  obtain⟨k,hk,rfl,h1,h2,h3,L⟩:=hrel
  cases k with
  | zero=>
    rw[QD7]at h3
    obtain⟨y,hy⟩:∃y,y=a^num bs%P25:=⟨_,rfl⟩
    rw[←hy]at h3
    have HY:=hid hy
    clear hy
    simp only[Qkl]
    go_wp2_with (first
     | (refine Qbv rfl _ rfl h3 rfl ?_)
     | (refine QaA rfl rfl _ _ rfl h2 rfl rfl rfl ?_;intro w9 hb9 ho9)
     | fail)
    exact bodyPost_ret (QgK rfl hb9 rfl) rfl ⟨by rw[HY.out],L.only ho9 (by omega)⟩
  | succ j=>
    obtain⟨b,o,rfl,hb,hc⟩:=hr.at_ (by omega)
    have HC:=hid (hc j (by omega))
    have HN:=hid (Qoy bs j (by omega))
    clear hc hr
    simp only[Qkp]
    generalize bs.getD j 0=x at *
    generalize num (bs.drop (j+1))=N at *
    generalize hNN:num (bs.drop j)=N' at *
    have HNN:=hid hNN
    clear hNN
    go_wp2_with fail
    go_loopw [7] (fun i wr=>∃m:Nat,m≤8∧i= .int .i64 (dn m)∧Blk wr w.heap.size 360 (EL a)∧Blk wr (w.heap.size+1) 360 (QCC 4 (.int .u64 0))∧Blk wr g 360 (EL (a^(N*2^(8-m)+x.toNat/2^m)%P25))∧Later w wr) (fun i _=>(intOf i+1).toNat)
    case atStart=>
     refine⟨8,by omega,rfl,h1,h2,?_,L⟩
     have:x.toNat/2^8=0:=QDy x.toNat_lt
     rw[this,QDL,QEW,QEq,QD8]
     exact h3
    case round=>
     clear h1 h2 h3 L
     obtain⟨m,hm,rfl,h1,h2,h3,L⟩:=hrel
     cases m with
     | zero=>
       simp only[Qkl]
       go_wp2_with fail
       go_roundw
       case rel=>
        refine⟨j,by omega,by rw[QeU],h1,h2,?_,L⟩
        have e:N*2^(8-0)+x.toNat/2^0=N':=by
         rw[HN.out,QEW,Nat.div_one]
         show N*256+_=_
         omega
        rw[e]at h3
        have hn':num (bs.drop j)=N':=HNN.out
        rw[hn']
        exact h3
       case measure=>simp[intOf]
     | succ m=>
       have d0:wr.cell? ⟨b,o+j,none⟩=some (W8 x):=(L.below.cell (p:=⟨b,o+j,none⟩) hb).trans HC.out
       have HE:=hid (QtT N x.toNat m (by omega))
       obtain⟨y,hy⟩:∃y,y=a^(N*2^(8-(m+1))+x.toNat/2^(m+1))%P25:=⟨_,rfl⟩
       rw[←hy]at h3
       have hyT:y<T256:=by rw[hy];exact QDG (QC8 _ Qbd) (by decide)
       have HY:=hid hy
       clear hy
       have hyy:y*y%P25<T256:=QDG (QC8 _ Qbd) (by decide)
       have hbe:=QrF x m
       have hcnt:cnt (QDC (m:Int))=m:=by rw[Qfi,cnt,tn64 (by unfold B64;omega)]
       simp only[Qkp]
       rcases Nat.mod_two_eq_zero_or_one (x.toNat/2^m) with hz|hz
       ·have hd:(shr8 x m &&& 1==1)=false:=by rw[hbe,hz];rfl
        have HZ:=hid hz
        clear hbe hz
        go_wp2_with (first
         | (refine Qbv rfl _ rfl h3 rfl ?_)
         | (go_at_call 266;(with_reducible refine (QgD y hyT _).mono ?_);rintro e w4 ⟨rfl,hl4⟩)
         | (refine QaA rfl rfl _ _ rfl (h3.later hl4) rfl rfl (Qal _) ?_;intro w5 hb5 ho5
            have d5:w5.cell? ⟨b,o+j,none⟩=some (W8 x):=(((L.trans hl4).only ho5 (by omega)).below.cell (p:=⟨b,o+j,none⟩) hb).trans HC.out)
         | fail)
        go_roundw
        case rel=>
         refine⟨m,by omega,by rw[QeU],(h1.later hl4).only ho5 (by omega),(h2.later hl4).only ho5 (by omega),?_,(L.trans hl4).only ho5 (by omega)⟩
         rw[HE.out,HZ.out,QD8,←pow_two,←HY.out]
         exact hb5
        case measure=>simp[intOf]
       ·have hd:(shr8 x m &&& 1==1)=true:=by rw[hbe,hz];rfl
        have HZ:=hid hz
        clear hbe hz
        go_wp2_with (first
         | (refine Qbv rfl _ rfl h3 rfl ?_)
         | (go_at_call 266;(with_reducible refine (QgD y hyT _).mono ?_);rintro e w4 ⟨rfl,hl4⟩)
         | (refine QaA rfl rfl _ _ rfl (h3.later hl4) rfl rfl (Qal _) ?_;intro w5 hb5 ho5
            have d5:w5.cell? ⟨b,o+j,none⟩=some (W8 x):=(((L.trans hl4).only ho5 (by omega)).below.cell (p:=⟨b,o+j,none⟩) hb).trans HC.out
            have h15:=(h1.later hl4).only ho5 (by omega))
         | (refine Qbv rfl _ rfl hb5 rfl ?_)
         | (refine Qbv rfl _ rfl h15 rfl ?_)
         | (go_at_call 268;(with_reducible refine (QdL (y*y%P25) a hyy ha _).mono ?_);rintro e w6 ⟨rfl,hl6⟩)
         | (refine QaA rfl rfl _ _ rfl (hb5.later hl6) rfl rfl (Qal _) ?_;intro w7 hb7 ho7)
         | fail)
        go_roundw
        case rel=>
         refine⟨m,by omega,by rw[QeU],(h15.later hl6).only ho7 (by omega),(((h2.later hl4).only ho5 (by omega)).later hl6).only ho7 (by omega),?_,(((L.trans hl4).only ho5 (by omega)).trans hl6).only ho7 (by omega)⟩
         rw[HE.out,HZ.out,←Qmr,←HY.out]
         first|exact hb7|(rw [Nat.mod_mul_mod]at hb7;exact hb7)
        case measure=>simp[intOf]
theorem QzU {w:World} {g:Nat} {t:TypeId} {l:List Value} {n:Nat} (h:Blk w g t l) (hn:l.length=n):Rd w (some ⟨g,0,none⟩) n l:=
 ⟨hn,fun _=>⟨g,0,rfl,h.lt,fun j u hu=>by rw[QC4];exact h.cellD j hu⟩⟩
theorem Qcr {w:World} {g:Nat} {t:TypeId} {bs:List UInt8} {n:Nat} (h:Blk w g t (bs.map W8)) (hn:bs.length=n):RdB w (some ⟨g,0,none⟩) n bs:=QzU h (by simpa using hn)
def Qhv:List UInt8:=235 :: (QCC 30 255++[127])
theorem QrP:num Qhv=P25-2:=by decide
def pinv (a:Nat):Nat:=a^(P25-2)%P25
theorem QoM (l:List Value) (hl:l=QCC 32 (Value.int .u8 255)):(l.set 0 (.int .u8 235)).set 31 (.int .u8 127)=Qhv.map W8:=by
 subst hl
 rfl
set_option maxRecDepth 100000 in
set_option maxHeartbeats 2000000 in
theorem QwL (a:Nat) (ha:a<T256) (w:World):
 Calls Tryz.prog 269 #[E a] w fun e w'=>e= .returned (E (pinv a))∧Later w w':=by
 have h1:Blk ((w.alloc (.cells (EL a).toArray 360)).alloc (.cells (QCC 4 (.int .u64 0)).toArray 360)) w.heap.size 360 (EL a):=(Blk.new _ _ _).later (Qaa _ _)
 have h2:Blk ((w.alloc (.cells (EL a).toArray 360)).alloc (.cells (QCC 4 (.int .u64 0)).toArray 360)) (w.heap.size+1) 360 (QCC 4 (.int .u64 0)):=Blk.new' _ _ _ (by simp)
 have L0:Later w ((w.alloc (.cells (EL a).toArray 360)).alloc (.cells (QCC 4 (.int .u64 0)).toArray 360)):=(Qaa _ _).trans (Qaa _ _)
 have HP:=hid (QsA a ha)
 have HN:=hid QrP
 go_enter Tryz.func269,Tryz.ntmps269
 go_wp2_with (first
  | (refine QaF rfl _ _ 22 rfl 5 (.int .u8 0) 1 Tryz.underlying22 Qdo rfl _ _ _ _ 32 rfl rfl rfl rfl (by omega) (by omega) ?_;intro w2 hb2 hl2)
  | fail)
 have h12:=h1.later hl2
 have h22:=h2.later hl2
 have L2:=L0.trans hl2
 replace hb2:Blk w2 (w.heap.size+1+1) 5 (QCC 32 (.int .u8 0)):=Eq.mp (congrArg (fun g=>Blk w2 g 5 (QCC 32 (.int .u8 0))) (by simp)) hb2
 clear h1 h2 L0 hl2
 go_loopw [8] (fun i wr=>∃k:Nat,k≤32∧i= .int .i64 k∧Blk wr w.heap.size 360 (EL a)∧Blk wr (w.heap.size+1) 360 (QCC 4 (.int .u64 0))∧Blk wr (w.heap.size+1+1) 5 (Qbu (QCC 32 (.int .u8 255)) (QCC 32 (.int .u8 0)) k)∧Later w wr) (fun i _=>32-(intOf i).toNat)
 case atStart=>exact⟨0,by omega,rfl,h12,h22,by rw[Qbh];exact hb2,L2⟩
 case round=>
  clear h12 h22 hb2 L2
  obtain⟨k,hk,rfl,h1,h2,h3,L⟩:=hrel
  by_cases hlt:k<32
  ·go_wp2_with (first
    | (refine Qad rfl rfl _ _ _ rfl _ _ _ _ h3 rfl ?hl rfl (by kernel_rfl) ?_;(case hl=>rw[Qaw _ _ _ (by rfl)];exact hlt);intro v w6 hv hb6 ho6;simp[go_sem]at hv;subst hv)
    | fail)
   go_roundw
   case rel=>
    rw[QaN _ _ _ _ (by rfl) hlt (by rw[QEj,if_pos hlt])]at hb6
    exact⟨k+1,by omega,by go_num,h1.only ho6 (by omega),h2.only ho6 (by omega),hb6,L.only ho6 (by omega)⟩
   case measure=>simp[intOf];omega
  ·have HF:=hid (QoM _ (QbP (QCC 32 (Value.int .u8 255)) (QCC 32 (.int .u8 0)) 32 rfl rfl))
   rw[show k=32 by omega]at h3
   have hkf:decide ((k:Int)<32)=false:=by simp;omega
   go_wp2_with (first
    | (refine Qad rfl rfl _ _ _ rfl _ _ _ _ h3 rfl ?hl rfl (by kernel_rfl) ?_;(case hl=>rw[Qaw _ _ _ (by rfl)];decide);intro v w6 hv hb6 ho6;simp[go_sem]at hv;subst hv)
    | (refine Qad rfl rfl _ _ _ rfl _ _ _ _ hb6 rfl ?hl rfl (by kernel_rfl) ?_;(case hl=>rw[QDl,Qaw _ _ _ (by rfl)];decide);intro v w7 hv hb7 ho7;simp[go_sem]at hv;subst hv
       rw[HF.out]at hb7
       have h17:=(h1.only ho6 (by omega)).only ho7 (by omega)
       have h27:=(h2.only ho6 (by omega)).only ho7 (by omega)
       have L7:=(L.only ho6 (by omega)).only ho7 (by omega))
    | (refine Qbv rfl _ rfl h17 rfl ?_)
    | (go_at_call 326;(with_reducible refine (HP.out _ 32 _ Qhv _ (Qcr hb7 rfl) (by omega)).mono ?_);rintro e w8 ⟨rfl,hl8⟩
       rw[HN.out])
    | (refine QaA rfl rfl _ _ rfl (h27.later hl8) rfl rfl rfl ?_;intro w9 hb9 ho9)
    | fail)
   exact bodyPost_ret (QgK rfl hb9 rfl) rfl ⟨rfl,(L7.trans hl8).only ho9 (by omega)⟩
def RdE (w:World) (A:Option Addr) (n:Nat) (ns:List Nat):Prop:=
 ns.length=n∧(0<n→∃b o,A=some ⟨b,o,none⟩∧b<w.heap.size∧∀j i v,j<n→(EL (ns.getD j 0))[i]?=some v→w.cell? ⟨b,o+j*4+i,none⟩=some v)
theorem RdE.later {w w':World} {A:Option Addr} {n:Nat} {ns:List Nat} (h:RdE w A n ns) (hl:Later w w'):RdE w' A n ns:=by
 refine⟨h.1,fun hn=>?_⟩
 obtain⟨b,o,hA,hb,hc⟩:=h.2 hn
 exact⟨b,o,hA,QCX hb hl.size,fun j i v hj hv=>(hl.below.cell (p:=⟨b,o+j*4+i,none⟩) hb).trans (hc j i v hj hv)⟩
theorem QuO (l:List Nat) (k:Nat) (h:k<l.length):(l.take (k+1)).sum=(l.take k).sum+l.getD k 0:=by
 rw[QDd h,List.sum_append,QCK,QCJ h]
 simp
def QeO:List Nat→Nat
 | []=>1
 | x :: l=>x*QeO l
theorem Qhe:∀l m:List Nat,QeO (l++m)=QeO l*QeO m
 | [],m=>by simp[QeO]
 | x :: l,m=>by rw[QCI,QeO,Qhe l m,QeO,QDR]
theorem QrS (l:List Nat) (k:Nat) (h:k<l.length):QeO (l.take (k+1))=QeO (l.take k)*l.getD k 0:=by
 rw[QDd h,Qhe,QCK,QCJ h]
 simp[QeO]
theorem QjY {l:List Nat} {j:Nat} (h:j<l.length):l.getD j 0∈l:=by
 rw[QCK,QCJ h]
 exact QD0 h
set_option maxRecDepth 100000 in
set_option maxHeartbeats 2000000 in
theorem Qxr (A:Option Addr) (n c:Nat) (ns:List Nat) (w:World) (hr:RdE w A n ns) (hns:∀x∈ns,x<T256) (hn:n≤140737488355328):
 Calls Tryz.prog 264 #[.slice A n c] w fun e w'=>e= .returned (E (ns.sum%P25))∧Later w w':=by
 have hnl:=hr.1
 go_enter Tryz.func264,Tryz.ntmps264
 go_wp2
 go_loopw [8] (fun i wr=>∃k:Nat,k≤n∧i= .int .i64 k∧Blk wr w.heap.size 360 (QCC 4 (.int .u64 0))∧Blk wr (w.heap.size+1) 360 (EL ((ns.take k).sum%P25))∧Later w wr) (fun i _=>n-(intOf i).toNat)
 case atStart=>exact⟨0,by omega,rfl,(Blk.new w _ (QCC 4 (Value.int .u64 0))).later (Qaa _ _),by rw[QEw];exact Blk.new' _ _ (QCC 4 (Value.int .u64 0)) (by simp),(Qaa _ _).trans (Qaa _ _)⟩
 case round=>
  obtain⟨k,hk,rfl,h1,h2,L⟩:=hrel
  by_cases hlt:k<n
  ·obtain⟨b,o,rfl,hb,hc⟩:=(hr.later L).2 (by omega)
   have HT:=hid (QuO ns k (by omega))
   have hx:ns.getD k 0<T256:=hns _ (QjY (by omega))
   have hc':=fun i v hv=>hc k i v hlt hv
   generalize ns.getD k 0=x at *
   have HC:=hid hc'
   clear hc hc' hr
   generalize hs:(ns.take k).sum=s at *
   have HSS:=hid hs
   clear hs
   go_wp2_with (first
    | (refine QaD rfl 360 _ rfl b (o+k*4) (EL x) ?hc ?hx _ Tryz.underlying360 rfl ?hi ?_;(case hx=>rfl);(case hi=>rw[Qal];exact QgL);(case hc=>intro j v hv;exact HC.out j v hv))
    | (refine QaA (g:=wr.heap.size) rfl rfl _ _ rfl (Blk.new _ _ (QCC 4 (.int .u64 0))) rfl rfl rfl ?_;intro w3 hb3 ho3)
    | fail)
   have L3:Later wr w3:=(Qaa _ _).only ho3 (by omega)
   have h23:=h2.later L3
   go_wp2_with fail
   refine Qag [([0,1],2)] [] [3,4] (by as_aux_lemma=>kernel_rfl) (by as_aux_lemma=>kernel_rfl) (by intro _ _ d _ _ h;cases d<;>exact h) ?_
   simp only[Qah,pick,QCD,QCE,QCG,QCI,QCH]
   repeat (first|go_big_quiet_skip|(go_big_quiet_want;(first|refine QcC _ rfl h23.drew rfl ?_|refine QcC _ rfl hb3.drew rfl ?_);simp only[Act.put,QCL,QCO,QCN];go_big_quiet_on)|(go_big_quiet_step (fail)))
   refine wpQuiet_nil ?_
   go_wp2_with fail
   (with_reducible refine (QdU x hx _).mono ?_);rintro e w4 ⟨rfl,hl4⟩
   go_wp2_with fail
   try refine⟨by first|assumption|exact Qab _|exact Qaa _ _|exact Later.refl _,?_⟩
   try simp only[Qah,pick,QCD,QCE,QCG,QCI,QCH]
   repeat (go_big_quiet_step (fail))
   refine wpQuiet_nil ?_
   go_wp2_with fail
   (with_reducible refine (Qoz (s%P25) (x%P25) (by have:=QC8 s Qbd;have:=QC8 x Qbd;unfold P25 at *;unfold T256;omega) _).mono ?_);rintro e w5 ⟨rfl,hl5⟩
   have h25:=((h23.drew).later hl4).later hl5
   go_wp2_with (first
    | (refine QaA rfl rfl _ _ rfl h25 rfl rfl (Qal _) ?_;intro w6 hb6 ho6)
    | fail)
   have L5:Later wr w5:=(((L3.trans (Qab _)).trans hl4).trans hl5)
   go_roundw
   case rel=>
    refine⟨k+1,by omega,by go_num,(h1.later L5).only ho6 (by omega),?_,(L.trans L5).only ho6 (by omega)⟩
    rw[HT.out]
    first|exact hb6|(rw [←QEY];exact hb6)|(rw [QEY];exact hb6)
   case measure=>simp[intOf];omega
  ·rw[show k=n by omega,QCQ (by omega)]at h2
   have hkf:decide ((k:Int)<(n:Int))=false:=by simp;omega
   go_wp2_with (first
    | (refine Qbv rfl _ rfl h2 rfl ?_)
    | (refine QaA rfl rfl _ _ rfl h1 rfl rfl rfl ?_;intro w9 hb9 ho9)
    | fail)
   exact bodyPost_ret (QgK rfl hb9 rfl) rfl ⟨rfl,L.only ho9 (by omega)⟩
theorem QhN {P:Program} {t e:TypeId} (s:Nat) (ht:P.underlying t=some (.slice e)) (hs:(P.info? e).map (·.size)=some s) (A:Option Addr) (n c:Nat) (kl:IntKind) (l:Nat) (h1:l≤n) (W:World):
 (Instr.sliceAt t (.slice A n c) (some (.int kl l)) none none).run P W= .ok (.slice (if c=l then A else A.map (·.add (l*s))) (n-l) (c-l)) W:=by
 have he:P.elem t=e:=by unfold Program.elem;rw[ht]
 have ht':P.underlying t=some (.slice (P.elem t)):=by rw[he];exact ht
 rw[run_sliceAt_slice _ _ _ _ _ _ ht',run_slice_l (ht:=ht') (h0:=by omega) (h1:=by omega),he]
 cases hq:P.info? e with
 | none=>simp[hq]at hs
 | some i=>
   have hsz:i.size=s:=by simpa [hq] using hs
   simp[sizeOf,typeInfo,hq,hsz,sliced]
theorem RdE.cut1 {w:World} {A:Option Addr} {n:Nat} {ns:List Nat} (h:RdE w A n ns) (h1:1<n):RdE w (A.map (·.add 4)) (n-1) ns.tail:=by
 refine⟨by rw[List.length_tail,h.1],fun hn=>?_⟩
 obtain⟨b,o,rfl,hb,hc⟩:=h.2 (by omega)
 refine⟨b,o+4,by rw[QEd,QcK],hb,fun j i v hj hv=>?_⟩
 have e:ns.tail.getD j 0=ns.getD (j+1) 0:=by rw[QCK,QCK,List.getElem?_tail]
 rw[e]at hv
 have:=hc (j+1) i v (by omega) hv
 rw[show o+4+j*4+i=o+(j+1)*4+i by omega]
 exact this
set_option maxRecDepth 100000 in
set_option maxHeartbeats 2000000 in
theorem QnW (A:Option Addr) (n c:Nat) (ns:List Nat) (w:World) (hr:RdE w A n ns) (hns:∀x∈ns,x<T256) (hn:n≤c) (hc0:n≤140737488355328):
 Calls Tryz.prog 267 #[.slice A n c] w fun e w'=>e= .returned (E (QeO ns%P25))∧Later w w':=by
 have hnl:=hr.1
 have hb0:=Blk.new w 360 (QCC 4 (Value.int .u64 0))
 rcases Nat.eq_zero_or_pos n with hz|hz
 ·subst hz
  obtain rfl:ns=[]:=QDk hnl
  go_enter Tryz.func267,Tryz.ntmps267
  go_wp2_with (first
   | (go_at_call 158;(with_reducible refine (of_1 _).mono ?_);rintro e w2 ⟨rfl,hl2⟩)
   | (refine QaA rfl rfl _ _ rfl (hb0.later hl2) rfl rfl rfl ?_;intro w3 hb3 ho3)
   | fail)
  exact bodyPost_ret (QgK rfl hb3 rfl) rfl ⟨rfl,((Qaa _ _).trans hl2).only ho3 (by omega)⟩
 ·have hne:((n:Int)==0)=false:=by simp;omega
  have hlt0:decide ((0:Int)<(n:Int))=true:=by simp;omega
  obtain⟨T,d,hcutT,hT⟩:∃(T:Option Addr) (d:Nat),(∀ W,(Instr.sliceAt 517 (.slice A n c) (some (.int .i64 1)) none none).run Tryz.prog W= .ok (.slice T (n-1) d) W)∧RdE w T (n-1) ns.tail:=by
   refine⟨_,_,QhN 4 Tryz.underlying517 QgL A n c .i64 1 hz,?_⟩
   by_cases h1:1<n
   ·rw[if_neg (by omega)]
    exact hr.cut1 h1
   ·refine⟨by rw[List.length_tail,hnl],fun h=>by omega⟩
  obtain⟨b,o,rfl,hb,hc⟩:=hr.2 hz
  have hx0:ns.getD 0 0<T256:=hns _ (QjY (by omega))
  have hc0':∀i v,(EL (ns.getD 0 0))[i]?=some v→w.cell? ⟨b,o+i,none⟩=some v:=fun i v hv=>by have:=hc 0 i v hz hv;rwa [QEA,QD8]at this
  have HX:=hid (show ns.take 1=[ns.getD 0 0] by cases ns with|nil=>simp at hnl;omega|cons y l=>rfl)
  have hnt:∀x∈ns.tail,x<T256:=fun x hx=>hns x (List.mem_of_mem_tail hx)
  have HTL:=hid (show ∀k,k<n-1→QeO (ns.take (k+1+1))=QeO (ns.take (k+1))*ns.tail.getD k 0 by
   intro k hk
   rw[QrS ns (k+1) (by omega)]
   congr 1
   rw[QCK,QCK,List.getElem?_tail])
  have HC0:=hid hc0'
  clear hc hc0' hr
  generalize hX0:ns.getD 0 0=x0 at *
  go_enter Tryz.func267,Tryz.ntmps267
  clear hX0
  go_wp2_with (first
   | (refine QaD rfl 360 _ rfl b o (EL x0) ?hc ?hx _ Tryz.underlying360 rfl ?hi ?_;(case hx=>rfl);(case hi=>rw[Qal];exact QgL);(case hc=>intro j v hv;exact ((Qaa w _).below.cell (p:=⟨b,o+j,none⟩) hb).trans (HC0.out j v hv)))
   | (go_at_call 255;(with_reducible refine (QdU x0 hx0 _).mono ?_);rintro e w2 ⟨rfl,hl2⟩)
   | (refine QaA rfl rfl _ _ rfl (Blk.new w2 _ (QCC 4 (.int .u64 0))) rfl rfl rfl ?_;intro w3 hb3 ho3)
   | fail)
  have hb03:=((hb0.later hl2).later (Qaa _ (.cells (QCC 4 (.int .u64 0)).toArray 360))).only ho3 (Nat.ne_of_lt (hb0.later hl2).lt)
  have L3:Later w w3:=(((Qaa _ _).trans hl2).trans (Qaa _ _)).only ho3 (by have:=((Qaa w _).trans hl2).size;omega)
  have hg:w.heap.size<w2.heap.size:=(hb0.later hl2).lt
  generalize w2.heap.size=g at *
  clear hb0 hl2 ho3 HC0
  go_loopw [17] (fun i wr=>∃k:Nat,k≤n-1∧i= .int .i64 k∧Blk wr w.heap.size 360 (QCC 4 (.int .u64 0))∧Blk wr g 360 (EL (QeO (ns.take (k+1))%P25))∧Later w wr) (fun i _=>n-1-(intOf i).toNat)
  case atStart=>exact⟨0,by omega,rfl,hb03,by rw[QC4,HX.out];simpa [QeO] using hb3,L3⟩
  case round=>
   clear hb03 hb3 L3
   obtain⟨k,hk,rfl,h1,h2,L⟩:=hrel
   by_cases hlt:k<n-1
   ·obtain⟨b1,o1,rfl,hb1,hc1⟩:=(hT.later L).2 (by omega)
    have HT:=hid (HTL.out k hlt)
    have hx:ns.tail.getD k 0<T256:=hnt _ (QjY (by rw[List.length_tail];omega))
    have hc':=fun i v hv=>hc1 k i v hlt hv
    generalize ns.tail.getD k 0=x at *
    have HC:=hid hc'
    clear hc1 hc'
    obtain⟨y,hy⟩:∃y,y=QeO (ns.take (k+1))%P25:=⟨_,rfl⟩
    rw[←hy]at h2
    have hyT:y<T256:=by rw[hy];exact QDG (QC8 _ Qbd) (by decide)
    have HY:=hid hy
    clear hy
    have hkb:decide ((k:Int)<((n-1:Nat):Int))=true:=by simp;omega
    have hkx:(k<n-1)=True:=eq_true hlt
    go_wp2_with (first
     | (refine QaD rfl 360 _ rfl b1 (o1+k*4) (EL x) ?hc ?hx _ Tryz.underlying360 rfl ?hi ?_;(case hx=>rfl);(case hi=>rw[Qal];exact QgL);(case hc=>intro j v hv;exact HC.out j v hv))
     | (refine QaA (g:=wr.heap.size) rfl rfl _ _ rfl (Blk.new _ _ (QCC 4 (.int .u64 0))) rfl rfl rfl ?_;intro w4 hb4 ho4
        have L4:Later wr w4:=(Qaa _ _).only ho4 (by omega)
        have h24:=h2.later L4)
     | (refine Qbv rfl _ rfl h24 rfl ?_)
     | (refine Qbv rfl _ rfl hb4 rfl ?_)
     | (go_at_call 268;(with_reducible refine (QdL y x hyT hx _).mono ?_);rintro e w5 ⟨rfl,hl5⟩)
     | (refine QaA rfl rfl _ _ rfl (h24.later hl5) rfl rfl (Qal _) ?_;intro w6 hb6 ho6)
     | fail)
    go_roundw
    case rel=>
     refine⟨k+1,by omega,by go_num,((h1.later L4).later hl5).only ho6 (by omega),?_,((L.trans L4).trans hl5).only ho6 (by omega)⟩
     rw[HT.out,QDX,←HY.out]
     first|exact hb6|(rw [QDX,HY.out,QD4,←HY.out]at hb6;exact hb6)
    case measure=>simp[intOf];omega
   ·rw[show k+1=n by omega,QCQ (by omega)]at h2
    have hkf:decide ((k:Int)<((n-1:Nat):Int))=false:=by simp;omega
    have hkx:(k<n-1)=False:=eq_false hlt
    go_wp2_with (first
     | (refine Qbv rfl _ rfl h2 rfl ?_)
     | (refine QaA rfl rfl _ _ rfl h1 rfl rfl rfl ?_;intro w9 hb9 ho9)
     | fail)
    exact bodyPost_ret (QgK rfl hb9 rfl) rfl ⟨rfl,L.only ho9 (by omega)⟩
def nb (n:Nat):List UInt8:=(dig 256 32 n).map QDe
abbrev BB (n:Nat):Value:=.agg ((nb n).map W8).toArray
theorem QbS (n:Nat):(nb n).length=32:=by rw[nb,QCF,QaI]
theorem QvJ (n i:Nat) (h:i<32):(nb n)[i]?=some (QDe (n/256^i%256)):=by rw[nb,QCY,QfS _ _ _ _ h];rfl
theorem QeT:∀l:List Nat,(∀ x∈l,x<256)→(l.map QDe).map QE4=l
 | [],_=>rfl
 | x :: l,h=>by
   rw[QC9,QC9,QeT l (fun y hy=>h y (by simp[hy])),QDB,QC1 (h x (by simp))]
theorem QvS (n:Nat) (h:n<T256):num (nb n)=n:=by
 rw[num,nb,QeT _ (QdY (by decide) 32 n),Qd2,QC1 (show n<256^32 from h)]
theorem QlG (bs:List UInt8):num bs<256^bs.length:=by
 have:=Qwp (B:=256) (bs.map QE4) (by intro x hx;obtain⟨y,_,rfl⟩:=QDs.1 hx;exact y.toNat_lt)
 rwa [QCF]at this
theorem QjU (bs:List UInt8) (k:Nat) (h:k<bs.length):num (bs.take (k+1))=num (bs.take k)+256^k*(bs.getD k 0).toNat:=by
 have:=Qew 256 (bs.map QE4) k (by simpa using h)
 rw[←QD9,←QD9]at this
 have e:(bs.map QE4).getD k 0=(bs.getD k 0).toNat:=by
  rw[QCK,QCK,QCY,QCJ h]
  rfl
 rw[e]at this
 exact this
theorem Qh8 (k:Nat):256^k=B64^(k/8)*256^(k%8):=by
 have e:B64=256^8:=by decide
 rw[e,←QEf,←QD2,QDA]
theorem Qqi (k:Nat):256^k=B32^(k/4)*256^(k%4):=by
 have e:B32=256^4:=by decide
 rw[e,←QEf,←QD2,QDA]
theorem QfX (x a b c:Nat) (ha:0<a) (h:b*c ∣ a) (_hb:0<b):x%a/b%c=x/b%c:=by
 obtain⟨d,rfl⟩:=h
 rw[QDR,Nat.mod_mul_right_div_self,Nat.mod_mul_right_mod]
theorem Qvw (n k:Nat) (_hk:k<32):lim n (k/8)/2^(8*(k%8))%256=n/256^k%256:=by
 rw[Qh8 k,←QDt,lim,QEf]
 generalize n/B64^(k/8)=x
 refine QfX x B64 (256^(k%8)) 256 QaP ?_ (QEF (by decide))
 have:B64=256^8:=by decide
 rw[this,←QDF]
 exact Nat.pow_dvd_pow 256 (by omega)
theorem QtA (n k:Nat) (_hk:k<32):lem n (k/4)/2^(8*(k%4))%256=n/256^k%256:=by
 rw[Qqi k,←QDt,lem,QEf]
 generalize n/B32^(k/4)=x
 refine QfX x B32 (256^(k%4)) 256 Qa7 ?_ (QEF (by decide))
 have:B32=256^4:=by decide
 rw[this,←QDF]
 exact Nat.pow_dvd_pow 256 (by omega)
theorem Qxq (V x k:Nat) (_hk:k<32) (hV:V<256^k) (hx:x<256):(EL V).set (k/8) (n64 (lim V (k/8)+x*2^(8*(k%8))))=EL (V+256^k*x):=by
 have hp:=Qh8 k
 have hB:B64=256^8:=by decide
 have hlt:V+256^k*x<256^(k+1):=by
  rw[QDF]
  have:256^k*x≤256^k*255:=QEg _ (by omega)
  omega
 have hbound:256^(k+1)≤B64^(k/8+1):=by
  rw[hB,←QEf]
  exact QDH (by decide) (by omega)
 apply QEU (by rw[QDl,Qal,Qal])
 intro j h1 h2
 rw[Qal]at h2
 rw[List.getElem_set]
 split
 ·rename_i hj
  subst hj
  rw[Qrl]
  congr 1
  rw[lim,lim,hp,QDR,QEa _ _ (QEF QaP),QEf]
  have hV1:V/B64^(k/8)<256^(k%8):=QDI (by rw[←hp];exact hV)
  have hle:256^(k%8)*256≤B64:=by
   rw[hB,←QDF]
   exact QDH (by decide) (by omega)
  have hxx:256^(k%8)*x≤256^(k%8)*255:=QEg _ (by omega)
  have e:(2:Nat)^8=256:=by decide
  rw[e,QDD x]
  rw[QC1 (show V/B64^(k/8)<B64 by omega),QC1 (show V/B64^(k/8)+256^(k%8)*x<B64 by omega)]
 ·rename_i hj
  rw[Qrl,Qrl]
  congr 1
  rcases QDJ j (k/8) with hl|hl
  ·rw[lim,lim,hp]
   obtain⟨d,hd⟩:∃d,k/8=j+1+d:=⟨k/8-j-1,by omega⟩
   rw[hd,QD2,QDF,QDR,QDR,QDR,QEa _ _ (QEF QaP),Nat.add_mul_mod_self_left]
  ·have hjj:k/8+1≤j:=by omega
   have hpp:B64^(k/8+1)≤B64^j:=QDH (by decide) hjj
   have hVk:V<B64^j:=QCX hV (QDm (QDH (by decide) (by omega)) (QDm hbound hpp))
   rw[lim,lim,QDy hVk,QDy (QCX hlt (QDm hbound hpp))]
theorem QyX (a s y:Nat) (h:a<2^s):a ||| (y*2^s)=a+y*2^s:=by
 have:=Nat.two_pow_add_eq_or_of_lt h y
 rw[Nat.or_comm,QDD y,←this,QEB]
theorem QwJ (V k:Nat) (hV:V<256^k):lim V (k/8)<2^(8*(k%8)):=by
 have hV1:V/B64^(k/8)<256^(k%8):=QDI (by rw[←Qh8];exact hV)
 rw[lim,QEf]
 exact QD6 (Nat.mod_le _ _) hV1
@[go_sem] theorem QBd (T:TypeId) (x:Nat) (hx:x<B64) (k:UInt64):binOp .shr T (n64 x) (W64 k)=pure (n64 (x/2^(cnt k))):=by
  have:=Qyu T x hx .u64 (k.toNat:Int) (by omega)
  rw[QEv]at this
  exact this
@[go_sem] theorem QBl (T:TypeId) (x:Nat) (hx:x<B64) (y:UInt64):binOp .or T (n64 x) (W64 y)=pure (n64 (x ||| y.toNat)):=by
  rw[n64,QsU,Qhk]
  rw[UInt64.toNat_or,tn64 hx,QC1 (show (x ||| y.toNat)<B64 from Nat.or_lt_two_pow (n:=64) hx y.toNat_lt)]
theorem Qn9 (i:Nat) (h:i<32):cnt (8*QDC ((i:Int)%8))=8*(i%8):=by
 have:∀k:Fin 32,cnt (8*QDC ((k.val:Int)%8))=8*(k.val%8):=by decide
 exact this ⟨i,h⟩
theorem Qba:(Tryz.prog.info? 25).map (·.size)=some 32:=by kernel_rfl
theorem QyN {n m:Nat} (h:n%256=m%256):n8 n=n8 m:=by
 rw[n8]
 apply n8_w
 rw[QDB,←h]
set_option maxRecDepth 100000 in
set_option maxHeartbeats 2000000 in
theorem Qiz (n:Nat) (hn:n<T256) (w:World):
 Calls Tryz.prog 157 #[E n] w fun e w'=>e= .returned (BB (n%P25))∧Later w w':=by
 have h1:Blk ((w.alloc (.cells (EL n).toArray 360)).alloc (.cells (QCC 32 (Value.int .u8 0)).toArray 25)) w.heap.size 360 (EL n):=(Blk.new _ _ _).later (Qaa _ _)
 have h2:Blk ((w.alloc (.cells (EL n).toArray 360)).alloc (.cells (QCC 32 (Value.int .u8 0)).toArray 25)) (w.heap.size+1) 25 (QCC 32 (.int .u8 0)):=Blk.new' _ _ _ (by simp)
 have L0:Later w ((w.alloc (.cells (EL n).toArray 360)).alloc (.cells (QCC 32 (Value.int .u8 0)).toArray 25)):=(Qaa _ _).trans (Qaa _ _)
 have hlS:((nb (n%P25)).map W8).length=32:=by rw[QCF,QbS]
 have HGet:=hid (fun k (h:k<32)=>show ((nb (n%P25)).map W8)[k]?=some (n8 (n%P25/256^k%256)) by rw[QCY,QvJ _ _ h];rfl)
 go_enter Tryz.func157,Tryz.ntmps157
 go_wp2_with (first
  | (refine Qbv rfl _ rfl h1 rfl ?_)
  | (go_at_call 255;(with_reducible refine (QdU n hn _).mono ?_);rintro e w2 ⟨rfl,hl2⟩)
  | (refine QaA rfl rfl _ _ rfl (h1.later hl2) rfl rfl (Qal _) ?_;intro w3 hb3 ho3
     have h23:=(h2.later hl2).only ho3 (by omega)
     have L3:=(L0.trans hl2).only ho3 (by omega))
  | fail)
 have hg:w.heap.size+1<w3.heap.size:=h23.lt
 clear h1 h2 L0 hl2 ho3
 generalize hM:n%P25=M at *
 have HM:=hid hM
 clear hM
 go_loopw [7] (fun i wr=>∃k:Nat,k≤32∧i= .int .i64 k∧Blk wr w.heap.size 360 (EL M)∧Blk wr (w.heap.size+1) 25 (QCC 32 (.int .u8 0))∧Blk wr w3.heap.size 25 (Qbu ((nb M).map W8) (QCC 32 (.int .u8 0)) k)∧Later w wr) (fun i _=>32-(intOf i).toNat)
 case atStart=>exact⟨0,by omega,rfl,hb3.later (Qaa _ _),h23.later (Qaa _ _),by rw[Qbh];exact Blk.new _ _ (QCC 32 (Value.int .u8 0)),L3.trans (Qaa _ _)⟩
 case round=>
  clear hb3 h23
  have hL3:=L3.size
  clear L3
  obtain⟨k,hk,rfl,h1,h2,h3,L⟩:=hrel
  by_cases hlt:k<32
  ·have d0:=h1.cellD (k/8) (QcN M (k/8) (by omega))
   have hct:=Qn9 k hlt
   have hbl:=hid (Qvw M k hlt)
   go_wp2_with (first
    | (refine Qad rfl rfl _ _ _ rfl _ _ _ _ h3 rfl ?hl rfl (by kernel_rfl) ?_;(case hl=>rw[Qaw _ _ _ (by rw[hlS];rfl)];exact hlt);intro v w6 hv hb6 ho6;simp[go_sem]at hv;subst hv)
    | fail)
   go_roundw
   case rel=>
    rw[QyN (show lim M (k/8)/2^(8*(k%8))%256=M/256^k%256%256 by rw[hbl.out,QD4]),QaN _ _ _ _ (by rw[hlS];rfl) hlt (HGet.out k hlt)]at hb6
    exact⟨k+1,by omega,by go_num,h1.only ho6 (by omega),h2.only ho6 (by omega),hb6,L.only ho6 (by omega)⟩
   case measure=>simp[intOf];omega
  ·rw[show k=32 by omega,QbP _ _ _ hlS rfl]at h3
   have hkf:decide ((k:Int)<32)=false:=by simp;omega
   go_wp2_with (first
    | (refine Qbn rfl 25 _ rfl _ _ _ h3 rfl _ Tryz.underlying25 rfl 32 Qba hlS ?_)
    | (refine QaC rfl rfl 25 _ _ rfl _ _ _ _ h2 rfl rfl 32 Qba hlS rfl (QaH _) ?_;intro w9 hb9 ho9)
    | fail)
   exact bodyPost_ret (QaR rfl _ _ _ _ ((nb M).map W8) _ hb9 rfl Tryz.underlying25 rfl (by rw[hlS];exact Qba)) rfl ⟨by rw[HM.out],L.only ho9 (by omega)⟩
theorem QuK (x:UInt8) (r:Nat) (hr:r<8):(QiU x.toUInt64 (8*r)).toNat=x.toNat*2^(8*r):=by
 rw[QiU]
 show (BitVec.toNat _)=_
 rw[QEC,QEM]
 show x.toUInt64.toNat*_%_=_
 rw[UInt8.toNat_toUInt64,QC1]
 have hx:=x.toNat_lt
 have h1:2^(8*r)≤2^56:=QDH (by decide) (by omega)
 have h2:x.toNat*2^(8*r)≤255*2^56:=Nat.mul_le_mul (by omega) h1
 omega
def Qco (bs:List UInt8):Nat:=if bs.length=32 then num bs%T255%P25 else 0
def QbW (bs:List UInt8):Nat:=if bs.length=32 then 0 else 2
set_option maxRecDepth 100000 in
set_option maxHeartbeats 2000000 in
theorem Qn5 (A:Option Addr) (n c:Nat) (bs:List UInt8) (w:World) (hr:RdB w A n bs) (hn:n≤140737488355328):
 Calls Tryz.prog 159 #[.slice A n c] w fun e w'=>e= .returned (.tuple #[E (Qco bs),.int .i64 (QbW bs:Nat)])∧Later w w':=by
 have hbl:=hr.len
 have hb0:=Blk.new w 360 (QCC 4 (Value.int .u64 0))
 by_cases h32:n=32
 ·subst h32
  have hRN:=hid (show Qco bs=num bs%T255%P25 by rw[Qco,if_pos hbl])
  have hRE:=hid (show QbW bs=0 by rw[QbW,if_pos hbl])
  obtain⟨b,o,rfl,hb,hc⟩:=hr.at_ (by omega)
  have HC:=hid hc
  have HT:=hid (fun k (h:k<32)=>QjU bs k (by omega))
  have HL:=hid (fun k (h:k≤32)=>show num (bs.take k)<256^k by have:=QlG (bs.take k);rwa [QC5,QDK (by omega)]at this)
  have HF:=hid (show bs.take 32=bs from QCQ (by omega))
  clear hc hr
  go_enter Tryz.func159,Tryz.ntmps159
  go_wp2
  go_loopw [13] (fun i wr=>∃k:Nat,k≤32∧i= .int .i64 k∧Blk wr w.heap.size 360 (QCC 4 (.int .u64 0))∧Blk wr (w.heap.size+1) 360 (EL (num (bs.take k)))∧Later w wr) (fun i _=>32-(intOf i).toNat)
  case atStart=>exact⟨0,by omega,rfl,hb0.later (Qaa _ _),by rw[QEw];exact Blk.new' _ _ (QCC 4 (Value.int .u64 0)) (by simp),(Qaa _ _).trans (Qaa _ _)⟩
  case round=>
   clear hb0
   obtain⟨k,hk,rfl,h1,h2,L⟩:=hrel
   by_cases hlt:k<32
   ·have d0:=h2.cellD (k/8) (QcN _ (k/8) (by omega))
    have c0:wr.cell? ⟨b,o+k,none⟩=some (W8 (bs.getD k 0)):=(L.below.cell (p:=⟨b,o+k,none⟩) hb).trans (HC.out k hlt)
    have hct:=Qn9 k hlt
    have hsb:=QuK (bs.getD k 0) (k%8) (by omega)
    have HM:=hid (Qxq (num (bs.take k)) (bs.getD k 0).toNat k hlt (HL.out k (by omega)) (UInt8.toNat_lt _))
    have HO:=hid (QyX (lim (num (bs.take k)) (k/8)) (8*(k%8)) (bs.getD k 0).toNat (QwJ _ k (HL.out k (by omega))))
    have HTk:=hid (HT.out k hlt)
    generalize bs.getD k 0=x at *
    generalize num (bs.take k)=V at *
    go_wp2_with (first
     | (refine Qad rfl rfl _ _ _ rfl _ _ _ _ h2 rfl ?hl rfl (by kernel_rfl) ?_;(case hl=>rw[Qal];omega);intro v w6 hv hb6 ho6;simp[go_sem]at hv;subst hv)
     | fail)
    go_roundw
    case rel=>
     refine⟨k+1,by omega,by go_num,h1.only ho6 (by omega),?_,L.only ho6 (by omega)⟩
     rw[HTk.out,←HM.out,←HO.out]
     first|exact hb6|(rw [hsb]at hb6;exact hb6)
    case measure=>simp[intOf];omega
   ·rw[show k=32 by omega,HF.out]at h2
    have hkf:decide ((k:Int)<32)=false:=by simp;omega
    have d3:=h2.cellD 3 (QcN _ 3 (by omega))
    have hlT:num bs%T255<T256:=QDG (QC8 _ (by decide)) (by decide)
    go_wp2_with (first
     | (refine Qad rfl rfl _ _ _ rfl _ _ _ _ h2 rfl ?hl rfl (by kernel_rfl) ?_;(case hl=>rw[Qal];omega);intro v w6 hv hb6 ho6;simp[go_sem]at hv;subst hv
        rw[Qn7]at hb6
        have h16:=h1.only ho6 (by omega)
        have L6:=L.only ho6 (by omega))
     | (refine Qbv rfl _ rfl hb6 rfl ?_)
     | (go_at_call 255;(with_reducible refine (QdU (num bs%T255) hlT _).mono ?_);rintro e w7 ⟨rfl,hl7⟩)
     | (refine QaA rfl rfl _ _ rfl (h16.later hl7) rfl rfl rfl ?_;intro w9 hb9 ho9)
     | fail)
    exact bodyPost_ret (Qai rfl _ _ _ _ _ _ hb9 rfl Tryz.underlying360 rfl (by rw[Qal];exact QgL)) rfl ⟨by rw[hRN.out,hRE.out];rfl,(L6.trans hl7).only ho9 (by omega)⟩
 ·have hRN:=hid (show Qco bs=0 by rw[Qco,if_neg (by omega)])
  have hRE:=hid (show QbW bs=2 by rw[QbW,if_neg (by omega)])
  have hne:((n:Int) != 32)=true:=by simp;omega
  go_enter Tryz.func159,Tryz.ntmps159
  go_wp2_with (first
   | (refine Qam rfl 360 _ rfl (EL 0) ?hb ?_;(case hb=>kernel_rfl))
   | (refine QaA (n:=0) rfl rfl _ _ rfl hb0 rfl rfl rfl ?_;intro w9 hb9 ho9)
   | fail)
  exact bodyPost_ret (Qai rfl _ _ _ _ _ _ hb9 rfl Tryz.underlying360 rfl (by rw[Qal];exact QgL)) rfl ⟨by rw[hRN.out,hRE.out];rfl,(Qaa _ _).only ho9 (by omega)⟩
theorem Qu8 (bs:List UInt8) (j:Nat) (h:j<bs.length):num bs/256^j%256=(bs.getD j 0).toNat:=by
 have e:=QkI (B:=256) (bs.map QE4) (by intro x hx;obtain⟨y,_,rfl⟩:=QDs.1 hx;exact y.toNat_lt)
 rw[QCF]at e
 have g:=Qdm 256 bs.length (num bs) j h
 rw[num,e]at g
 rw[num,←g,QCK,QCK,QCY,QCJ h]
 rfl
theorem Qr0 (bs:List UInt8) (i:Nat) (h:i/8<bs.length):num bs/2^i%2=(bs.getD (i/8) 0).toNat/2^(i%8)%2:=by
 rw[←Qu8 bs _ h]
 have e:(2:Nat)^i=256^(i/8)*2^(i%8):=by
  have:(256:Nat)=2^8:=by decide
  rw[this,←QEf,←QD2,QDA]
 rw[e,←QDt]
 generalize num bs/256^(i/8)=x
 refine (QfX x 256 (2^(i%8)) 2 (by decide) ?_ (QEF (by decide))).symm
 have:(256:Nat)=2^8:=by decide
 rw[this,←QDF]
 exact Nat.pow_dvd_pow 2 (by omega)
theorem QwW (x:UInt8) (m:Nat):(shr8 x m%2==1)=decide (x.toNat/2^m%2=1):=by
 have e:(shr8 x m).toNat=x.toNat/2^m:=by
  rw[shr8]
  show (BitVec.toNat _)=_
  rw[QDz,QDv]
  rfl
 rw[QDw,beq_iff_eq,decide_eq_true_eq,←QDr,UInt8.toNat_mod,e]
 rfl
theorem Qxg (a V i P:Nat):a^(V%2^(i+1))%P=(a^(V%2^i)%P)*((a^2^i%P)^(V/2^i%2))%P:=by
 rw[QbZ,QD2,QDX,QEf,←QdO (a^2^i),QDX (a^(V%2^i)%P),QD4,QD4,Nat.mul_mod_mod]
set_option maxRecDepth 100000 in
set_option maxHeartbeats 2000000 in
theorem Qsc (a:Nat) (ha:a<T256) (A:Option Addr) (n c:Nat) (bs:List UInt8) (w:World) (hr:RdB w A n bs) (hn:n≤140737488355328):
 Calls Tryz.prog 254 #[NN a,.slice A n c] w fun e w'=>e= .returned (NN (a^num bs%P25))∧Later w w':=by
 have hbl:=hr.len
 have h1:Blk ((w.alloc (.cells (NL a).toArray 270)).alloc (.cells (QCC 8 (.int .u32 0)).toArray 270)) w.heap.size 270 (NL a):=(Blk.new _ _ _).later (Qaa _ _)
 have h2:Blk ((w.alloc (.cells (NL a).toArray 270)).alloc (.cells (QCC 8 (.int .u32 0)).toArray 270)) (w.heap.size+1) 270 (QCC 8 (.int .u32 0)):=Blk.new' _ _ _ (by simp)
 have L0:Later w ((w.alloc (.cells (NL a).toArray 270)).alloc (.cells (QCC 8 (.int .u32 0)).toArray 270)):=(Qaa _ _).trans (Qaa _ _)
 go_enter Tryz.func254,Tryz.ntmps254
 go_wp2_with (first
  | (refine Qam rfl 270 _ rfl (NL 1) ?hb ?_;(case hb=>kernel_rfl))
  | (refine Qau (g:=w.heap.size+1+1) (n:=1) rfl rfl _ _ rfl (Blk.new' _ _ (QCC 8 (.int .u32 0)) (by simp)) rfl rfl rfl ?_;intro w3 hb3 ho3
     have h13:=(h1.later (Qaa _ _)).only ho3 (by omega)
     have h23:=(h2.later (Qaa _ _)).only ho3 (by omega)
     have L3:=(L0.alloc _).only ho3 (by omega))
  | (refine QaQ rfl _ rfl h13 rfl ?_)
  | (refine Qau rfl rfl _ _ rfl (Blk.new w3 _ (QCC 8 (.int .u32 0))) rfl rfl rfl ?_;intro w4 hb4 ho4)
  | fail)
 have hz3:=hb3.lt
 have h14:=(h13.later (Qaa _ _)).only ho4 (by omega)
 have h24:=(h23.later (Qaa _ _)).only ho4 (by omega)
 have h34:=(hb3.later (Qaa _ _)).only ho4 (by omega)
 have L4:=(L3.alloc _).only ho4 (by have:=L3.size;omega)
 generalize w3.heap.size=g at *
 clear h13 h23 hb3 L3 ho3 ho4 h1 h2 L0
 have hw8:IntKind.i64.wrap (8*(n:Int))=8*(n:Int):=by rw[IntKind.wrap_i64];omega
 have HW8:=hid hw8
 clear hw8
 go_loopw [7] (fun i wr=>∃k m s:Nat,k≤8*n∧i= .int .i64 k∧m<T256∧s<T256∧Hid (m%P25=a^(num bs%2^k)%P25)∧Hid (s%P25=a^2^k%P25)∧Blk wr (w.heap.size+1) 270 (QCC 8 (.int .u32 0))∧Blk wr (w.heap.size+1+1) 270 (NL m)∧Blk wr g 270 (NL s)∧Later w wr) (fun i _=>8*n-(intOf i).toNat)
 case atStart=>exact⟨0,1,a,by omega,rfl,by decide,ha,hid (by rw[QEW,Nat.mod_one,QEW]),hid (by rw[QEW,Nat.pow_one]),h24,h34,hb4,L4⟩
 case round=>
  clear h14 h24 h34 hb4 L4
  obtain⟨k,m,s,hk,rfl,hm,hs,HM,HSq,h2,h3,h4,L⟩:=hrel
  by_cases hlt:k<8*n
  ·obtain⟨b,o,rfl,hb,hc⟩:=hr.at_ (by omega)
   have d0:wr.cell? ⟨b,o+k/8,none⟩=some (W8 (bs.getD (k/8) 0)):=(L.below.cell (p:=⟨b,o+k/8,none⟩) hb).trans (hc _ (by omega))
   have HBit:=hid (Qr0 bs k (by omega))
   have hbr:=QwW (bs.getD (k/8) 0) (k%8)
   have HLow:=hid (Qxg a (num bs) k P25)
   have hkl:decide ((k:Int)<8*(n:Int))=true:=by simp;omega
   have hkx:(k<8*n)=True:=eq_true hlt
   have HSS:=hid (show s*s%P25%P25=a^2^(k+1)%P25 by
    rw[QD4,QDX,HSq.out,←QDX,←QD2,QDF]
    congr 2
    omega)
   generalize bs.getD (k/8) 0=x at *
   clear hc hr
   rcases Nat.mod_two_eq_zero_or_one (x.toNat/2^(k%8)) with hz|hz
   ·have hd:(shr8 x (k%8)%2==1)=false:=by rw[hbr,hz];rfl
    have HL':=hid (show m%P25=a^(num bs%2^(k+1))%P25 by rw[HLow.out,HBit.out,hz,QEW,QEq,QD4,HM.out])
    clear hbr hz
    go_wp2_with (first
     | (refine QaQ rfl _ rfl h4 rfl ?_)
     | (go_at_call 154;(with_reducible refine (QjV s s hs hs _).mono ?_);rintro e w5 ⟨rfl,hl5⟩)
     | (refine Qau rfl rfl _ _ rfl (h4.later hl5) rfl rfl (Qax _) ?_;intro w6 hb6 ho6)
     | fail)
    go_roundw
    case rel=>exact⟨k+1,m,s*s%P25,by omega,by go_num,hm,QDG (QC8 _ Qbd) (by decide),hid HL'.out,hid HSS.out,(h2.later hl5).only ho6 (by omega),(h3.later hl5).only ho6 (by omega),hb6,(L.trans hl5).only ho6 (by omega)⟩
    case measure=>simp[intOf];omega
   ·have hd:(shr8 x (k%8)%2==1)=true:=by rw[hbr,hz];rfl
    have HL':=hid (show m*s%P25%P25=a^(num bs%2^(k+1))%P25 by
     rw[HLow.out,HBit.out,hz,Nat.pow_one,←HM.out,←HSq.out,←QDX,QD4])
    clear hbr hz
    go_wp2_with (first
     | (refine QaQ rfl _ rfl h3 rfl ?_)
     | (refine QaQ rfl _ rfl h4 rfl ?_)
     | (go_at_call 154;(with_reducible refine (QjV m s hm hs _).mono ?_);rintro e w5 ⟨rfl,hl5⟩)
     | (refine Qau rfl rfl _ _ rfl (h3.later hl5) rfl rfl (Qax _) ?_;intro w6 hb6 ho6
        have h46:=(h4.later hl5).only ho6 (by omega))
     | (refine QaQ rfl _ rfl h46 rfl ?_)
     | (go_at_call 154;(with_reducible refine (QjV s s hs hs _).mono ?_);rintro e w7 ⟨rfl,hl7⟩)
     | (refine Qau rfl rfl _ _ rfl (h46.later hl7) rfl rfl (Qax _) ?_;intro w8 hb8 ho8)
     | fail)
    go_roundw
    case rel=>exact⟨k+1,m*s%P25,s*s%P25,by omega,by go_num,QDG (QC8 _ Qbd) (by decide),QDG (QC8 _ Qbd) (by decide),hid HL'.out,hid HSS.out,(((h2.later hl5).only ho6 (by omega)).later hl7).only ho8 (by omega),(hb6.later hl7).only ho8 (by omega),hb8,(((L.trans hl5).only ho6 (by omega)).trans hl7).only ho8 (by omega)⟩
    case measure=>simp[intOf];omega
  ·have hkf:decide ((k:Int)<8*(n:Int))=false:=by simp;omega
   have hkx:(k<8*n)=False:=eq_false hlt
   have HR:=hid (show m%P25=a^num bs%P25 by
    have hnl:=QlG bs
    have e:(256:Nat)^bs.length=2^(8*bs.length):=by rw[QEf]
    rw[e,←show k=8*bs.length by omega]at hnl
    rw[HM.out,QC1 hnl])
   go_wp2_with (first
    | (refine QaQ rfl _ rfl h3 rfl ?_)
    | (go_at_call 149;(with_reducible refine (Qd0 m hm _).mono ?_);rintro e w5 ⟨rfl,hl5⟩)
    | (refine Qau rfl rfl _ _ rfl (h2.later hl5) rfl rfl rfl ?_;intro w9 hb9 ho9)
    | fail)
   exact bodyPost_ret (QkA rfl hb9 rfl) rfl ⟨by rw[HR.out],(L.trans hl5).only ho9 (by omega)⟩
set_option maxRecDepth 100000 in
set_option maxHeartbeats 2000000 in
theorem QwX (a:Nat) (ha:a<T256) (w:World):
 Calls Tryz.prog 155 #[NN a] w fun e w'=>e= .returned (NN (pinv a))∧Later w w':=by
 have h1:Blk ((w.alloc (.cells (NL a).toArray 270)).alloc (.cells (QCC 8 (.int .u32 0)).toArray 270)) w.heap.size 270 (NL a):=(Blk.new _ _ _).later (Qaa _ _)
 have h2:Blk ((w.alloc (.cells (NL a).toArray 270)).alloc (.cells (QCC 8 (.int .u32 0)).toArray 270)) (w.heap.size+1) 270 (QCC 8 (.int .u32 0)):=Blk.new' _ _ _ (by simp)
 have L0:Later w ((w.alloc (.cells (NL a).toArray 270)).alloc (.cells (QCC 8 (.int .u32 0)).toArray 270)):=(Qaa _ _).trans (Qaa _ _)
 have HP:=hid (Qsc a ha)
 have HN:=hid QrP
 go_enter Tryz.func155,Tryz.ntmps155
 go_wp2_with (first
  | (refine QaF rfl _ _ 22 rfl 5 (.int .u8 0) 1 Tryz.underlying22 Qdo rfl _ _ _ _ 32 rfl rfl rfl rfl (by omega) (by omega) ?_;intro w2 hb2 hl2)
  | fail)
 have h12:=h1.later hl2
 have h22:=h2.later hl2
 have L2:=L0.trans hl2
 replace hb2:Blk w2 (w.heap.size+1+1) 5 (QCC 32 (.int .u8 0)):=Eq.mp (congrArg (fun g=>Blk w2 g 5 (QCC 32 (.int .u8 0))) (by simp)) hb2
 clear h1 h2 L0 hl2
 go_loopw [4] (fun i wr=>∃k:Nat,k≤32∧i= .int .i64 k∧Blk wr w.heap.size 270 (NL a)∧Blk wr (w.heap.size+1) 270 (QCC 8 (.int .u32 0))∧Blk wr (w.heap.size+1+1) 5 (Qbu (QCC 32 (.int .u8 255)) (QCC 32 (.int .u8 0)) k)∧Later w wr) (fun i _=>32-(intOf i).toNat)
 case atStart=>exact⟨0,by omega,rfl,h12,h22,by rw[Qbh];exact hb2,L2⟩
 case round=>
  clear h12 h22 hb2 L2
  obtain⟨k,hk,rfl,h1,h2,h3,L⟩:=hrel
  by_cases hlt:k<32
  ·go_wp2_with (first
    | (refine Qad rfl rfl _ _ _ rfl _ _ _ _ h3 rfl ?hl rfl (by kernel_rfl) ?_;(case hl=>rw[Qaw _ _ _ (by rfl)];exact hlt);intro v w6 hv hb6 ho6;simp[go_sem]at hv;subst hv)
    | fail)
   go_roundw
   case rel=>
    rw[QaN _ _ _ _ (by rfl) hlt (by rw[QEj,if_pos hlt])]at hb6
    exact⟨k+1,by omega,by go_num,h1.only ho6 (by omega),h2.only ho6 (by omega),hb6,L.only ho6 (by omega)⟩
   case measure=>simp[intOf];omega
  ·have HF:=hid (QoM _ (QbP (QCC 32 (Value.int .u8 255)) (QCC 32 (.int .u8 0)) 32 rfl rfl))
   rw[show k=32 by omega]at h3
   have hkf:decide ((k:Int)<32)=false:=by simp;omega
   go_wp2_with (first
    | (refine Qad rfl rfl _ _ _ rfl _ _ _ _ h3 rfl ?hl rfl (by kernel_rfl) ?_;(case hl=>rw[Qaw _ _ _ (by rfl)];decide);intro v w6 hv hb6 ho6;simp[go_sem]at hv;subst hv)
    | (refine Qad rfl rfl _ _ _ rfl _ _ _ _ hb6 rfl ?hl rfl (by kernel_rfl) ?_;(case hl=>rw[QDl,Qaw _ _ _ (by rfl)];decide);intro v w7 hv hb7 ho7;simp[go_sem]at hv;subst hv
       rw[HF.out]at hb7
       have h17:=(h1.only ho6 (by omega)).only ho7 (by omega)
       have h27:=(h2.only ho6 (by omega)).only ho7 (by omega)
       have L7:=(L.only ho6 (by omega)).only ho7 (by omega))
    | (refine QaQ rfl _ rfl h17 rfl ?_)
    | (go_at_call 254;(with_reducible refine (HP.out _ 32 _ Qhv _ (Qcr hb7 rfl) (by omega)).mono ?_);rintro e w8 ⟨rfl,hl8⟩
       rw[HN.out])
    | (refine Qau rfl rfl _ _ rfl (h27.later hl8) rfl rfl rfl ?_;intro w9 hb9 ho9)
    | fail)
   exact bodyPost_ret (QkA rfl hb9 rfl) rfl ⟨rfl,(L7.trans hl8).only ho9 (by omega)⟩
@[go_sem] theorem QBU (T:TypeId) (x:Nat) (hx:x<B32) (yk:IntKind) (k:Int) (h0:0≤k):binOp .shr T (n32 x) (.int yk k)=pure (n32 (x/2^k.toNat)):=by
  rw[n32,Qke _ _ _ _ h0,Qsu]
  rw[QcD]
  show (BitVec.toNat _)=_
  rw[QDz]
  show (QDg x).toNat >>> _=_
  rw[tn32 hx,QDv]
  have:x/2^k.toNat<B32:=QD6 (Nat.div_le_self _ _) hx
  rw[QC1 this]
@[go_sem] theorem Qol {P:Program} (w:World) (S D:TypeId) (x:Nat) (hs:(P.underlying S).isSome=true) (hd:P.underlying D=some (.int .u8)):(convert S D (n32 x)).run P w= .ok (n8 x) w:=by
  rw[n32,Qgi _ _ _ _ hs hd,n8_w]
  rw[UInt32.toNat_toUInt8,QEE]
  omega
theorem Qyt (k:Nat):(8*((k:Int)%4)).toNat=8*(k%4):=by omega
set_option maxRecDepth 100000 in
set_option maxHeartbeats 2000000 in
theorem QlD (n:Nat) (hn:n<T256) (w:World):
 Calls Tryz.prog 90 #[NN n] w fun e w'=>e= .returned (BB (n%P25))∧Later w w':=by
 have h1:Blk ((w.alloc (.cells (NL n).toArray 270)).alloc (.cells (QCC 32 (Value.int .u8 0)).toArray 25)) w.heap.size 270 (NL n):=(Blk.new _ _ _).later (Qaa _ _)
 have h2:Blk ((w.alloc (.cells (NL n).toArray 270)).alloc (.cells (QCC 32 (Value.int .u8 0)).toArray 25)) (w.heap.size+1) 25 (QCC 32 (.int .u8 0)):=Blk.new' _ _ _ (by simp)
 have L0:Later w ((w.alloc (.cells (NL n).toArray 270)).alloc (.cells (QCC 32 (Value.int .u8 0)).toArray 25)):=(Qaa _ _).trans (Qaa _ _)
 have hlS:((nb (n%P25)).map W8).length=32:=by rw[QCF,QbS]
 have HGet:=hid (fun k (h:k<32)=>show ((nb (n%P25)).map W8)[k]?=some (n8 (n%P25/256^k%256)) by rw[QCY,QvJ _ _ h];rfl)
 go_enter Tryz.func90,Tryz.ntmps90
 go_wp2_with (first
  | (refine QaQ rfl _ rfl h1 rfl ?_)
  | (go_at_call 149;(with_reducible refine (Qd0 n hn _).mono ?_);rintro e w2 ⟨rfl,hl2⟩)
  | (refine Qau rfl rfl _ _ rfl (h1.later hl2) rfl rfl (Qax _) ?_;intro w3 hb3 ho3
     have h23:=(h2.later hl2).only ho3 (by omega)
     have L3:=(L0.trans hl2).only ho3 (by omega))
  | fail)
 have hg:w.heap.size+1<w3.heap.size:=h23.lt
 clear h1 h2 L0 hl2 ho3
 generalize hM:n%P25=M at *
 have HM:=hid hM
 clear hM
 go_loopw [4] (fun i wr=>∃k:Nat,k≤32∧i= .int .i64 k∧Blk wr w.heap.size 270 (NL M)∧Blk wr (w.heap.size+1) 25 (QCC 32 (.int .u8 0))∧Blk wr w3.heap.size 25 (Qbu ((nb M).map W8) (QCC 32 (.int .u8 0)) k)∧Later w wr) (fun i _=>32-(intOf i).toNat)
 case atStart=>exact⟨0,by omega,rfl,hb3.later (Qaa _ _),h23.later (Qaa _ _),by rw[Qbh];exact Blk.new _ _ (QCC 32 (Value.int .u8 0)),L3.trans (Qaa _ _)⟩
 case round=>
  clear hb3 h23
  have hL3:=L3.size
  clear L3
  obtain⟨k,hk,rfl,h1,h2,h3,L⟩:=hrel
  by_cases hlt:k<32
  ·have d0:=h1.cellD (k/4) (QdJ M (k/4) (by omega))
   have hct:=Qyt k
   have h08:(0:Int)≤8*((k:Int)%4):=by omega
   have h04:(0:Int)≤(k:Int)%4:=by omega
   have hbl:=hid (QtA M k hlt)
   go_wp2_with (first
    | (refine Qad rfl rfl _ _ _ rfl _ _ _ _ h3 rfl ?hl rfl (by kernel_rfl) ?_;(case hl=>rw[Qaw _ _ _ (by rw[hlS];rfl)];exact hlt);intro v w6 hv hb6 ho6;simp[go_sem]at hv;subst hv)
    | fail)
   go_roundw
   case rel=>
    rw[QyN (show lem M (k/4)/2^(8*(k%4))%256=M/256^k%256%256 by rw[hbl.out,QD4]),QaN _ _ _ _ (by rw[hlS];rfl) hlt (HGet.out k hlt)]at hb6
    exact⟨k+1,by omega,by go_num,h1.only ho6 (by omega),h2.only ho6 (by omega),hb6,L.only ho6 (by omega)⟩
   case measure=>simp[intOf];omega
  ·rw[show k=32 by omega,QbP _ _ _ hlS rfl]at h3
   have hkf:decide ((k:Int)<32)=false:=by simp;omega
   go_wp2_with (first
    | (refine Qbn rfl 25 _ rfl _ _ _ h3 rfl _ Tryz.underlying25 rfl 32 Qba hlS ?_)
    | (refine QaC rfl rfl 25 _ _ rfl _ _ _ _ h2 rfl rfl 32 Qba hlS rfl (QaH _) ?_;intro w9 hb9 ho9)
    | fail)
   exact bodyPost_ret (QaR rfl _ _ _ _ ((nb M).map W8) _ hb9 rfl Tryz.underlying25 rfl (by rw[hlS];exact Qba)) rfl ⟨by rw[HM.out],L.only ho9 (by omega)⟩
@[go_sem] theorem QAy (T:TypeId) (x:Nat) (y:UInt64):binOp .mul T (n64 x) (W64 y)=pure (n64 (x*y.toNat)):=by
  rw[QBP y,Qms]
theorem Qzj (x:UInt8):x.toUInt64.toNat=x.toNat:=UInt8.toNat_toUInt64 x
theorem QqE (w:World):Calls Tryz.prog 314 #[.int .i64 1,.int .i64 4] w fun e w'=>e= .returned (.bool true)∧w=w':=by
 go_enter Tryz.func314,Tryz.ntmps314
 go_wp2
 go_ret
 exact⟨rfl,rfl⟩
def quad (bs:List UInt8) (k j:Nat):Nat:=num ((bs.drop (4*k)).take j)
theorem QqH (bs:List UInt8) (k j:Nat) (h:4*k+j<bs.length):quad bs k (j+1)=quad bs k j+256^j*(bs.getD (4*k+j) 0).toNat:=by
 rw[quad,QjU _ _ (by rw[QC6];omega)]
 congr 3
 rw[QCK,QCK,QDE]
set_option maxHeartbeats 1000000 in
theorem Qyg (A:Option Addr) (n c:Nat) (bs:List UInt8) (k:Nat) (w:World) (hr:RdB w A n bs) (hk:4*k+4≤n) (hn:n≤140737488355328):
 Calls Tryz.prog 252 #[.int .i64 1,.slice A n c,.int .i64 (4*(k:Int)),.int .i64 4] w fun e w'=>e= .returned (.tuple #[n64 (quad bs k 4),.int .i64 0])∧Later w w':=by
 have hbl:=hr.len
 obtain⟨b,o,rfl,hb,hc⟩:=hr.at_ (by omega)
 have HC:=hid hc
 have HQ:=hid (fun j (h:j<4)=>QqH bs k j (by omega))
 clear hc hr
 have e1:decide (4*(k:Int)<0)=false:=by simp;omega
 have e2:decide ((n:Int)<4)=false:=by simp;omega
 have e3:decide ((n:Int)-4<4*(k:Int))=false:=by simp;omega
 go_enter Tryz.func252,Tryz.ntmps252
 go_wp2_with (go_at_call 314;(with_reducible refine (QqE _).mono ?_);rintro e w2 ⟨rfl,rfl⟩)
 go_loopw [10,11,12] (fun v x i wr=>∃j:Nat,j≤4∧i= .int .i64 j∧v=n64 (quad bs k j)∧x=n64 (256^j)∧Later w wr) (fun _ _ i _=>4-(intOf i).toNat)
 case atStart=>exact⟨0,by omega,rfl,rfl,rfl,Later.refl w⟩
 case round=>
  obtain⟨j,hj,rfl,rfl,rfl,L⟩:=hrel
  by_cases hlt:j<4
  ·have c0:wr.cell? ⟨b,o+(4*k+j),none⟩=some (W8 (bs.getD (4*k+j) 0)):=(L.below.cell (p:=⟨b,o+(4*k+j),none⟩) hb).trans (HC.out (4*k+j) (by omega))
   have HQj:=hid (HQ.out j hlt)
   generalize bs.getD (4*k+j) 0=x at *
   have hbx:=Qzj x
   go_wp2
   go_roundw
   case rel=>exact⟨j+1,by omega,by go_num,by rw[HQj.out],by rw[QDF],L⟩
   case measure=>simp[intOf];omega
  ·have hkf:decide ((j:Int)<4)=false:=by simp;omega
   have HJ:=hid (show quad bs k j=quad bs k 4 by rw[show j=4 by omega])
   go_wp2
   go_ret2
   exact⟨QnU (congrArg n64 HJ.out) rfl,L⟩
theorem Qt3 (bs:List UInt8) (k:Nat) (h:4*k+4≤bs.length):quad bs k 4=lem (num bs) k:=by
 have e1:num ((bs.drop (4*k)).take 4)<256^4:=by
  have:=QlG ((bs.drop (4*k)).take 4)
  rwa [QC5,QC6,QDK (by omega)]at this
 have e2:num bs=num (bs.take (4*k))+256^(4*k)*(num ((bs.drop (4*k)).take 4)+256^4*num ((bs.drop (4*k)).drop 4)):=by
  have a1:∀l m:List UInt8,num (l++m)=num l+256^l.length*num m:=by
   intro l m
   rw[num,QDq,QgE,QCF]
   rfl
  conv=>lhs;rw[←QDa (4*k) bs,a1,←QDa 4 (bs.drop (4*k)),a1]
  rw[QC5,QC5,QC6,QDK (by omega),QDK (by omega)]
 have e3:num (bs.take (4*k))<256^(4*k):=by
  have:=QlG (bs.take (4*k))
  rwa [QC5,QDK (by omega)]at this
 have e4:B32^k=256^(4*k):=by rw[QEf];rfl
 have e5:B32=256^4:=by decide
 rw[quad,lem,e4,e5,e2,QEa _ _ (QEF (by decide)),QDy e3,QC4,Nat.add_mul_mod_self_left,QC1 e1]
@[go_sem] theorem QBK (T:TypeId) (x:Nat) (hx:x<B32):binOp .rem T (n32 x) (.int .u32 2147483648)=pure (n32 (x%2147483648)):=by
  rw[n32,Qou _ _ _ (by omega) (by omega) (by decide),Qsu]
  rw[UInt32.toNat_mod,tn32 hx]
  have:x%2147483648<B32:=by unfold B32;omega
  rw[QC1 this]
  rfl
theorem Qze (n:Nat):(NL n).set 7 (n32 (lem n 7%2147483648))=NL (n%T255):=by
 have e:∀m,NL m=[n32 (lem m 0),n32 (lem m 1),n32 (lem m 2),n32 (lem m 3),n32 (lem m 4),n32 (lem m 5),n32 (lem m 6),n32 (lem m 7)]:=by
  intro m
  apply QEU (Qax m)
  intro i hi1 hi2
  rw[QB5]
  have:i=0∨i=1∨i=2∨i=3∨i=4∨i=5∨i=6∨i=7:=by rw[Qax]at hi1;omega
  rcases this with rfl|rfl|rfl|rfl|rfl|rfl|rfl|rfl<;>rfl
 have h0:lem n 0=lem (n%T255) 0:=by unfold lem T255 B32;omega
 have h1:lem n 1=lem (n%T255) 1:=by unfold lem T255 B32;omega
 have h2:lem n 2=lem (n%T255) 2:=by unfold lem T255 B32;omega
 have h3:lem n 3=lem (n%T255) 3:=by unfold lem T255 B32;omega
 have h4:lem n 4=lem (n%T255) 4:=by unfold lem T255 B32;omega
 have h5:lem n 5=lem (n%T255) 5:=by unfold lem T255 B32;omega
 have h6:lem n 6=lem (n%T255) 6:=by unfold lem T255 B32;omega
 have h7:lem n 7%2147483648=lem (n%T255) 7:=by unfold lem T255 B32;omega
 rw[e,e,h0,h1,h2,h3,h4,h5,h6,h7]
 rfl
set_option maxRecDepth 100000 in
set_option maxHeartbeats 2000000 in
theorem Qve (A:Option Addr) (n c:Nat) (bs:List UInt8) (w:World) (hr:RdB w A n bs) (hn:n≤140737488355328):
 Calls Tryz.prog 151 #[.slice A n c] w fun e w'=>e= .returned (.tuple #[NN (Qco bs),.int .i64 (QbW bs:Nat)])∧Later w w':=by
 have hbl:=hr.len
 have hb0:=Blk.new w 270 (QCC 8 (Value.int .u32 0))
 by_cases h32:n=32
 ·subst h32
  have hRN:=hid (show Qco bs=num bs%T255%P25 by rw[Qco,if_pos hbl])
  have hRE:=hid (show QbW bs=0 by rw[QbW,if_pos hbl])
  have HQ:=hid (fun k (h:k<8)=>Qt3 bs k (by omega))
  have hlS:=Qax (num bs)
  go_enter Tryz.func151,Tryz.ntmps151
  go_wp2
  go_loopw [5] (fun i wr=>∃k:Nat,k≤8∧i= .int .i64 k∧Blk wr w.heap.size 270 (QCC 8 (.int .u32 0))∧Blk wr (w.heap.size+1) 270 (Qbu (NL (num bs)) (QCC 8 (.int .u32 0)) k)∧Later w wr) (fun i _=>8-(intOf i).toNat)
  case atStart=>exact⟨0,by omega,rfl,hb0.later (Qaa _ _),by rw[Qbh];exact Blk.new' _ _ (QCC 8 (Value.int .u32 0)) (by simp),(Qaa _ _).trans (Qaa _ _)⟩
  case round=>
   clear hb0
   obtain⟨k,hk,rfl,h1,h2,L⟩:=hrel
   by_cases hlt:k<8
   ·have HQk:=hid (HQ.out k hlt)
    have HG:=hid (Qyg A 32 c bs k wr (hr.later L) (by omega) (by omega))
    go_wp2_with (first
     | (go_at_call 252;(with_reducible refine (HG.out).mono ?_);rintro e w3 ⟨rfl,hl3⟩;rw[HQk.out]
        have h23:=h2.later hl3)
     | (refine Qad rfl rfl _ _ _ rfl _ _ _ _ h23 rfl ?hl rfl (by kernel_rfl) ?_;(case hl=>rw[Qaw _ _ _ (by rw[hlS];rfl)];exact hlt);intro v w6 hv hb6 ho6;simp[go_sem]at hv;subst hv)
     | fail)
    go_roundw
    case rel=>
     rw[QaN _ _ _ _ (by rw[hlS];rfl) hlt (QdJ _ _ hlt)]at hb6
     exact⟨k+1,by omega,by go_num,(h1.later hl3).only ho6 (by omega),hb6,(L.trans hl3).only ho6 (by omega)⟩
    case measure=>simp[intOf];omega
   ·rw[show k=8 by omega,QbP _ _ _ hlS rfl]at h2
    have hkf:decide ((k:Int)<8)=false:=by simp;omega
    have d7:=h2.cellD 7 (QdJ _ 7 (by omega))
    have hlT:num bs%T255<T256:=QDG (QC8 _ (by decide)) (by decide)
    go_wp2_with (first
     | (refine Qad rfl rfl _ _ _ rfl _ _ _ _ h2 rfl ?hl rfl (by kernel_rfl) ?_;(case hl=>rw[Qax];omega);intro v w6 hv hb6 ho6;simp[go_sem]at hv;subst hv
        rw[Qze]at hb6
        have h16:=h1.only ho6 (by omega)
        have L6:=L.only ho6 (by omega))
     | (refine QaQ rfl _ rfl hb6 rfl ?_)
     | (go_at_call 149;(with_reducible refine (Qd0 (num bs%T255) hlT _).mono ?_);rintro e w7 ⟨rfl,hl7⟩)
     | (refine Qau rfl rfl _ _ rfl (h16.later hl7) rfl rfl rfl ?_;intro w9 hb9 ho9)
     | fail)
    exact bodyPost_ret (Qai rfl _ _ _ _ _ _ hb9 rfl Tryz.underlying270 rfl (by rw[Qax];exact Qkd)) rfl ⟨by rw[hRN.out,hRE.out];rfl,(L6.trans hl7).only ho9 (by omega)⟩
 ·have hRN:=hid (show Qco bs=0 by rw[Qco,if_neg (by omega)])
  have hRE:=hid (show QbW bs=2 by rw[QbW,if_neg (by omega)])
  have hne:((n:Int) != 32)=true:=by simp;omega
  go_enter Tryz.func151,Tryz.ntmps151
  go_wp2_with (first
   | (refine Qam rfl 270 _ rfl (NL 0) ?hb ?_;(case hb=>kernel_rfl))
   | (refine Qau (n:=0) rfl rfl _ _ rfl hb0 rfl rfl rfl ?_;intro w9 hb9 ho9)
   | fail)
  exact bodyPost_ret (Qai rfl _ _ _ _ _ _ hb9 rfl Tryz.underlying270 rfl (by rw[Qax];exact Qkd)) rfl ⟨by rw[hRN.out,hRE.out];rfl,(Qaa _ _).only ho9 (by omega)⟩
theorem Qwa (a:Nat) (h:a%P25≠0):a^(P25-1)%P25=1:=by
 have:=QBB.2 a (by unfold P25 at h;exact h)
 unfold P25
 exact this
theorem Qvu (a:Nat) (h:a%P25≠0):a*pinv a%P25=1:=by
 rw[pinv,Nat.mul_mod_mod,←QEx,show (P25-2).succ=P25-1 by unfold P25;rfl]
 exact Qwa a h
theorem QwT (a:Nat):pinv a<P25:=QC8 _ Qbd
theorem QsP (a:Nat):pinv a<T256:=QDG (QwT a) (by decide)
@[go_sem] theorem QCn (a:Nat):(pinv a<T256)=True:=eq_true (QsP a)
@[go_sem] theorem one_T:(1<T256)=True:=eq_true (by decide)
@[go_sem] theorem QCz:(0<T256)=True:=eq_true (by decide)
@[go_sem] theorem T37:(37<T256)=True:=eq_true (by decide)
section
variable {ops:Array Oper} {rest:List Oper} {o:Oper} {a:Act} {w:World} {Q:Exit→Act→World→Prop}
theorem QeM (hgd:Region.wanted o (yielded ops a.tmps)=true) (x:Operand) (ho:o.op= .load 25 x) {g:Nat} {t:TypeId} {bs:List UInt8} (hb:Blk w g t (bs.map W8)) (hl:bs.length=32) (hx:a.eval x= .pointer (some ⟨g,0,none⟩))
 (h:wpList Tryz.prog ops Q rest (a.put o.dst (.agg (bs.map W8).toArray)) w):wpList Tryz.prog ops Q (o :: rest) a w:=
 Qbn hgd _ x ho g t _ hb hx _ Tryz.underlying25 rfl 32 Qba (by rw[QCF,hl]) h
theorem QaG (hgd:o.guard=none) (hd:o.dst=none) (x y:Operand) (ho:o.op= .store 25 x y) {g:Nat} {t:TypeId} {l:List Value} {bs:List UInt8} (hg:Blk w g t l) (hx:a.eval x= .pointer (some ⟨g,0,none⟩)) (hy:a.eval y= .agg (bs.map W8).toArray) (hbl:bs.length=32) (hl:l.length=32)
 (h:∀w',Blk w' g t (bs.map W8)→Only g w w'→wpList Tryz.prog ops Q rest a w'):wpList Tryz.prog ops Q (o :: rest) a w:=
 QaC hgd hd _ x y ho g t l _ hg hx hy 32 Qba (by rw[QCF,hbl]) hl (QaH _) h
end
theorem QcZ (n:Nat):EL n=[n64 (lim n 0),n64 (lim n 1),n64 (lim n 2),n64 (lim n 3)]:=by
 apply QEU (Qal n)
 intro i hi1 hi2
 rw[Qrl]
 have:i=0∨i=1∨i=2∨i=3:=by rw[Qal]at hi1;omega
 rcases this with rfl|rfl|rfl|rfl<;>rfl
theorem QiP (a0 a1 a2 a3 b0 b1 b2 b3:Value) (W:World):
 (Instr.buildSlice 517 2 #[(0,.agg #[a0,a1,a2,a3]),(1,.agg #[b0,b1,b2,b3])]).run Tryz.prog W= .ok (.slice (some ⟨W.heap.size,0,none⟩) 2 2) (W.alloc (.cells #[a0,a1,a2,a3,b0,b1,b2,b3] 360)):=by kernel_rfl
theorem QjL (a b:Nat) (W:World):
 (Instr.buildSlice 517 2 #[(0,E a),(1,E b)]).run Tryz.prog W= .ok (.slice (some ⟨W.heap.size,0,none⟩) 2 2) (W.alloc (.cells (EL a++EL b).toArray 360)):=by
 rw[E,E,QcZ a,QcZ b]
 exact QiP ..
section
variable {ops:Array Oper} {rest:List Oper} {o:Oper} {a:Act} {w:World} {Q:Exit→Act→World→Prop}
theorem Qds (hw:Region.wanted o (yielded ops a.tmps)=true) (x y:Operand) (ho:o.op= .buildSlice 517 2 #[(0,x),(1,y)]) (n m:Nat) (hx:a.eval x=E n) (hy:a.eval y=E m)
 (h:wpList Tryz.prog ops Q rest (a.put o.dst (.slice (some ⟨w.heap.size,0,none⟩) 2 2)) (w.alloc (.cells (EL n++EL m).toArray 360))):wpList Tryz.prog ops Q (o :: rest) a w:=
 BigFrame.wpList_want hw fun K hK=>by
  have hr:=QjL n m w
  unfold Oper.wp
  simp only[execOp,ho,QCT,QC9,QC3,hx,hy,Sem.run_bind,hr,Result.andThen_ok,Sem.run_pure]
  exact hK _ _ h
end
theorem Qtd {w:World} {g:Nat} {t:TypeId} {l:List Value} (ns:List Nat) (n:Nat) (hb:Blk w g t l) (hl:l=ns.flatMap EL) (hn:ns.length=n):RdE w (some ⟨g,0,none⟩) n ns:=by
 refine⟨hn,fun _=>⟨g,0,rfl,hb.lt,fun j i v hj hv=>?_⟩⟩
 refine hb.cellD _ ?_
 rw[hl]
 have key:∀(ns:List Nat) (j:Nat),j<ns.length→(EL (ns.getD j 0))[i]?=some v→(ns.flatMap EL)[0+j*4+i]?=some v:=by
  intro ns
  induction ns with
  | nil=>intro j hj;simp at hj
  | cons x ns ih=>
    intro j hj hv
    cases j with
    | zero=>
      rw[QEi,QCW]
      ·simpa using hv
      ·have:i<(EL x).length:=by
        have:=QCV.1 hv
        exact this.1
       omega
    | succ j=>
      rw[QEi,QCR (by rw[Qal];omega),Qal]
      have:=ih j (by simpa using hj) (by simpa using hv)
      rw[show 0+(j+1)*4+i-4=0+j*4+i by omega]
      exact this
 exact key ns j (by omega) hv
theorem Qn3 (x:Nat) (h:x<P25):Qco (nb x)=x:=by
 have hT:x<T256:=QDG h (by decide)
 rw[Qco,if_pos (QbS x),QvS x hT,QC1 (show x<T255 from QDG h (by decide)),QC1 h]
end Go.Proofs.YticcbmhcgmhohaaGreat
namespace Go.Proofs.YticcbmhcgmhohaaGreat
open Go.RowKit
open Go.BigFrame
def QiL (l:List Nat):List UInt32:=l.map QDg
theorem Qwi (n:Nat):NL n=(QiL (dig B32 8 n)).map W32:=by rw[NL,QiL,List.map_map];rfl
theorem QqL {l m:List Nat} (hl:∀x∈l,x<B32) (hm:∀x∈m,x<B32) (h:QiL l=QiL m):l=m:=by
 have e:∀l:List Nat,(∀ x∈l,x<B32)→(QiL l).map UInt32.toNat=l:=by
  intro l hl
  rw[QiL,List.map_map]
  conv=>rhs;rw[←List.map_id l]
  apply QES
  intro x hx
  exact tn32 (hl x hx)
 rw[←e l hl,←e m hm,h]
theorem Qq4 {x y:Nat} (hx:x<T256) (hy:y<T256):(QiL (dig B32 8 x)==QiL (dig B32 8 y))=(x==y):=by
 rw[QDw,beq_iff_eq,beq_iff_eq]
 refine⟨fun h=>?_,fun h=>by rw[h]⟩
 have:=QqL (QdY Qa7 8 x) (QdY Qa7 8 y) h
 exact Qsd (k:=8) (B:=B32) (by rw[QeG];exact hx) (by rw[QeG];exact hy) this
theorem QAb:(Tryz.prog.info? 60).map (·.size)=some 1:=by kernel_rfl
theorem QBM:Tryz.prog.eqGuardType Tryz.prog.depth 270=false:=by kernel_rfl
@[go_sem high] theorem Qzh (op:BinOp) (x y:Operand) (xs ys:Array Value) (w:World):(eqGuard op 270 x y (.agg xs) (.agg ys)).run Tryz.prog w= .ok () w:=run_eqGuard_agg w op _ x y xs ys QBM
@[go_sem high] theorem Qz2 (x y:Nat) (hx:x<T256) (hy:y<T256) (w:World):(binOp .eql 270 (NN x) (NN y)).run Tryz.prog w= .ok (.bool (x==y)) w:=by
  rw[run_eql_struct,Qwi,Qwi,Qa8 w 0 W32 9998 270 60 8 Tryz.underlying270 QAb Tryz.underlying60 rfl (Qtq _ _ Tryz.underlying60) _ _ (by rw[QiL,QCF,QaI]) (by rw[QiL,QCF,QaI]),Qq4 hx hy]
  rfl
@[go_sem] theorem Qy8 (T:TypeId) (x:Nat) (hx:x<B32):binOp .rem T (n32 x) (.int .u32 2)=pure (n32 (x%2)):=by
  rw[n32,Qou _ _ _ (by omega) (by omega) (by decide),Qsu]
  rw[UInt32.toNat_mod,tn32 hx]
  have:x%2<B32:=by unfold B32;omega
  rw[QC1 this]
  rfl
@[go_sem] theorem QA5 (T:TypeId) (x:Nat) (k:Int) (hx:x<B32) (h0:0≤k) (h1:k<4294967296):binOp .eql T (n32 x) (.int .u32 k)=pure (.bool (x==k.toNat)):=by
  rw[Qxb k h0 h1,n32,n32,QmJ]
  congr 2
  rw[QDw]
  simp only[beq_iff_eq,←QE2,tn32 hx]
  rw[tn32 (show k.toNat<B32 by unfold B32;omega)]
end Go.Proofs.YticcbmhcgmhohaaGreat
namespace Go.Proofs.YticcbmhcgmhohaaGreat
open Go.RowKit
section
variable {P:Program} {ops:Array Oper} {rest:List Oper} {o:Oper} {a:Act} {w:World} {Q:Exit→Act→World→Prop}
theorem Qdz (hgd:o.guard=none) (s x:Operand) (t:TypeId) (ho:o.op= .call { callee:=.builtin .append,args:= #[s,x],argTypes:= #[t,t] })
 (e:TypeId) (z:Value) (sz bytes:Nat) (ht:P.underlying t=some (.slice e)) (hinfo:(P.info? e).map (fun i=>(i.zero,i.size,i.bytes))=some (some z,sz,bytes)) (hzs:z.cells.size=sz) (hs0:0<sz)
 (w0:World) (v:Value) (n:Nat) (vs:List Value) (hown:w.ownsRow w0.heap.size e sz v n vs) (hl:Later w0 w)
 (g m c:Nat) (t2:TypeId) (news:List Value) (hb:Blk w g t2 news) (hnl:news.length=m*sz) (h1:∀u∈news,u.oneCell'=true) (hs:a.eval s=v) (hx:a.eval x= .slice (some ⟨g,0,none⟩) m c) (hsz:(n+m)*bytes≤140737488355328) (hby:0<bytes)
 (h:∀v' w',w'.ownsRow w0.heap.size e sz v' (n+m) (vs++news)→Later w0 w'→w.grownBy w' v.ownBlock→wpList P ops Q rest (a.put o.dst v') w'):
 wpList P ops Q (o :: rest) a w:=by
 obtain⟨i,hi,hz,hsize,hbytes⟩:=info_parts hinfo
 have hnm:n+m≤140737488355328:=QDm (QDO _ hby) hsz
 have hmax:n+m≤maxLen:=by unfold maxLen;omega
 have hcells:∀j u,news[j]?=some u→w.cell? ((⟨g,0,none⟩:Addr).add j)=some u:=by
  intro j u hu
  rw[QcK,QC4]
  exact hb.cellD j hu
 obtain⟨v',w',hrun,h2,h3,_⟩:=run_append_own (P:=P) w w0.heap.size t o.type e i z sz bytes ht hi hz hsize hbytes hzs hs0 v n vs hown ⟨g,0,none⟩ m c news hnl hcells h1 hmax hsz hl.size
 refine wpList_plain hgd fun K hK=>?_
 unfold Oper.wp execOp
 simp only[ho,resolve,invoke,builtin,Sem.run_bind,Sem.run_pure,Result.andThen_ok,QCT,QC9,QC3,hs,hx,hrun]
 exact hK _ _ (h v' w' h2 (hl.grownBy h3 (fun k hk=>(hown.lt k hk).1)) h3)
end
end Go.Proofs.YticcbmhcgmhohaaGreat
