/-
  Lemmas for the last text of this claim (part 7 of 20).
-/
import Derived.ArgAppend
import Derived.BigQuiet
import Derived.BigRegion
import Derived.ChangeOld
import Derived.Deep.RegionWith
import Derived.DeepKeys4
import Derived.JoinedCond
import Derived.LaidMore
import Derived.Laws.BytesArg
import Derived.Laws.CopyOwn
import Derived.Laws.Externs
import Derived.Laws.IdiomStrings
import Derived.Laws.Tables
import Derived.Lib.AppendStr
import Derived.Lib.AppendZerosOnto
import Derived.Lib.Mul64
import Derived.Lib.SlBytesConst
import Derived.LoopN
import Derived.Maps.OwnSet
import Derived.OpenShut
import Derived.OrdersHeld
import Derived.ProofKit
import Derived.Shelf.Spec.BitsCarry
import Derived.ShutString
import Derived.Test.YtdhgpkdjdmlphaaGreatProg
import Derived.Test.YtdhgpkdjdmlphaaGreatRows
import Derived.WalkKit
import Derived.WalkLawsBesides
import Derived.WalkSpells
open Bool renaming and_eq_true → QyJ
open List renaming mem_cons → QyA, not_mem_nil → QyB, map_cons → QyT, map_nil → QyU, map_append → Qy6, length_cons → Qy9, mem_map → Qzb, range → Qzc, all_eq_true → Qzk, mem_range → QAe, nodup_cons → QAk, range_succ → QAp
open Nat renaming mod_eq_of_lt → QyN, mod_lt → QyS, div_add_mod → Qzh, mul_comm → Qzj, mul_assoc → Qzr, lt_or_ge → Qzs, pow_succ → Qzx, mul_le_mul_left → QzF, mul_mod → QzL, lt_of_le_of_lt → QzN, pow_add → QzX, pow_succ' → Qz0, zero_mul → Qz6, pow_mul → QAa, mod_mod → QAb, mul_left_comm → QAg
set_option linter.all false
namespace Go.Proofs.YtdhgpkdjdmlphaaGreat
def Prm (n:Nat):Prop:=2≤n∧∀d,d ∣ n→d=1∨d=n
def small (n:Nat):Bool:=decide (2≤n)&&(Qzc n).all fun d=>d≤1||n%d != 0
theorem Qjs {n:Nat} (h:small n=true):Prm n:=by
 simp only[small,QyJ,decide_eq_true_eq,Qzk,QAe,Bool.or_eq_true,bne_iff_ne]at h
 refine⟨h.1,fun d hd=>?_⟩
 have hle:=Nat.le_of_dvd (by omega) hd
 by_cases he:d=n
 ·exact .inr he
 ·rcases h.2 d (by omega) with h1|h1
  ·rcases Qzs 0 d with h0|h0
   ·exact .inl (by omega)
   ·have:d=0:=by omega
    subst this
    have:=Nat.eq_zero_of_zero_dvd hd
    omega
  ·exact absurd (Nat.mod_eq_zero_of_dvd hd) h1
def pwm (m:Nat):Nat→Nat→Nat→Nat
 | 0,_,_=>1%m
 | f+1,b,e=>if e=0 then 1%m else if e%2=1 then b*pwm m f (b*b%m) (e/2)%m else pwm m f (b*b%m) (e/2)
theorem Qeg (b e m:Nat):(b%m)^e%m=b^e%m:=(Nat.pow_mod b e m).symm
theorem QlF (m:Nat):∀(f b e:Nat),e<2^f→pwm m f b e=b^e%m
 | 0,b,e,h=>by
   obtain rfl:e=0:=by simpa using h
   rfl
 | f+1,b,e,h=>by
   have ih:=QlF m f (b*b%m) (e/2) (by rw[Qzx]at h;omega)
   rw[Qeg]at ih
   have hb:(b*b)^(e/2)=b^(2*(e/2)):=by rw[QAa,Nat.pow_two]
   rw[hb]at ih
   rw[pwm]
   split
   ·rename_i h0
    rw[h0]
    rfl
   ·split
    ·rename_i h1
     rw[ih,Nat.mul_mod_mod,←Qz0]
     congr 2
     omega
    ·rw[ih]
     congr 2
     omega
theorem Qfq (t:Nat) (ht:1<t):∀fs:List Nat,(∀ q∈fs,Prm q)→t ∣ fs.foldr (· *·) 1→∃q∈fs,q ∣ t
 | [],_,h=>by
   have:=Nat.le_of_dvd (by decide) h
   simp at this
   omega
 | q :: fs,hp,h=>by
   have hq:=hp q (by simp)
   rcases hq.2 (Nat.gcd t q) (Nat.gcd_dvd_right t q) with h1|h1
   ·obtain⟨r,hr,hd⟩:=Qfq t ht fs (fun r hr=>hp r (by simp[hr])) (Nat.Coprime.dvd_of_dvd_mul_left h1 h)
    exact⟨r,by simp[hr],hd⟩
   ·exact⟨q,by simp,h1 ▸ Nat.gcd_dvd_left t q⟩
theorem Qdi:∀(l m:List Nat),l.Nodup→(∀ x∈l,x∈m)→l.length≤m.length
 | [],_,_,_=>Nat.zero_le _
 | x :: l,m,h,hs=>by
   rw[QAk]at h
   have hx:=hs x (by simp)
   have:=Qdi l (m.erase x) h.2 (fun y hy=>(List.mem_erase_of_ne (fun e=>by subst e;exact h.1 hy)).2 (hs y (by simp[hy])))
   rw[List.length_erase_of_mem hx]at this
   have:=List.length_pos_of_mem hx
   simp only[Qy9]
   omega
theorem Qke (l:List Nat) (n:Nat) (hd:l.Nodup) (hl:l.length=n) (hb:∀x∈l,0<x∧x<n+1) (a:Nat) (h0:0<a) (h1:a<n+1):a∈l:=by
 refine Classical.byContradiction fun ha=>?_
 have:=Qdi (0 :: a :: l) (Qzc (n+1)) (by
  rw[QAk,QAk]
  refine⟨?_,ha,hd⟩
  intro h
  rcases QyA.1 h with h|h
  ·omega
  ·have:=hb 0 h
   omega) (by
  intro x hx
  rw[QAe]
  rcases QyA.1 hx with rfl|hx
  ·omega
  ·rcases QyA.1 hx with rfl|hx
   ·omega
   ·exact (hb x hx).2)
 simp[hl]at this
 omega
theorem QeK {g n k:Nat} (hn:2≤n) (h:g^k%n=1) (j:Nat):g^(k*j)%n=1:=by
 rw[QAa,Nat.pow_mod,h,Nat.one_pow]
 exact QyN (by omega)
theorem Qgv {a b n:Nat} (ha:a%n=1):a*b%n=b%n:=by
 rw[QzL,ha,Nat.one_mul,QAb]
theorem QdY (f:Nat→Nat):∀n,(∀ i j,i<j→j<n→f i≠f j)→((Qzc n).map f).Nodup
 | 0,_=>by simp
 | n+1,h=>by
   rw[QAp,Qy6,List.nodup_append]
   refine⟨QdY f n fun i j hi hj=>h i j hi (by omega),by simp,?_⟩
   intro a ha b hb
   obtain⟨i,hi,rfl⟩:=Qzb.1 ha
   rw[QAe]at hi
   simp only[QyT,QyU,List.mem_singleton]at hb
   subst hb
   exact h i n hi (by omega)
theorem QxC (n g:Nat) (fs:List Nat) (hn:2≤n) (hprod:fs.foldr (· *·) 1=n-1) (hpr:∀q∈fs,Prm q) (h1:g^(n-1)%n=1) (h2:∀q∈fs,g^((n-1)/q)%n≠1):
 Prm n∧∀a,a%n≠0→a^(n-1)%n=1:=by
 have hord:∀k,0<k→k<n-1→g^k%n≠1:=by
  intro k
  induction k using Nat.strongRecOn with
  | _ m ih=>
    intro h0 hlt hg
    by_cases hr:(n-1)%m=0
    ·have ht:m*((n-1)/m)=n-1:=Nat.mul_div_cancel' (Nat.dvd_of_mod_eq_zero hr)
     generalize (n-1)/m=t at ht
     have ht1:1<t:=by
      rcases Qzs 1 t with h|h
      ·exact h
      ·have:m*t≤m*1:=QzF m h
       omega
     obtain⟨q,hq,u,hu⟩:=Qfq t ht1 fs hpr (by rw[hprod,←ht];exact Nat.dvd_mul_left t m)
     have hqp:=(hpr q hq).1
     refine h2 q hq ?_
     have:(n-1)/q=m*u:=by
      rw[←ht,hu,QAg]
      exact Nat.mul_div_cancel_left _ (by omega)
     rw[this]
     exact QeK hn hg u
    ·refine ih ((n-1)%m) (QyS _ h0) (by omega) (by have:=QyS (n-1) h0;omega) ?_
     have hd:g^(m*((n-1)/m))*g^((n-1)%m)=g^(n-1):=by rw[←QzX,Qzh]
     have e:=Qgv (b:=g^((n-1)%m)) (QeK hn hg ((n-1)/m))
     rw[hd,h1]at e
     exact e.symm
 have hinv:∀i,i≤n-1→g^i*g^(n-1-i)%n=1:=by
  intro i hi
  rw[←QzX,show i+(n-1-i)=n-1 by omega]
  exact h1
 have hnz:∀i,i≤n-1→g^i%n≠0:=by
  intro i hi h
  have:=hinv i hi
  rw[QzL,h,Qz6,Nat.zero_mod]at this
  omega
 have hall:∀a,a%n≠0→∃i,i<n-1∧g^i%n=a%n:=by
  intro a ha
  have:=Qke ((Qzc (n-1)).map fun i=>g^i%n) (n-1) (QdY _ _ (by
   intro i j hi hj he
   refine hord (j-i) (by omega) (by omega) ?_
   have e1:g^j=g^i*g^(j-i):=by rw[←QzX];congr 1;omega
   have e2:=hinv i (by omega)
   have e3:g^(n-1-i)*g^j%n=g^(n-1-i)*g^i%n:=by rw[QzL,←he,←QzL]
   rw[e1,←Qzr,Qzj (g^(n-1-i)),Qgv e2,e2]at e3
   exact e3)) (by simp) (by
   intro x hx
   obtain⟨i,hi,rfl⟩:=Qzb.1 hx
   rw[QAe]at hi
   have:=hnz i (by omega)
   have:=QyS (g^i) (show 0<n by omega)
   omega) (a%n) (by omega) (by have:=QyS a (show 0<n by omega);omega)
  obtain⟨i,hi,he⟩:=Qzb.1 this
  exact⟨i,QAe.1 hi,he⟩
 have hfer:∀a,a%n≠0→a^(n-1)%n=1:=by
  intro a ha
  obtain⟨i,_,he⟩:=hall a ha
  rw[←Qeg,←he,Qeg,←QAa,Qzj]
  exact QeK hn h1 i
 refine⟨⟨hn,fun d hd=>?_⟩,hfer⟩
 by_cases hdn:d=n
 ·exact .inr hdn
 ·refine .inl ?_
  have hle:=Nat.le_of_dvd (by omega) hd
  have hd0:d≠0:=fun h=>by
   subst h
   have:=Nat.eq_zero_of_zero_dvd hd
   omega
  have h3:=hfer d (by rw[QyN (by omega)];exact hd0)
  have h4:d ∣ d^(n-1):=by
   obtain⟨k,hk⟩:∃k,n-1=k+1:=⟨n-2,by omega⟩
   rw[hk,Qzx]
   exact Nat.dvd_mul_left d _
  have h5:d ∣ d^(n-1)%n:=(Nat.dvd_mod_iff hd).2 h4
  rw[h3]at h5
  exact Nat.dvd_one.1 h5
def QuW (n g:Nat) (fs:List Nat):Bool:=
 decide (2≤n)&&decide (n<2^256)&&(fs.foldr (· *·) 1==n-1)&&(pwm n 256 g (n-1)==1)&&fs.all fun q=>pwm n 256 g ((n-1)/q) != 1
theorem Qak (n g:Nat) (fs:List Nat) (h:QuW n g fs=true) (hpr:∀q∈fs,Prm q):Prm n∧∀a,a%n≠0→a^(n-1)%n=1:=by
 simp only[QuW,QyJ,decide_eq_true_eq,beq_iff_eq,Qzk,bne_iff_ne]at h
 obtain⟨⟨⟨⟨h1,h2⟩,h3⟩,h4⟩,h5⟩:=h
 refine QxC n g fs h1 h3 hpr ?_ ?_
 ·rw[QlF _ _ _ _ (by omega)]at h4
  exact h4
 ·intro q hq
  have:=h5 q hq
  rw[QlF _ _ _ _ (QzN (Nat.div_le_self _ _) (by omega))]at this
  exact this
def QjH:List Nat:=[2,3,5,7,13,17,19,23,29,31,41,43,47,59,83,97,103,107,127,131,173,223,353,419,479,487,991]
theorem Qab:∀q∈QjH,Prm q:=fun q hq=>Qjs (Qzk.1 (show QjH.all small=true by decide +kernel) q hq)
theorem QoL:Prm 32573∧∀a,a%32573≠0→a^(32573-1)%32573=1:=
 Qak 32573 2 [2,2,17,479] (by decide +kernel) (by
  intro q hq
  simp only[QyA,QyB,or_false]at hq
  rcases hq with rfl|rfl|rfl|rfl
  ·exact Qab _ (by decide)
  ·exact Qab _ (by decide)
  ·exact Qab _ (by decide)
  ·exact Qab _ (by decide))
theorem Qor:Prm 65147∧∀a,a%65147≠0→a^(65147-1)%65147=1:=
 Qak 65147 2 [2,32573] (by decide +kernel) (by
  intro q hq
  simp only[QyA,QyB,or_false]at hq
  rcases hq with rfl|rfl
  ·exact Qab _ (by decide)
  ·exact QoL.1)
theorem Qp2:Prm 57467∧∀a,a%57467≠0→a^(57467-1)%57467=1:=
 Qak 57467 2 [2,59,487] (by decide +kernel) (by
  intro q hq
  simp only[QyA,QyB,or_false]at hq
  rcases hq with rfl|rfl|rfl
  ·exact Qab _ (by decide)
  ·exact Qab _ (by decide)
  ·exact Qab _ (by decide))
theorem Qmn:Prm 132049∧∀a,a%132049≠0→a^(132049-1)%132049=1:=
 Qak 132049 26 [2,2,2,2,3,3,7,131] (by decide +kernel) (by
  intro q hq
  simp only[QyA,QyB,or_false]at hq
  rcases hq with rfl|rfl|rfl|rfl|rfl|rfl|rfl|rfl
  ·exact Qab _ (by decide)
  ·exact Qab _ (by decide)
  ·exact Qab _ (by decide)
  ·exact Qab _ (by decide)
  ·exact Qab _ (by decide)
  ·exact Qab _ (by decide)
  ·exact Qab _ (by decide)
  ·exact Qab _ (by decide))
theorem Qrn:Prm 3727∧∀a,a%3727≠0→a^(3727-1)%3727=1:=
 Qak 3727 3 [2,3,3,3,3,23] (by decide +kernel) (by
  intro q hq
  simp only[QyA,QyB,or_false]at hq
  rcases hq with rfl|rfl|rfl|rfl|rfl|rfl
  ·exact Qab _ (by decide)
  ·exact Qab _ (by decide)
  ·exact Qab _ (by decide)
  ·exact Qab _ (by decide)
  ·exact Qab _ (by decide)
  ·exact Qab _ (by decide))
theorem Qkr:Prm 1923133∧∀a,a%1923133≠0→a^(1923133-1)%1923133=1:=
 Qak 1923133 2 [2,2,3,43,3727] (by decide +kernel) (by
  intro q hq
  simp only[QyA,QyB,or_false]at hq
  rcases hq with rfl|rfl|rfl|rfl|rfl
  ·exact Qab _ (by decide)
  ·exact Qab _ (by decide)
  ·exact Qab _ (by decide)
  ·exact Qab _ (by decide)
  ·exact Qrn.1)
theorem Qih:Prm 1723∧∀a,a%1723≠0→a^(1723-1)%1723=1:=
 Qak 1723 3 [2,3,7,41] (by decide +kernel) (by
  intro q hq
  simp only[QyA,QyB,or_false]at hq
  rcases hq with rfl|rfl|rfl|rfl
  ·exact Qab _ (by decide)
  ·exact Qab _ (by decide)
  ·exact Qab _ (by decide)
  ·exact Qab _ (by decide))
theorem Qmg:Prm 430751∧∀a,a%430751≠0→a^(430751-1)%430751=1:=
 Qak 430751 17 [2,5,5,5,1723] (by decide +kernel) (by
  intro q hq
  simp only[QyA,QyB,or_false]at hq
  rcases hq with rfl|rfl|rfl|rfl|rfl
  ·exact Qab _ (by decide)
  ·exact Qab _ (by decide)
  ·exact Qab _ (by decide)
  ·exact Qab _ (by decide)
  ·exact Qih.1)
theorem QrB:Prm 4153∧∀a,a%4153≠0→a^(4153-1)%4153=1:=
 Qak 4153 5 [2,2,2,3,173] (by decide +kernel) (by
  intro q hq
  simp only[QyA,QyB,or_false]at hq
  rcases hq with rfl|rfl|rfl|rfl|rfl
  ·exact Qab _ (by decide)
  ·exact Qab _ (by decide)
  ·exact Qab _ (by decide)
  ·exact Qab _ (by decide)
  ·exact Qab _ (by decide))
theorem QdV:Prm 31757755568855353∧∀a,a%31757755568855353≠0→a^(31757755568855353-1)%31757755568855353=1:=
 Qak 31757755568855353 10 [2,2,2,3,31,107,223,4153,430751] (by decide +kernel) (by
  intro q hq
  simp only[QyA,QyB,or_false]at hq
  rcases hq with rfl|rfl|rfl|rfl|rfl|rfl|rfl|rfl|rfl
  ·exact Qab _ (by decide)
  ·exact Qab _ (by decide)
  ·exact Qab _ (by decide)
  ·exact Qab _ (by decide)
  ·exact Qab _ (by decide)
  ·exact Qab _ (by decide)
  ·exact Qab _ (by decide)
  ·exact QrB.1
  ·exact Qmg.1)
theorem QqD:Prm 9463∧∀a,a%9463≠0→a^(9463-1)%9463=1:=
 Qak 9463 3 [2,3,19,83] (by decide +kernel) (by
  intro q hq
  simp only[QyA,QyB,or_false]at hq
  rcases hq with rfl|rfl|rfl|rfl
  ·exact Qab _ (by decide)
  ·exact Qab _ (by decide)
  ·exact Qab _ (by decide)
  ·exact Qab _ (by decide))
theorem Qo5:Prm 37853∧∀a,a%37853≠0→a^(37853-1)%37853=1:=
 Qak 37853 2 [2,2,9463] (by decide +kernel) (by
  intro q hq
  simp only[QyA,QyB,or_false]at hq
  rcases hq with rfl|rfl|rfl
  ·exact Qab _ (by decide)
  ·exact Qab _ (by decide)
  ·exact QqD.1)
theorem QnI:Prm 75707∧∀a,a%75707≠0→a^(75707-1)%75707=1:=
 Qak 75707 2 [2,37853] (by decide +kernel) (by
  intro q hq
  simp only[QyA,QyB,or_false]at hq
  rcases hq with rfl|rfl
  ·exact Qab _ (by decide)
  ·exact Qo5.1)
theorem QrO:Prm 2437∧∀a,a%2437≠0→a^(2437-1)%2437=1:=
 Qak 2437 2 [2,2,3,7,29] (by decide +kernel) (by
  intro q hq
  simp only[QyA,QyB,or_false]at hq
  rcases hq with rfl|rfl|rfl|rfl|rfl
  ·exact Qab _ (by decide)
  ·exact Qab _ (by decide)
  ·exact Qab _ (by decide)
  ·exact Qab _ (by decide)
  ·exact Qab _ (by decide))
theorem Qnk:Prm 569003∧∀a,a%569003≠0→a^(569003-1)%569003=1:=
 Qak 569003 2 [2,7,97,419] (by decide +kernel) (by
  intro q hq
  simp only[QyA,QyB,or_false]at hq
  rcases hq with rfl|rfl|rfl|rfl
  ·exact Qab _ (by decide)
  ·exact Qab _ (by decide)
  ·exact Qab _ (by decide)
  ·exact Qab _ (by decide))
theorem Qhk:Prm 2773320623∧∀a,a%2773320623≠0→a^(2773320623-1)%2773320623=1:=
 Qak 2773320623 5 [2,2437,569003] (by decide +kernel) (by
  intro q hq
  simp only[QyA,QyB,or_false]at hq
  rcases hq with rfl|rfl|rfl
  ·exact Qab _ (by decide)
  ·exact QrO.1
  ·exact Qnk.1)
theorem QgO:Prm 72106336199∧∀a,a%72106336199≠0→a^(72106336199-1)%72106336199=1:=
 Qak 72106336199 7 [2,13,2773320623] (by decide +kernel) (by
  intro q hq
  simp only[QyA,QyB,or_false]at hq
  rcases hq with rfl|rfl|rfl
  ·exact Qab _ (by decide)
  ·exact Qab _ (by decide)
  ·exact Qhk.1)
theorem Qkj:Prm 8574133∧∀a,a%8574133≠0→a^(8574133-1)%8574133=1:=
 Qak 8574133 2 [2,2,3,7,103,991] (by decide +kernel) (by
  intro q hq
  simp only[QyA,QyB,or_false]at hq
  rcases hq with rfl|rfl|rfl|rfl|rfl|rfl
  ·exact Qab _ (by decide)
  ·exact Qab _ (by decide)
  ·exact Qab _ (by decide)
  ·exact Qab _ (by decide)
  ·exact Qab _ (by decide)
  ·exact Qab _ (by decide))
theorem Qev:Prm 1919519569386763∧∀a,a%1919519569386763≠0→a^(1919519569386763-1)%1919519569386763=1:=
 Qak 1919519569386763 2 [2,3,7,19,47,47,127,8574133] (by decide +kernel) (by
  intro q hq
  simp only[QyA,QyB,or_false]at hq
  rcases hq with rfl|rfl|rfl|rfl|rfl|rfl|rfl|rfl
  ·exact Qab _ (by decide)
  ·exact Qab _ (by decide)
  ·exact Qab _ (by decide)
  ·exact Qab _ (by decide)
  ·exact Qab _ (by decide)
  ·exact Qab _ (by decide)
  ·exact Qab _ (by decide)
  ·exact Qkj.1)
theorem QbB:Prm 75445702479781427272750846543864801∧∀a,a%75445702479781427272750846543864801≠0→a^(75445702479781427272750846543864801-1)%75445702479781427272750846543864801=1:=
 Qak 75445702479781427272750846543864801 7 [2,2,2,2,2,3,3,5,5,75707,72106336199,1919519569386763] (by decide +kernel) (by
  intro q hq
  simp only[QyA,QyB,or_false]at hq
  rcases hq with rfl|rfl|rfl|rfl|rfl|rfl|rfl|rfl|rfl|rfl|rfl|rfl
  ·exact Qab _ (by decide)
  ·exact Qab _ (by decide)
  ·exact Qab _ (by decide)
  ·exact Qab _ (by decide)
  ·exact Qab _ (by decide)
  ·exact Qab _ (by decide)
  ·exact Qab _ (by decide)
  ·exact Qab _ (by decide)
  ·exact Qab _ (by decide)
  ·exact QnI.1
  ·exact QgO.1
  ·exact Qev.1)
theorem QaA:Prm 74058212732561358302231226437062788676166966415465897661863160754340907∧∀a,a%74058212732561358302231226437062788676166966415465897661863160754340907≠0→a^(74058212732561358302231226437062788676166966415465897661863160754340907-1)%74058212732561358302231226437062788676166966415465897661863160754340907=1:=
 Qak 74058212732561358302231226437062788676166966415465897661863160754340907 2 [2,3,353,57467,132049,1923133,31757755568855353,75445702479781427272750846543864801] (by decide +kernel) (by
  intro q hq
  simp only[QyA,QyB,or_false]at hq
  rcases hq with rfl|rfl|rfl|rfl|rfl|rfl|rfl|rfl
  ·exact Qab _ (by decide)
  ·exact Qab _ (by decide)
  ·exact Qab _ (by decide)
  ·exact Qp2.1
  ·exact Qmn.1
  ·exact Qkr.1
  ·exact QdV.1
  ·exact QbB.1)
theorem QxB:Prm 57896044618658097711785492504343953926634992332820282019728792003956564819949∧∀a,a%57896044618658097711785492504343953926634992332820282019728792003956564819949≠0→a^(57896044618658097711785492504343953926634992332820282019728792003956564819949-1)%57896044618658097711785492504343953926634992332820282019728792003956564819949=1:=
 Qak 57896044618658097711785492504343953926634992332820282019728792003956564819949 2 [2,2,3,65147,74058212732561358302231226437062788676166966415465897661863160754340907] (by decide +kernel) (by
  intro q hq
  simp only[QyA,QyB,or_false]at hq
  rcases hq with rfl|rfl|rfl|rfl|rfl
  ·exact Qab _ (by decide)
  ·exact Qab _ (by decide)
  ·exact Qab _ (by decide)
  ·exact Qor.1
  ·exact QaA.1)
namespace Ed
def QsE:List Nat:=[2,3,5,7,11,13,17,19,23,31,41,43,47,61,67,73,79,101,113,181,227,269,307,383,467,487,727]
theorem Qac:∀q∈QsE,Prm q:=fun q hq=>Qjs (Qzk.1 (show QsE.all small=true by decide +kernel) q hq)
theorem Qnw:Prm 30703∧∀a,a%30703≠0→a^(30703-1)%30703=1:=
 Qak 30703 3 [2,3,7,17,43] (by decide +kernel) (by
  intro q hq
  simp only[QyA,QyB,or_false]at hq
  rcases hq with rfl|rfl|rfl|rfl|rfl
  ·exact Qac _ (by decide)
  ·exact Qac _ (by decide)
  ·exact Qac _ (by decide)
  ·exact Qac _ (by decide)
  ·exact Qac _ (by decide))
theorem QnS:Prm 41081∧∀a,a%41081≠0→a^(41081-1)%41081=1:=
 Qak 41081 3 [2,2,2,5,13,79] (by decide +kernel) (by
  intro q hq
  simp only[QyA,QyB,or_false]at hq
  rcases hq with rfl|rfl|rfl|rfl|rfl|rfl
  ·exact Qac _ (by decide)
  ·exact Qac _ (by decide)
  ·exact Qac _ (by decide)
  ·exact Qac _ (by decide)
  ·exact Qac _ (by decide)
  ·exact Qac _ (by decide))
theorem QnB:Prm 82163∧∀a,a%82163≠0→a^(82163-1)%82163=1:=
 Qak 82163 2 [2,41081] (by decide +kernel) (by
  intro q hq
  simp only[QyA,QyB,or_false]at hq
  rcases hq with rfl|rfl
  ·exact Qac _ (by decide)
  ·exact QnS.1)
theorem Qih:Prm 1723∧∀a,a%1723≠0→a^(1723-1)%1723=1:=
 Qak 1723 3 [2,3,7,41] (by decide +kernel) (by
  intro q hq
  simp only[QyA,QyB,or_false]at hq
  rcases hq with rfl|rfl|rfl|rfl
  ·exact Qac _ (by decide)
  ·exact Qac _ (by decide)
  ·exact Qac _ (by decide)
  ·exact Qac _ (by decide))
theorem Qn7:Prm 17231∧∀a,a%17231≠0→a^(17231-1)%17231=1:=
 Qak 17231 13 [2,5,1723] (by decide +kernel) (by
  intro q hq
  simp only[QyA,QyB,or_false]at hq
  rcases hq with rfl|rfl|rfl
  ·exact Qac _ (by decide)
  ·exact Qac _ (by decide)
  ·exact Qih.1)
theorem QmM:Prm 137849∧∀a,a%137849≠0→a^(137849-1)%137849=1:=
 Qak 137849 3 [2,2,2,17231] (by decide +kernel) (by
  intro q hq
  simp only[QyA,QyB,or_false]at hq
  rcases hq with rfl|rfl|rfl|rfl
  ·exact Qac _ (by decide)
  ·exact Qac _ (by decide)
  ·exact Qac _ (by decide)
  ·exact Qn7.1)
theorem QoU:Prm 22111∧∀a,a%22111≠0→a^(22111-1)%22111=1:=
 Qak 22111 6 [2,3,5,11,67] (by decide +kernel) (by
  intro q hq
  simp only[QyA,QyB,or_false]at hq
  rcases hq with rfl|rfl|rfl|rfl|rfl
  ·exact Qac _ (by decide)
  ·exact Qac _ (by decide)
  ·exact Qac _ (by decide)
  ·exact Qac _ (by decide)
  ·exact Qac _ (by decide))
theorem QmT:Prm 132667∧∀a,a%132667≠0→a^(132667-1)%132667=1:=
 Qak 132667 5 [2,3,22111] (by decide +kernel) (by
  intro q hq
  simp only[QyA,QyB,or_false]at hq
  rcases hq with rfl|rfl|rfl
  ·exact Qac _ (by decide)
  ·exact Qac _ (by decide)
  ·exact QoU.1)
theorem Qc0:Prm 3044861653679985063343∧∀a,a%3044861653679985063343≠0→a^(3044861653679985063343-1)%3044861653679985063343=1:=
 Qak 3044861653679985063343 5 [2,3,11,30703,82163,132667,137849] (by decide +kernel) (by
  intro q hq
  simp only[QyA,QyB,or_false]at hq
  rcases hq with rfl|rfl|rfl|rfl|rfl|rfl|rfl
  ·exact Qac _ (by decide)
  ·exact Qac _ (by decide)
  ·exact Qac _ (by decide)
  ·exact Qnw.1
  ·exact QnB.1
  ·exact QmT.1
  ·exact QmM.1)
theorem Qox:Prm 34123∧∀a,a%34123≠0→a^(34123-1)%34123=1:=
 Qak 34123 2 [2,3,11,11,47] (by decide +kernel) (by
  intro q hq
  simp only[QyA,QyB,or_false]at hq
  rcases hq with rfl|rfl|rfl|rfl|rfl
  ·exact Qac _ (by decide)
  ·exact Qac _ (by decide)
  ·exact Qac _ (by decide)
  ·exact Qac _ (by decide)
  ·exact Qac _ (by decide))
theorem Qm3:Prm 409477∧∀a,a%409477≠0→a^(409477-1)%409477=1:=
 Qak 409477 2 [2,2,3,34123] (by decide +kernel) (by
  intro q hq
  simp only[QyA,QyB,or_false]at hq
  rcases hq with rfl|rfl|rfl|rfl
  ·exact Qac _ (by decide)
  ·exact Qac _ (by decide)
  ·exact Qac _ (by decide)
  ·exact Qox.1)
theorem Qjf:Prm 14741173∧∀a,a%14741173≠0→a^(14741173-1)%14741173=1:=
 Qak 14741173 2 [2,2,3,3,409477] (by decide +kernel) (by
  intro q hq
  simp only[QyA,QyB,or_false]at hq
  rcases hq with rfl|rfl|rfl|rfl|rfl
  ·exact Qac _ (by decide)
  ·exact Qac _ (by decide)
  ·exact Qac _ (by decide)
  ·exact Qac _ (by decide)
  ·exact Qm3.1)
theorem QjA:Prm 58964693∧∀a,a%58964693≠0→a^(58964693-1)%58964693=1:=
 Qak 58964693 2 [2,2,14741173] (by decide +kernel) (by
  intro q hq
  simp only[QyA,QyB,or_false]at hq
  rcases hq with rfl|rfl|rfl
  ·exact Qac _ (by decide)
  ·exact Qac _ (by decide)
  ·exact Qjf.1)
theorem QbJ:Prm 198211423230930754013084525763697∧∀a,a%198211423230930754013084525763697≠0→a^(198211423230930754013084525763697-1)%198211423230930754013084525763697=1:=
 Qak 198211423230930754013084525763697 5 [2,2,2,2,3,23,58964693,3044861653679985063343] (by decide +kernel) (by
  intro q hq
  simp only[QyA,QyB,or_false]at hq
  rcases hq with rfl|rfl|rfl|rfl|rfl|rfl|rfl|rfl
  ·exact Qac _ (by decide)
  ·exact Qac _ (by decide)
  ·exact Qac _ (by decide)
  ·exact Qac _ (by decide)
  ·exact Qac _ (by decide)
  ·exact Qac _ (by decide)
  ·exact QjA.1
  ·exact Qc0.1)
theorem QrN:Prm 2939∧∀a,a%2939≠0→a^(2939-1)%2939=1:=
 Qak 2939 2 [2,13,113] (by decide +kernel) (by
  intro q hq
  simp only[QyA,QyB,or_false]at hq
  rcases hq with rfl|rfl|rfl
  ·exact Qac _ (by decide)
  ·exact Qac _ (by decide)
  ·exact Qac _ (by decide))
theorem Qqx:Prm 5879∧∀a,a%5879≠0→a^(5879-1)%5879=1:=
 Qak 5879 11 [2,2939] (by decide +kernel) (by
  intro q hq
  simp only[QyA,QyB,or_false]at hq
  rcases hq with rfl|rfl
  ·exact Qac _ (by decide)
  ·exact QrN.1)
theorem Qii:Prm 292386187∧∀a,a%292386187≠0→a^(292386187-1)%292386187=1:=
 Qak 292386187 2 [2,3,3,3,3,307,5879] (by decide +kernel) (by
  intro q hq
  simp only[QyA,QyB,or_false]at hq
  rcases hq with rfl|rfl|rfl|rfl|rfl|rfl|rfl
  ·exact Qac _ (by decide)
  ·exact Qac _ (by decide)
  ·exact Qac _ (by decide)
  ·exact Qac _ (by decide)
  ·exact Qac _ (by decide)
  ·exact Qac _ (by decide)
  ·exact Qqx.1)
theorem Qgb:Prm 213441916511∧∀a,a%213441916511≠0→a^(213441916511-1)%213441916511=1:=
 Qak 213441916511 13 [2,5,73,292386187] (by decide +kernel) (by
  intro q hq
  simp only[QyA,QyB,or_false]at hq
  rcases hq with rfl|rfl|rfl|rfl
  ·exact Qac _ (by decide)
  ·exact Qac _ (by decide)
  ·exact Qac _ (by decide)
  ·exact Qii.1)
theorem QrC:Prm 1361∧∀a,a%1361≠0→a^(1361-1)%1361=1:=
 Qak 1361 3 [2,2,2,2,5,17] (by decide +kernel) (by
  intro q hq
  simp only[QyA,QyB,or_false]at hq
  rcases hq with rfl|rfl|rfl|rfl|rfl|rfl
  ·exact Qac _ (by decide)
  ·exact Qac _ (by decide)
  ·exact Qac _ (by decide)
  ·exact Qac _ (by decide)
  ·exact Qac _ (by decide)
  ·exact Qac _ (by decide))
theorem Qqk:Prm 2851∧∀a,a%2851≠0→a^(2851-1)%2851=1:=
 Qak 2851 2 [2,3,5,5,19] (by decide +kernel) (by
  intro q hq
  simp only[QyA,QyB,or_false]at hq
  rcases hq with rfl|rfl|rfl|rfl|rfl
  ·exact Qac _ (by decide)
  ·exact Qac _ (by decide)
  ·exact Qac _ (by decide)
  ·exact Qac _ (by decide)
  ·exact Qac _ (by decide))
theorem Qra:Prm 2551∧∀a,a%2551≠0→a^(2551-1)%2551=1:=
 Qak 2551 6 [2,3,5,5,17] (by decide +kernel) (by
  intro q hq
  simp only[QyA,QyB,or_false]at hq
  rcases hq with rfl|rfl|rfl|rfl|rfl
  ·exact Qac _ (by decide)
  ·exact Qac _ (by decide)
  ·exact Qac _ (by decide)
  ·exact Qac _ (by decide)
  ·exact Qac _ (by decide))
theorem Qk2:Prm 1224481∧∀a,a%1224481≠0→a^(1224481-1)%1224481=1:=
 Qak 1224481 13 [2,2,2,2,2,3,5,2551] (by decide +kernel) (by
  intro q hq
  simp only[QyA,QyB,or_false]at hq
  rcases hq with rfl|rfl|rfl|rfl|rfl|rfl|rfl|rfl
  ·exact Qac _ (by decide)
  ·exact Qac _ (by decide)
  ·exact Qac _ (by decide)
  ·exact Qac _ (by decide)
  ·exact Qac _ (by decide)
  ·exact Qac _ (by decide)
  ·exact Qac _ (by decide)
  ·exact Qra.1)
theorem Qq0:Prm 3797∧∀a,a%3797≠0→a^(3797-1)%3797=1:=
 Qak 3797 2 [2,2,13,73] (by decide +kernel) (by
  intro q hq
  simp only[QyA,QyB,or_false]at hq
  rcases hq with rfl|rfl|rfl|rfl
  ·exact Qac _ (by decide)
  ·exact Qac _ (by decide)
  ·exact Qac _ (by decide)
  ·exact Qac _ (by decide))
theorem Qm9:Prm 531581∧∀a,a%531581≠0→a^(531581-1)%531581=1:=
 Qak 531581 2 [2,2,5,7,3797] (by decide +kernel) (by
  intro q hq
  simp only[QyA,QyB,or_false]at hq
  rcases hq with rfl|rfl|rfl|rfl|rfl
  ·exact Qac _ (by decide)
  ·exact Qac _ (by decide)
  ·exact Qac _ (by decide)
  ·exact Qac _ (by decide)
  ·exact Qq0.1)
theorem Qex:Prm 1257559732178653∧∀a,a%1257559732178653≠0→a^(1257559732178653-1)%1257559732178653=1:=
 Qak 1257559732178653 2 [2,2,3,7,23,531581,1224481] (by decide +kernel) (by
  intro q hq
  simp only[QyA,QyB,or_false]at hq
  rcases hq with rfl|rfl|rfl|rfl|rfl|rfl|rfl
  ·exact Qac _ (by decide)
  ·exact Qac _ (by decide)
  ·exact Qac _ (by decide)
  ·exact Qac _ (by decide)
  ·exact Qac _ (by decide)
  ·exact Qm9.1
  ·exact Qk2.1)
theorem QdP:Prm 4434155615661930479∧∀a,a%4434155615661930479≠0→a^(4434155615661930479-1)%4434155615661930479=1:=
 Qak 4434155615661930479 17 [2,41,43,1257559732178653] (by decide +kernel) (by
  intro q hq
  simp only[QyA,QyB,or_false]at hq
  rcases hq with rfl|rfl|rfl|rfl
  ·exact Qac _ (by decide)
  ·exact Qac _ (by decide)
  ·exact Qac _ (by decide)
  ·exact Qex.1)
theorem Qcc:Prm 172054593956031949258510691∧∀a,a%172054593956031949258510691≠0→a^(172054593956031949258510691-1)%172054593956031949258510691=1:=
 Qak 172054593956031949258510691 2 [2,5,1361,2851,4434155615661930479] (by decide +kernel) (by
  intro q hq
  simp only[QyA,QyB,or_false]at hq
  rcases hq with rfl|rfl|rfl|rfl|rfl
  ·exact Qac _ (by decide)
  ·exact Qac _ (by decide)
  ·exact QrC.1
  ·exact Qqk.1
  ·exact QdP.1)
theorem Qbf:Prm 19757330305831588566944191468367130476339∧∀a,a%19757330305831588566944191468367130476339≠0→a^(19757330305831588566944191468367130476339-1)%19757330305831588566944191468367130476339=1:=
 Qak 19757330305831588566944191468367130476339 2 [2,269,213441916511,172054593956031949258510691] (by decide +kernel) (by
  intro q hq
  simp only[QyA,QyB,or_false]at hq
  rcases hq with rfl|rfl|rfl|rfl
  ·exact Qac _ (by decide)
  ·exact Qac _ (by decide)
  ·exact Qgb.1
  ·exact Qcc.1)
theorem Qbd:Prm 276602624281642239937218680557139826668747∧∀a,a%276602624281642239937218680557139826668747≠0→a^(276602624281642239937218680557139826668747-1)%276602624281642239937218680557139826668747=1:=
 Qak 276602624281642239937218680557139826668747 2 [2,7,19757330305831588566944191468367130476339] (by decide +kernel) (by
  intro q hq
  simp only[QyA,QyB,or_false]at hq
  rcases hq with rfl|rfl|rfl
  ·exact Qac _ (by decide)
  ·exact Qac _ (by decide)
  ·exact Qbf.1)
theorem Qxd:Prm 7237005577332262213973186563042994240857116359379907606001950938285454250989∧∀a,a%7237005577332262213973186563042994240857116359379907606001950938285454250989≠0→a^(7237005577332262213973186563042994240857116359379907606001950938285454250989-1)%7237005577332262213973186563042994240857116359379907606001950938285454250989=1:=
 Qak 7237005577332262213973186563042994240857116359379907606001950938285454250989 2 [2,2,3,11,198211423230930754013084525763697,276602624281642239937218680557139826668747] (by decide +kernel) (by
  intro q hq
  simp only[QyA,QyB,or_false]at hq
  rcases hq with rfl|rfl|rfl|rfl|rfl|rfl
  ·exact Qac _ (by decide)
  ·exact Qac _ (by decide)
  ·exact Qac _ (by decide)
  ·exact Qac _ (by decide)
  ·exact QbJ.1
  ·exact Qbd.1)
end Ed
end Go.Proofs.YtdhgpkdjdmlphaaGreat
