/-
  Lemmas for the last text of this claim (part 12 of 20).
-/
import Derived.ArgAppend
import Derived.BigQuiet
import Derived.BigRegion
import Derived.ChangeOld
import Derived.Deep.RegionWith
import Derived.DeepKeys4
import Derived.JoinedCond
import Derived.LaidMore
import Derived.Laws.BytesArg
import Derived.Laws.CopyOwn
import Derived.Laws.Externs
import Derived.Laws.IdiomStrings
import Derived.Laws.Tables
import Derived.Lib.AppendStr
import Derived.Lib.AppendZerosOnto
import Derived.Lib.Mul64
import Derived.Lib.SlBytesConst
import Derived.LoopN
import Derived.Maps.OwnSet
import Derived.OpenShut
import Derived.OrdersHeld
import Derived.ProofKit
import Derived.Shelf.Spec.BitsCarry
import Derived.ShutString
import Derived.Test.YtdhgpkdjdmlphaaGreatProg
import Derived.Test.YtdhgpkdjdmlphaaGreatRows
import Derived.WalkKit
import Derived.WalkLawsBesides
import Derived.WalkSpells
import Derived.Test.YtdhgpkdjdmlphaaGreatPC
import Derived.Test.YtdhgpkdjdmlphaaGreatPD
import Derived.Test.YtdhgpkdjdmlphaaGreatPG
import Derived.Test.YtdhgpkdjdmlphaaGreatPH
import Derived.Test.YtdhgpkdjdmlphaaGreatPI
import Derived.Test.YtdhgpkdjdmlphaaGreatPJ
import Derived.Test.YtdhgpkdjdmlphaaGreatPK
open List renaming replicate → Qym, length_map → Qyn, getElem?_cons_succ → Qyo, getElem?_eq_getElem → Qyq, getD_eq_getElem?_getD → Qys, nil_append → Qyt, take_of_length_le → Qyx, getElem?_append_right → Qyz, mem_cons → QyA, getElem?_eq_some_iff → QyC, getElem?_map → QyF, getElem?_append_left → QyH, map_toArray → QyK, length_take → QyL, map_cons → QyT, map_nil → QyU, take_append_drop → QyV, map_replicate → Qy4, length_cons → Qy9, mem_map → Qzb, range → Qzc, drop_left' → Qzg, drop_zero → Qzn, getElem?_eq_none → Qzq, getElem?_set_ne → QzB, getElem?_drop → QzC, drop_succ_cons → QzG, getElem_mem → QzH, getElem?_set_self → Qz1, getElem?_range → Qz3, mem_append → Qz7, getElem?_take → Qz8, take_left' → QAj, range_succ → QAp
open Nat renaming le_refl → Qyw, mod_eq_of_lt → QyN, mod_lt → QyS, zero_add → QyY, le_trans → Qy3, div_div_eq_div_mul → Qze, div_add_mod → Qzh, mul_comm → Qzj, mul_add → Qzo, mul_assoc → Qzr, lt_or_ge → Qzs, pow_succ → Qzx, min_eq_left → QzD, mul_le_mul_left → QzF, mul_mod → QzL, pow_add → QzX, mul_one → QzY, pow_succ' → Qz0, zero_mul → Qz6, mod_mod → QAb, add_comm → QAm, add_mod → QAo
open Option renaming map_some → QzW, getD_some → QAq
open UInt64 renaming ofNat → QyO
open UInt8 renaming ofNat → QyP, toNat_ofNat' → Qzl, toNat → QAt
set_option linter.all false
namespace Go.Proofs.YtdhgpkdjdmlphaaGreat
open Go.RowKit
section
variable {P:Program} {ops:Array Oper} {rest:List Oper} {o:Oper} {a:Act} {w:World} {Q:Exit→Act→World→Prop}
theorem Qng (hw:Region.wanted o (yielded ops a.tmps)=true) (t:TypeId) (x:Operand) (ho:o.op= .buildSlice t 1 #[(0,x)]) (e:TypeId) (sz:Nat) (z:Value) (vs:List Value) (ht:P.underlying t=some (.slice e)) (hz:(P.info? e).map (fun i=>(i.zero,i.size))=some (some z,sz)) (hs0:0<sz) (hsm:sz≤65536)
 (hbl:vs.length=sz) (hx:a.eval x= .agg vs.toArray)
 (h:wpList P ops Q rest (a.put o.dst (.slice (some ⟨w.heap.size,0,none⟩) 1 1)) (w.alloc (.cells vs.toArray e))):wpList P ops Q (o :: rest) a w:=
 BigFrame.wpList_want hw fun K hK=>by
  have hr:=Qh1 (v:=.agg vs.toArray) ht hz hs0 hsm rfl hbl w
  unfold Oper.wp
  simp only[execOp,ho,QyK,QyT,QyU,hx,Sem.run_bind,hr,Result.andThen_ok,Sem.run_pure]
  exact hK _ _ h
end
end Go.Proofs.YtdhgpkdjdmlphaaGreat
namespace Go.Proofs.YtdhgpkdjdmlphaaGreat
namespace Ed
instance neP:NeZero P25:=⟨by decide⟩
abbrev Fp:=Fin P25
def toF (n:Nat):Fp:=Fin.ofNat P25 n
theorem QbM (n:Nat):(toF n).val=n%P25:=rfl
theorem QnQ (a:Fp):toF a.val=a:=Fin.ext (QyN a.isLt)
theorem Qia (n:Nat):toF (n%P25)=toF n:=Fin.ext (QAb _ _)
theorem QtW (a b:Nat):toF (a+b)=toF a+toF b:=Fin.ext (by rw[Fin.val_add,QbM,QbM,QbM,←QAo])
theorem QiB (a b:Nat):toF (a*b)=toF a*toF b:=Fin.ext (by rw[Fin.val_mul,QbM,QbM,QbM,←QzL])
theorem Ql1 (a b:Nat):toF (fadd a b)=toF a+toF b:=by rw[fadd,Qia,QtW]
theorem Qib (a b:Nat):toF (fmul a b)=toF a*toF b:=by rw[fmul,Qia,QiB]
theorem Ql0 (a b:Nat):toF (fsub a b)=toF a-toF b:=by
 rw[fsub,Qia]
 apply Fin.ext
 rw[Fin.sub_def,QbM]
 show _=((P25-(toF b).val)+(toF a).val)%P25
 rw[QbM,QbM,QAm,Nat.add_mod_mod]
theorem Qlk:toF 0=0:=rfl
theorem Qha {a:Nat}:toF a=0↔a%P25=0:=by
 rw[←Qlk,Fin.ext_iff,QbM,QbM,Nat.zero_mod]
theorem QgM {a:Fp} (h:a≠0):a.val%P25≠0:=by
 intro h0
 apply h
 rw[←QnQ a]
 exact Qha.2 h0
def finv (a:Fp):Fp:=toF (pinv a.val)
theorem Qay {a:Fp} (h:a≠0):a*finv a=1:=by
 have h1:=Qre a.val (QgM h)
 have h2:toF (a.val*pinv a.val)=toF 1:=Fin.ext (by rw[QbM,QbM,h1];rfl)
 rw[QiB,QnQ]at h2
 exact h2
theorem QlB:(1:Fp)≠0:=by decide
theorem QhG:(2:Fp)≠0:=by decide
theorem QcW {a b:Fp} (h:a*b=0):a=0∨b=0:=by
 by_cases ha:a=0
 ·exact .inl ha
 ·have:=Qay ha
  right
  grobner
theorem QaC {a b:Fp} (ha:a≠0) (hb:b≠0):a*b≠0:=fun h=>(QcW h).elim ha hb
theorem Qd7 {a b c:Fp} (hc:c≠0) (h:a*c=b*c):a=b:=by
 have:=Qay hc
 grobner
theorem Qr8 {a:Fp} (h:a*a=1):a=1∨a= -1:=by
 have:(a-1)*(a+1)=0:=by grobner
 rcases QcW this with h|h
 ·left;grobner
 ·right;grobner
def fpow (a:Fp) (n:Nat):Fp:=toF (a.val^n)
theorem Qer (a:Fp) (m n:Nat):fpow a (m+n)=fpow a m*fpow a n:=by rw[fpow,QzX,QiB,fpow,fpow]
theorem Qqf (a:Fp):fpow a 1=a:=by rw[fpow,Nat.pow_one,QnQ]
theorem Qb7 (a b:Fp) (n:Nat):fpow (a*b) n=fpow a n*fpow b n:=by
 rw[fpow,fpow,fpow,←QiB,←Nat.mul_pow]
 apply Fin.ext
 rw[QbM,QbM,Fin.val_mul,←Nat.pow_mod]
theorem Qhe {a:Fp} (h:a≠0):fpow a (P25-1)=1:=Fin.ext (by rw[fpow,QbM,QrW _ (QgM h)];rfl)
def isSq (a:Fp):Prop:=∃r:Fp,r*r=a
def Hp:Nat:=28948022309329048855892746252171976963317496166410141009864396001978282409974
def Qp:Nat:=14474011154664524427946373126085988481658748083205070504932198000989141204987
def Op:Nat:=7237005577332262213973186563042994240829374041602535252466099000494570602494
theorem QoS {a:Fp} (h:a≠0):fpow a Hp=1∨fpow a Hp= -1:=by
 apply Qr8
 rw[←Qer,show Hp+Hp=P25-1 by decide]
 exact Qhe h
theorem QoH {a:Fp} (h:a≠0) (hs:isSq a):fpow a Hp=1:=by
 obtain⟨r,rfl⟩:=hs
 have hr:r≠0:=by rintro rfl;exact h (by decide)
 rw[Qb7,←Qer,show Hp+Hp=P25-1 by decide]
 exact Qhe hr
theorem QpO {i:Fp} (hi:i*i= -1) {a:Fp} (h:fpow a Hp=1):isSq a:=by
 have h1:fpow a Qp*fpow a Qp=1:=by rw[←Qer,show Qp+Qp=Hp by decide];exact h
 have h2:fpow a Op*fpow a Op=a*fpow a Qp:=by
  rw[←Qer,show Op+Op=1+Qp by decide,Qer,Qqf]
 rcases Qr8 h1 with h3|h3
 ·exact⟨fpow a Op,by rw[h2,h3];grobner⟩
 ·exact⟨i*fpow a Op,by rw[h3]at h2;grobner⟩
def QeZ (δ:Fp):Prop:=∀r:Fp,r*r≠δ
@[ext] structure Pt (δ:Fp) where
  x:Fp
  y:Fp
  on:x*x+y*y=1+δ*x*x*y*y
theorem Qhg {δ z w:Fp} (hδ:QeZ δ) (h:w*w=δ*(z*z)):z=0:=by
 by_cases hz:z=0
 ·exact hz
 ·have:=Qay hz
  exact absurd (show (w*finv z)*(w*finv z)=δ by grobner) (hδ _)
theorem QlQ {δ:Fp} (hδ:QeZ δ) {x1 y1 x2 y2 ε:Fp} (h1:x1*x1+y1*y1=1+δ*x1*x1*y1*y1) (h2:x2*x2+y2*y2=1+δ*x2*x2*y2*y2)
 (ht:δ*x1*x2*y1*y2=ε) (he:ε*ε=1):False:=by
 have a1:(x1+ε*y1)*(x1+ε*y1)=δ*((x1*y1*(x2+y2))*(x1*y1*(x2+y2))):=by grobner
 have a2:(x1-ε*y1)*(x1-ε*y1)=δ*((x1*y1*(x2-y2))*(x1*y1*(x2-y2))):=by grobner
 have b1:=Qhg hδ a1
 have b2:=Qhg hδ a2
 have c:2*(x1*y1*x2)=0:=by grobner
 have hn:2*(x1*y1*x2)≠0:=by
  refine QaC QhG ?_
  intro h0
  have:ε=0:=by rw[←ht];grobner
  rw[this]at he
  revert he
  decide
 exact hn c
section
variable {δ:Fp}
def tt (P Q:Pt δ):Fp:=δ*P.x*Q.x*P.y*Q.y
theorem Qfz (hδ:QeZ δ) (P Q:Pt δ):1+tt P Q≠0:=fun h=>QlQ hδ (ε:= -1) P.on Q.on (by unfold tt at h;grobner) (by decide)
theorem QeO (hδ:QeZ δ) (P Q:Pt δ):1-tt P Q≠0:=fun h=>QlQ hδ (ε:=1) P.on Q.on (by unfold tt at h;grobner) (by decide)
theorem QuP {x1 y1 x2 y2 i j:Fp} (h1:x1*x1+y1*y1=1+δ*x1*x1*y1*y1) (h2:x2*x2+y2*y2=1+δ*x2*x2*y2*y2)
 (hi:(1+δ*x1*x2*y1*y2)*i=1) (hj:(1-δ*x1*x2*y1*y2)*j=1):
 ((x1*y2+x2*y1)*i)*((x1*y2+x2*y1)*i)+((y1*y2-x1*x2)*j)*((y1*y2-x1*x2)*j)=1+δ*((x1*y2+x2*y1)*i)*((x1*y2+x2*y1)*i)*((y1*y2-x1*x2)*j)*((y1*y2-x1*x2)*j):=by
 have key:(x1*y2+x2*y1)*(x1*y2+x2*y1)*((1-δ*x1*x2*y1*y2)*(1-δ*x1*x2*y1*y2))+(y1*y2-x1*x2)*(y1*y2-x1*x2)*((1+δ*x1*x2*y1*y2)*(1+δ*x1*x2*y1*y2))
  = (1+δ*x1*x2*y1*y2)*(1+δ*x1*x2*y1*y2)*((1-δ*x1*x2*y1*y2)*(1-δ*x1*x2*y1*y2))+δ*((x1*y2+x2*y1)*(x1*y2+x2*y1))*((y1*y2-x1*x2)*(y1*y2-x1*x2)):=by grobner
 generalize x1*y2+x2*y1=X at *
 generalize y1*y2-x1*x2=Y at *
 generalize 1+δ*x1*x2*y1*y2=A at *
 generalize 1-δ*x1*x2*y1*y2=B at *
 have k2:(X*X*(B*B)+Y*Y*(A*A))*(i*i*(j*j))=(A*A*(B*B)+δ*(X*X)*(Y*Y))*(i*i*(j*j)):=by rw[key]
 have hi2:A*A*(i*i)=1:=by grobner
 have hj2:B*B*(j*j)=1:=by grobner
 clear key h1 h2 hi hj
 grobner
def Pt.add (hδ:QeZ δ) (P Q:Pt δ):Pt δ:=
 ⟨(P.x*Q.y+Q.x*P.y)*finv (1+tt P Q),(P.y*Q.y-P.x*Q.x)*finv (1-tt P Q),QuP P.on Q.on (Qay (Qfz hδ P Q)) (Qay (QeO hδ P Q))⟩
variable (hδ:QeZ δ)
theorem Qim (P Q:Pt δ):(P.add hδ Q).x*(1+tt P Q)=P.x*Q.y+Q.x*P.y:=by
 have:=Qay (Qfz hδ P Q)
 show (P.x*Q.y+Q.x*P.y)*finv (1+tt P Q)*(1+tt P Q)=_
 grobner
theorem Qfa (P Q:Pt δ):(P.add hδ Q).y*(1-tt P Q)=P.y*Q.y-P.x*Q.x:=by
 have:=Qay (QeO hδ P Q)
 show (P.y*Q.y-P.x*Q.x)*finv (1-tt P Q)*(1-tt P Q)=_
 grobner
def Pt.zero:Pt δ:=⟨0,1,by grobner⟩
def Pt.neg (P:Pt δ):Pt δ:=⟨-P.x,P.y,by have:=P.on;grobner⟩
theorem Qjt (P Q:Pt δ):P.add hδ Q=Q.add hδ P:=by
 have ht:tt P Q=tt Q P:=by unfold tt;grobner
 apply Pt.ext
 ·apply Qd7 (Qfz hδ P Q)
  rw[Qim,ht,Qim]
  grobner
 ·apply Qd7 (QeO hδ P Q)
  rw[Qfa,ht,Qfa]
  grobner
theorem Qfo (P:Pt δ):P.add hδ Pt.zero=P:=by
 have ht:tt P (Pt.zero)=0:=by unfold tt Pt.zero;grobner
 apply Pt.ext
 ·apply Qd7 (Qfz hδ P Pt.zero)
  rw[Qim,ht]
  simp only[Pt.zero]
  grobner
 ·apply Qd7 (QeO hδ P Pt.zero)
  rw[Qfa,ht]
  simp only[Pt.zero]
  grobner
theorem Qrf (P:Pt δ):P.add hδ P.neg=Pt.zero:=by
 have h:=P.on
 apply Pt.ext
 ·apply Qd7 (Qfz hδ P P.neg)
  rw[Qim]
  simp only[Pt.zero,Pt.neg]
  grobner
 ·apply Qd7 (QeO hδ P P.neg)
  rw[Qfa]
  simp only[Pt.zero,Pt.neg,tt]
  grobner
end
theorem QtZ {d x1 y1 x2 y2 x3 y3:Fp} (h1:x1*x1+y1*y1=1+d*x1*x1*y1*y1) (h2:x2*x2+y2*y2=1+d*x2*x2*y2*y2) (h3:x3*x3+y3*y3=1+d*x3*x3*y3*y3):
 ((x1*y2+x2*y1)*(1-d*x1*x2*y1*y2)*y3+(y1*y2-x1*x2)*(1+d*x1*x2*y1*y2)*x3)*((1+d*x2*x3*y2*y3)*(1-d*x2*x3*y2*y3)+d*x1*y1*(x2*y3+x3*y2)*(y2*y3-x2*x3))
 = (x1*(y2*y3-x2*x3)*(1+d*x2*x3*y2*y3)+y1*(x2*y3+x3*y2)*(1-d*x2*x3*y2*y3))*((1+d*x1*x2*y1*y2)*(1-d*x1*x2*y1*y2)+d*(x1*y2+x2*y1)*(y1*y2-x1*x2)*x3*y3):=by grobner
theorem Que {d x1 y1 x2 y2 x3 y3:Fp} (h1:x1*x1+y1*y1=1+d*x1*x1*y1*y1) (h2:x2*x2+y2*y2=1+d*x2*x2*y2*y2) (h3:x3*x3+y3*y3=1+d*x3*x3*y3*y3):
 ((y1*y2-x1*x2)*(1+d*x1*x2*y1*y2)*y3-(x1*y2+x2*y1)*(1-d*x1*x2*y1*y2)*x3)*((1+d*x2*x3*y2*y3)*(1-d*x2*x3*y2*y3)-d*x1*y1*(x2*y3+x3*y2)*(y2*y3-x2*x3))
 = (y1*(y2*y3-x2*x3)*(1+d*x2*x3*y2*y3)-x1*(x2*y3+x3*y2)*(1-d*x2*x3*y2*y3))*((1+d*x1*x2*y1*y2)*(1-d*x1*x2*y1*y2)-d*(x1*y2+x2*y1)*(y1*y2-x1*x2)*x3*y3):=by grobner
theorem Qvz {L q X Y x3 y3 xa ya p m:Fp} (l:L*q=xa*y3+x3*ya) (h1:xa*p=X) (h2:ya*m=Y):L*(p*m*q)=X*m*y3+Y*p*x3:=by grobner
theorem Qsv {L q X Y x3 y3 xa ya p m:Fp} (l:L*q=ya*y3-xa*x3) (h1:xa*p=X) (h2:ya*m=Y):L*(p*m*q)=Y*p*y3-X*m*x3:=by grobner
theorem QuE {d X Y x3 y3 xa ya p m:Fp} (h1:xa*p=X) (h2:ya*m=Y):p*m*(1+d*xa*x3*ya*y3)=p*m+d*X*Y*x3*y3:=by grobner
theorem Qsx {d X Y x3 y3 xa ya p m:Fp} (h1:xa*p=X) (h2:ya*m=Y):p*m*(1-d*xa*x3*ya*y3)=p*m-d*X*Y*x3*y3:=by grobner
theorem QvC {L M d1 d2 n1 n2:Fp} (hd1:d1≠0) (hd2:d2≠0) (h1:L*d1=n1) (h2:M*d2=n2) (h:n1*d2=n2*d1):L=M:=by
 apply Qd7 (QaC hd1 hd2)
 clear hd1 hd2
 grobner
section
variable {δ:Fp} (hδ:QeZ δ)
theorem Qh3 (P Q R:Pt δ):(P.add hδ Q).add hδ R=P.add hδ (Q.add hδ R):=by
 have a1:=Qim hδ P Q
 have a2:=Qfa hδ P Q
 have b1:=Qim hδ Q R
 have b2:=Qfa hδ Q R
 have ex:=QtZ P.on Q.on R.on
 have ey:=Que P.on Q.on R.on
 apply Pt.ext
 ·refine QvC (QaC (QaC (Qfz hδ P Q) (QeO hδ P Q)) (Qfz hδ (P.add hδ Q) R)) (QaC (QaC (Qfz hδ Q R) (QeO hδ Q R)) (Qfz hδ P (Q.add hδ R)))
   (Qvz (Qim hδ (P.add hδ Q) R) a1 a2) (Qvz ((Qim hδ P (Q.add hδ R)).trans (show _=(Q.add hδ R).x*P.y+P.x*(Q.add hδ R).y by clear a1 a2 b1 b2 ex ey;grobner)) b1 b2) ?_
  rw[show (1+tt P Q)*(1-tt P Q)*(1+tt (P.add hδ Q) R)=_ from QuE a1 a2,show (1+tt Q R)*(1-tt Q R)*(1+tt P (Q.add hδ R))=_ from (show _=(1+tt Q R)*(1-tt Q R)*(1+δ*(Q.add hδ R).x*P.x*(Q.add hδ R).y*P.y) by unfold tt;clear a1 a2 b1 b2 ex ey;grobner).trans (QuE b1 b2)]
  clear a1 a2 b1 b2 ey
  simp only[tt]
  refine Eq.trans ?_ (ex.trans ?_)
  ·clear ex;grobner
  ·clear ex;grobner
 ·refine QvC (QaC (QaC (Qfz hδ P Q) (QeO hδ P Q)) (QeO hδ (P.add hδ Q) R)) (QaC (QaC (Qfz hδ Q R) (QeO hδ Q R)) (QeO hδ P (Q.add hδ R)))
   (Qsv (Qfa hδ (P.add hδ Q) R) a1 a2) (Qsv ((Qfa hδ P (Q.add hδ R)).trans (show _=(Q.add hδ R).y*P.y-(Q.add hδ R).x*P.x by clear a1 a2 b1 b2 ex ey;grobner)) b1 b2) ?_
  rw[show (1+tt P Q)*(1-tt P Q)*(1-tt (P.add hδ Q) R)=_ from Qsx a1 a2,show (1+tt Q R)*(1-tt Q R)*(1-tt P (Q.add hδ R))=_ from (show _=(1+tt Q R)*(1-tt Q R)*(1-δ*(Q.add hδ R).x*P.x*(Q.add hδ R).y*P.y) by unfold tt;clear a1 a2 b1 b2 ex ey;grobner).trans (Qsx b1 b2)]
  clear a1 a2 b1 b2 ex
  simp only[tt]
  refine Eq.trans ?_ (ey.trans ?_)
  ·clear ey;grobner
  ·clear ey;grobner
def Pt.mul (P:Pt δ):Nat→Pt δ
 | 0=>Pt.zero
 | n+1=>(Pt.mul P n).add hδ P
theorem QjW (P:Pt δ):Pt.zero.add hδ P=P:=by rw[Qjt,Qfo]
theorem Qdd (P:Pt δ) (m:Nat):∀n,P.mul hδ (m+n)=(P.mul hδ m).add hδ (P.mul hδ n)
 | 0=>by rw[Pt.mul,Qfo];rfl
 | n+1=>by
   show (P.mul hδ (m+n)).add hδ P=(P.mul hδ m).add hδ ((P.mul hδ n).add hδ P)
   rw[Qdd P m n,Qh3]
theorem Qgn (P:Pt δ):P.mul hδ 1=P:=QjW hδ P
theorem Qgl (P:Pt δ) (m:Nat):∀n,P.mul hδ (m*n)=(P.mul hδ m).mul hδ n
 | 0=>rfl
 | n+1=>by
   rw[Nat.mul_succ,Qdd,Qgl P m n]
   rfl
theorem Qq9 (P Q:Pt δ):(P.add hδ Q).add hδ Q.neg=P:=by rw[Qh3,Qrf,Qfo]
end
def Par (s δ:Fp):Prop:=(s=1∧δ*121666=121665)∨(s= -1∧δ*121665=121666)
def Rep {δ:Fp} (s X Z:Fp) (P:Pt δ):Prop:=∃k:Fp,k≠0∧X=k*(1+P.y)∧Z=k*s*(1-P.y)
theorem QfX {s δ:Fp} (h:Par s δ):s*s=1:=by
 rcases h with ⟨rfl,_⟩|⟨rfl,_⟩<;>grobner
section
variable {δ:Fp} (hδ:QeZ δ)
include hδ in
theorem Qdu (z:Fp):1-δ*z*z≠0:=by
 intro h
 have h1:(1:Fp)*1=δ*(z*z):=by grobner
 have:=Qhg hδ h1
 subst this
 revert h
 grobner
include hδ in
theorem Qg2:1-δ≠0:=by
 have:=Qdu hδ 1
 grobner
theorem QrP {δ x y y2 k X Z:Fp} (on:x*x+y*y=1+δ*x*x*y*y) (h:δ*121666=121665) (hy:y2*(1-δ*x*x*y*y)=y*y-x*x) (hX:X=k*(1+y)) (hZ:Z=k*1*(1-y)):
 (X+Z)*(X+Z)*((X-Z)*(X-Z))=8*k*k*k*k*121666*(1-δ*y*y)*(1-δ*x*x*y*y)*(1+y2)∧
 ((X+Z)*(X+Z)-(X-Z)*(X-Z))*((X+Z)*(X+Z)+121665*((X+Z)*(X+Z)-(X-Z)*(X-Z)))=8*k*k*k*k*121666*(1-δ*y*y)*(1-δ*x*x*y*y)*1*(1-y2):=by
 have e1:(X+Z)*(X+Z)=4*(k*k):=by rw[hX,hZ];clear on h hy hX hZ;grobner
 have e2:(X-Z)*(X-Z)=4*(k*k)*(y*y):=by rw[hX,hZ];clear on h hy hX hZ;grobner
 rw[e1,e2]
 clear hX hZ e1 e2
 constructor
 ·have:(1-δ*y*y)*((1-δ*x*x*y*y)*(1+y2))=2*(y*y)*(1-δ):=by clear h;grobner
  clear on hy
  grobner
 ·have:(1-δ*y*y)*((1-δ*x*x*y*y)*(1-y2))=2*(1-y*y)*(1-δ*y*y):=by clear h;grobner
  clear on hy
  grobner
theorem Qrl {δ x y y2 k X Z:Fp} (on:x*x+y*y=1+δ*x*x*y*y) (h:δ*121665=121666) (hy:y2*(1-δ*x*x*y*y)=y*y-x*x) (hX:X=k*(1+y)) (hZ:Z=k*(-1)*(1-y)):
 (X+Z)*(X+Z)*((X-Z)*(X-Z))= -8*k*k*k*k*121665*(1-δ*y*y)*(1-δ*x*x*y*y)*(1+y2)∧
 ((X+Z)*(X+Z)-(X-Z)*(X-Z))*((X+Z)*(X+Z)+121665*((X+Z)*(X+Z)-(X-Z)*(X-Z)))= -8*k*k*k*k*121665*(1-δ*y*y)*(1-δ*x*x*y*y)*(-1)*(1-y2):=by
 have e1:(X-Z)*(X-Z)=4*(k*k):=by rw[hX,hZ];clear on h hy hX hZ;grobner
 have e2:(X+Z)*(X+Z)=4*(k*k)*(y*y):=by rw[hX,hZ];clear on h hy hX hZ;grobner
 rw[e1,e2]
 clear hX hZ e1 e2
 constructor
 ·have:(1-δ*y*y)*((1-δ*x*x*y*y)*(1+y2))=2*(y*y)*(1-δ):=by clear h;grobner
  clear on hy
  grobner
 ·have:(1-δ*y*y)*((1-δ*x*x*y*y)*(1-y2))=2*(1-y*y)*(1-δ*y*y):=by clear h;grobner
  clear on hy
  grobner
theorem c8:(8:Fp)≠0:=by decide
theorem c8':(-8:Fp)≠0:=by decide
theorem c65:(121665:Fp)≠0:=by decide
theorem c66:(121666:Fp)≠0:=by decide
theorem Qtn {s X Z:Fp} {P:Pt δ} (hp:Par s δ) (h:Rep s X Z P):
 Rep s ((X+Z)*(X+Z)*((X-Z)*(X-Z))) (((X+Z)*(X+Z)-(X-Z)*(X-Z))*((X+Z)*(X+Z)+121665*((X+Z)*(X+Z)-(X-Z)*(X-Z)))) (P.add hδ P):=by
 obtain⟨k,hk,hX,hZ⟩:=h
 have hy:=Qfa hδ P P
 have n1:1-δ*P.x*P.x*P.y*P.y≠0:=QeO hδ P P
 have n2:=Qdu hδ P.y
 rcases hp with ⟨rfl,hd⟩|⟨rfl,hd⟩
 ·obtain⟨a,b⟩:=QrP P.on hd (by simpa only[tt] using hy) hX hZ
  exact⟨_,QaC (QaC (QaC (QaC (QaC (QaC (QaC c8 hk) hk) hk) hk) c66) n2) n1,a,b⟩
 ·obtain⟨a,b⟩:=Qrl P.on hd (by simpa only[tt] using hy) hX hZ
  exact⟨_,QaC (QaC (QaC (QaC (QaC (QaC (QaC c8' hk) hk) hk) hk) c65) n2) n1,a,b⟩
theorem Qs8 {δ x2 y2 x3 y3 yp ym:Fp} (on2:x2*x2+y2*y2=1+δ*x2*x2*y2*y2) (on3:x3*x3+y3*y3=1+δ*x3*x3*y3*y3)
 (hp:yp*(1-δ*x2*x3*y2*y3)=y2*y3-x2*x3) (hm:ym*(1+δ*x2*x3*y2*y3)=y2*y3+x2*x3):
 (y2+y3)*(y2+y3)*((1-δ)*(1-δ*(y2*y3)*(y2*y3)))=(1+yp)*(1+ym)*((1-δ*x2*x3*y2*y3)*(1+δ*x2*x3*y2*y3)*(1-δ*y2*y2)*(1-δ*y3*y3))∧
 (y2-y3)*(y2-y3)*((1-δ)*(1-δ*(y2*y3)*(y2*y3)))=(1-yp)*(1-ym)*((1-δ*x2*x3*y2*y3)*(1+δ*x2*x3*y2*y3)*(1-δ*y2*y2)*(1-δ*y3*y3)):=by
 have u2:x2*x2*(1-δ*y2*y2)=1-y2*y2:=by clear on3 hp hm;grobner
 have u3:x3*x3*(1-δ*y3*y3)=1-y3*y3:=by clear u2 on2 hp hm;grobner
 have p1:(1+yp)*(1-δ*x2*x3*y2*y3)=(1-δ*x2*x3*y2*y3)+(y2*y3-x2*x3):=by clear on2 on3 hm u2 u3;grobner
 have m1:(1+ym)*(1+δ*x2*x3*y2*y3)=(1+δ*x2*x3*y2*y3)+(y2*y3+x2*x3):=by clear on2 on3 u2 u3 hp;grobner
 have p2:(1-yp)*(1-δ*x2*x3*y2*y3)=(1-δ*x2*x3*y2*y3)-(y2*y3-x2*x3):=by clear on2 on3 hm u2 u3;grobner
 have m2:(1-ym)*(1+δ*x2*x3*y2*y3)=(1+δ*x2*x3*y2*y3)-(y2*y3+x2*x3):=by clear on2 on3 u2 u3 hp;grobner
 clear on2 on3 hp hm
 constructor
 ·have:(1+yp)*(1+ym)*((1-δ*x2*x3*y2*y3)*(1+δ*x2*x3*y2*y3)*(1-δ*y2*y2)*(1-δ*y3*y3))=((1+yp)*(1-δ*x2*x3*y2*y3))*((1+ym)*(1+δ*x2*x3*y2*y3))*((1-δ*y2*y2)*(1-δ*y3*y3)):=by clear u2 u3 p1 m1 p2 m2;grobner
  rw[this,p1,m1]
  clear this p1 m1 p2 m2
  grobner
 ·have:(1-yp)*(1-ym)*((1-δ*x2*x3*y2*y3)*(1+δ*x2*x3*y2*y3)*(1-δ*y2*y2)*(1-δ*y3*y3))=((1-yp)*(1-δ*x2*x3*y2*y3))*((1-ym)*(1+δ*x2*x3*y2*y3))*((1-δ*y2*y2)*(1-δ*y3*y3)):=by clear u2 u3 p1 m1 p2 m2;grobner
  rw[this,p2,m2]
  clear this p1 m1 p2 m2
  grobner
theorem Qrm {s k2 k3 y2 y3 yp ym x1 D E X2 Z2 X3 Z3 w:Fp} (hs:s*s=1) (hx:x1*(1-ym)=s*(1+ym)) (a:(y2+y3)*(y2+y3)*D=(1+yp)*(1+ym)*E) (b:(y2-y3)*(y2-y3)*D=(1-yp)*(1-ym)*E) (hw:D*w=1)
 (hX2:X2=k2*(1+y2)) (hZ2:Z2=k2*s*(1-y2)) (hX3:X3=k3*(1+y3)) (hZ3:Z3=k3*s*(1-y3)):
 ((X3-Z3)*(X2+Z2)+(X3+Z3)*(X2-Z2))*((X3-Z3)*(X2+Z2)+(X3+Z3)*(X2-Z2))=16*k2*k2*k3*k3*E*w*(1+ym)*(1+yp)∧
 x1*(((X3-Z3)*(X2+Z2)-(X3+Z3)*(X2-Z2))*((X3-Z3)*(X2+Z2)-(X3+Z3)*(X2-Z2)))=16*k2*k2*k3*k3*E*w*(1+ym)*s*(1-yp):=by
 have e1:(X3-Z3)*(X2+Z2)+(X3+Z3)*(X2-Z2)=4*(k2*k3)*(y2+y3):=by rw[hX2,hX3,hZ2,hZ3];clear a b hx hw hX2 hX3 hZ2 hZ3;grobner
 have e2:(X3-Z3)*(X2+Z2)-(X3+Z3)*(X2-Z2)= -4*s*(k2*k3)*(y2-y3):=by rw[hX2,hX3,hZ2,hZ3];clear a b hx hw hX2 hX3 hZ2 hZ3;grobner
 rw[e1,e2]
 clear hX2 hX3 hZ2 hZ3 e1 e2
 have a':(y2+y3)*(y2+y3)=(1+yp)*(1+ym)*E*w:=by
  have:(y2+y3)*(y2+y3)*(D*w)=(1+yp)*(1+ym)*E*w:=by clear b hx hs hw;grobner
  rw[hw]at this
  clear a b hx hs hw
  grobner
 have b':(y2-y3)*(y2-y3)=(1-yp)*(1-ym)*E*w:=by
  have:(y2-y3)*(y2-y3)*(D*w)=(1-yp)*(1-ym)*E*w:=by clear a hx hs hw;grobner
  rw[hw]at this
  clear a b hx hs hw
  grobner
 clear a b hw
 constructor
 ·clear b' hx
  grobner
 ·clear a'
  have:x1*((y2-y3)*(y2-y3))=s*(1+ym)*((1-yp)*E*w):=by rw[b',←hx];clear b' hs hx;grobner
  clear b' hx
  grobner
theorem c16:(16:Fp)≠0:=by decide
theorem Qs6 {s X2 Z2 X3 Z3 x1 ym:Fp} {P Q:Pt δ} (hp:Par s δ) (h2:Rep s X2 Z2 P) (h3:Rep s X3 Z3 Q) (hm:(Q.add hδ P.neg).y=ym) (hx:x1*(1-ym)=s*(1+ym)) (hym:1+ym≠0):
 Rep s (((X3-Z3)*(X2+Z2)+(X3+Z3)*(X2-Z2))*((X3-Z3)*(X2+Z2)+(X3+Z3)*(X2-Z2))) (x1*(((X3-Z3)*(X2+Z2)-(X3+Z3)*(X2-Z2))*((X3-Z3)*(X2+Z2)-(X3+Z3)*(X2-Z2)))) (P.add hδ Q):=by
 obtain⟨k2,hk2,hX2,hZ2⟩:=h2
 obtain⟨k3,hk3,hX3,hZ3⟩:=h3
 have hy:=Qfa hδ P Q
 have hy':=Qfa hδ Q P.neg
 rw[hm]at hy'
 have ne1:1-δ*P.x*Q.x*P.y*Q.y≠0:=QeO hδ P Q
 have ne2:1+δ*P.x*Q.x*P.y*Q.y≠0:=Qfz hδ P Q
 obtain⟨a,b⟩:=Qs8 P.on Q.on (by simpa only[tt] using hy) (ym:=ym) (by simp only[tt,Pt.neg]at hy';clear hX2 hX3 hZ2 hZ3 hy hm hx hk2 hk3 ne1 ne2 hym;grobner)
 have hD:(1-δ)*(1-δ*(P.y*Q.y)*(P.y*Q.y))≠0:=QaC (Qg2 hδ) (Qdu hδ _)
 obtain⟨c,d⟩:=Qrm (QfX hp) hx a b (Qay hD) hX2 hZ2 hX3 hZ3
 refine⟨_,?_,c,d⟩
 refine QaC (QaC (QaC (QaC (QaC (QaC (QaC c16 hk2) hk2) hk3) hk3) (QaC (QaC (QaC ne1 ne2) (Qdu hδ _)) (Qdu hδ _))) ?_) hym
 intro h0
 have:=Qay hD
 rw[h0]at this
 revert this
 grobner
end
theorem QuG:toF 121665=121665:=rfl
section
variable {δ:Fp} (hδ:QeZ δ)
def LRep (s:Fp) (l:Lad) (P Q:Pt δ):Prop:=Rep s (toF l.x2) (toF l.z2) P∧Rep s (toF l.x3) (toF l.z3) Q
theorem QlJ {s ym:Fp} {x1:Nat} {l:Lad} {P Q:Pt δ} (hp:Par s δ) (h:LRep s l P Q) (hm:(Q.add hδ P.neg).y=ym) (hx:toF x1*(1-ym)=s*(1+ym)) (hym:1+ym≠0):
 LRep s (l.step x1) (P.add hδ P) (P.add hδ Q):=by
 have a:=Qtn hδ hp h.1
 have b:=Qs6 hδ hp h.1 h.2 hm hx hym
 refine⟨?_,?_⟩
 ·simpa only[Lad.step,Qib,Ql1,Ql0,QuG] using a
 ·simpa only[Lad.step,Qib,Ql1,Ql0] using b
theorem Qme (P Q:Pt δ):(Q.add hδ P.neg).y=(P.add hδ Q.neg).y:=by
 have a:=Qfa hδ Q P.neg
 have b:=Qfa hδ P Q.neg
 have n:=QeO hδ Q P.neg
 apply Qd7 n
 rw[a]
 have e:tt Q P.neg=tt P Q.neg:=by simp only[tt,Pt.neg];clear a b n;grobner
 rw[e,b]
 simp only[Pt.neg]
 clear a b n e
 grobner
def kval (K:List UInt8):Nat→Nat
 | 0=>0
 | j+1=>2*kval K j+(kbit K (254-j)).toNat
theorem Qlo (G:Pt δ) (n:Nat):((G.mul hδ (n+1)).add hδ (G.mul hδ n).neg)=G:=by
 show (((G.mul hδ n).add hδ G).add hδ (G.mul hδ n).neg)=G
 rw[Qjt hδ (G.mul hδ n) G,Qq9]
theorem Qoh {s:Fp} {x1:Nat} {G:Pt δ} (hp:Par s δ) (hx:toF x1*(1-G.y)=s*(1+G.y)) (hy:1+G.y≠0) (K:List UInt8):
 ∀j,LRep s (Lad.at x1 K j) (G.mul hδ (kval K j)) (G.mul hδ (kval K j+1))
 | 0=>by
   have hs:=QfX hp
   have hy1:1-G.y≠0:=by
    intro h0
    rw[h0]at hx
    have:s*(s*(1+G.y))=0:=by rw[←hx];clear hx hs hp hy;grobner
    have h1:1+G.y=0:=by clear hx hp h0 hy;grobner
    exact hy h1
   refine⟨⟨finv 2,?_,?_,?_⟩,⟨s*finv (1-G.y),?_,?_,?_⟩⟩
   ·intro h0
    have:=Qay QhG
    rw[h0]at this
    revert this
    decide
   ·have:=Qay QhG
    show (1:Fp)=finv 2*(1+1)
    grobner
   ·show (0:Fp)=finv 2*s*(1-1)
    grobner
   ·intro h0
    have:=Qay hy1
    have:s*s=0:=by
     have h1:s*(s*finv (1-G.y))=0:=by rw[h0];clear h0 this hs hx hp hy;grobner
     clear hx hp hy h0
     grobner
    rw[hs]at this
    exact QlB this
   ·rw[show G.mul hδ (kval K 0+1)=G from Qgn hδ G]
    show toF x1=_
    have:=Qay hy1
    clear hp hy hy1
    grobner
   ·rw[show G.mul hδ (kval K 0+1)=G from Qgn hδ G]
    show (1:Fp)=_
    have:=Qay hy1
    clear hp hy hy1 hx
    grobner
 | j+1=>by
   have ih:=Qoh hp hx hy K j
   have hsub:((G.mul hδ (kval K j+1)).add hδ (G.mul hδ (kval K j)).neg).y=G.y:=by rw[Qlo]
   have hsub':((G.mul hδ (kval K j)).add hδ (G.mul hδ (kval K j+1)).neg).y=G.y:=by rw[Qme,Qlo]
   have e0:kval K (j+1)=2*kval K j+(kbit K (254-j)).toNat:=rfl
   rw[e0]
   show LRep s (Lad.round x1 (kbit K (254-j)) (Lad.at x1 K j)) _ _
   generalize kval K j=n at *
   cases kbit K (254-j)
   ·have:=QlJ hδ hp ih hsub hx hy
    rw[←Qdd,←Qdd]at this
    rw[show 2*n+false.toNat=n+n by simp;omega,show n+n+1=n+(n+1) by omega]
    exact this
   ·have:=QlJ hδ hp (show LRep s (Lad.at x1 K j).swap (G.mul hδ (n+1)) (G.mul hδ n) from ⟨ih.2,ih.1⟩) hsub' hx hy
    rw[←Qdd,←Qdd]at this
    rw[show 2*n+true.toNat=n+1+n by simp;omega,show n+1+n+1=n+1+(n+1) by omega]
    exact⟨this.2,this.1⟩
def Pt.u (s:Fp) (Q:Pt δ):Fp:=if 1-Q.y=0 then 0 else s*(1+Q.y)*finv (1-Q.y)
theorem QxT {x y d:Fp} (h:x=0) (on:x*x+y*y=1+d*x*x*y*y):(1+y)*(1-y)=0:=by grobner
theorem QsD {c d i r:Fp} (h:r*r=c*i) (hi:d*i=1):d*r*(d*r)=c*d:=by grobner
theorem Qx1 {u a:Fp} (h:u*u+a*u+1=0):(2*u+a)*(2*u+a)=a*a-4:=by grobner
theorem Qvj {u a:Fp} (h:u+1=0):u*(u*u+a*u+1)=a-2:=by grobner
theorem Qvo {u a:Fp} (h:u-1=0):u*(u*u+a*u+1)=a+2:=by grobner
theorem QjC {a:Nat} (ha:a=0) (n m:Nat) (h:0<n):a^n%m=0:=by rw[ha,Nat.zero_pow h,Nat.zero_mod]
theorem Qn9 (a:Nat) (ha:a=0):pinv a=0:=QjC ha _ _ (by unfold P25;omega)
theorem QpT:finv 0=0:=by
 unfold finv
 rw[Qn9 _ (show (0:Fp).val=0 from rfl)]
 rfl
theorem Qrx (n:Nat):toF (pinv n)=finv (toF n):=by
 show toF (n^(P25-2)%P25)=toF ((n%P25)^(P25-2)%P25)
 rw[←Nat.pow_mod]
theorem Qxo {s X Z:Fp} {Q:Pt δ} (hp:Par s δ) (h:Rep s X Z Q):X*finv Z=Q.u s:=by
 obtain⟨k,hk,hX,hZ⟩:=h
 have hs:=QfX hp
 unfold Pt.u
 split
 ·rename_i h0
  rw[h0]at hZ
  have:Z=0:=by rw[hZ];clear hs hp hX hZ h0;grobner
  rw[this,QpT]
  clear hs hp hX hZ h0 this
  grobner
 ·rename_i h0
  have hsn:s≠0:=by rintro rfl;revert hs;decide
  have hz:Z≠0:=by rw[hZ];exact QaC (QaC hk hsn) h0
  have i1:=Qay hz
  have i2:=Qay h0
  have i3:=Qay hk
  apply Qd7 hz
  have e1:X*finv Z*Z=X:=by clear hX hZ hs hp i2 i3;grobner
  have e2:s*(1+Q.y)*finv (1-Q.y)*Z=k*(1+Q.y):=by rw[hZ];clear hX hZ hp i1 i3 e1;grobner
  rw[e1,e2,hX]
def multN (x1:Nat) (K:List UInt8):Nat:=fmul (Lad.at x1 K 255).x2 (pinv (Lad.at x1 K 255).z2)
theorem Quj {s:Fp} {x1:Nat} {G:Pt δ} (hp:Par s δ) (hx:toF x1*(1-G.y)=s*(1+G.y)) (hy:1+G.y≠0) (K:List UInt8):
 toF (multN x1 K)=(G.mul hδ (kval K 255)).u s:=by
 rw[multN,Qib,Qrx]
 exact Qxo hp (Qoh hδ hp hx hy K 255).1
include hδ in
theorem QvV {s:Fp} (hp:Par s δ) {Q:Pt δ}:Q.u s=0↔Q.x=0:=by
 have hs:=QfX hp
 have hsn:s≠0:=by rintro rfl;revert hs;decide
 have on:=Q.on
 unfold Pt.u
 constructor
 ·intro h
  have hy:Q.y*Q.y=1:=by
   split at h
   ·rename_i h0
    clear h on hs hp hsn
    grobner
   ·rename_i h0
    have hf:finv (1-Q.y)≠0:=by
     intro h1
     have:=Qay h0
     rw[h1]at this
     clear h on hs hp
     have h2:(1:Fp)=0:=by grobner
     exact QlB h2
    rcases QcW h with h1|h1
    ·rcases QcW h1 with h2|h2
     ·exact absurd h2 hsn
     ·clear h h1 on hs hp hsn hf
      grobner
    ·exact absurd h1 hf
  have:Q.x*Q.x*(1-δ)=0:=by clear h hs hp hsn;grobner
  rcases QcW this with h1|h1
  ·exact (QcW h1).elim id id
  ·exact absurd h1 (Qg2 hδ)
 ·intro h
  have:(1+Q.y)*(1-Q.y)=0:=QxT h on
  rcases QcW this with h1|h1
  ·split
   ·rfl
   ·rw[h1]
    clear this on hs hp hsn h h1
    grobner
  ·rw[if_pos h1]
theorem Qu9 {s:Fp} (hp:Par s δ) {Q:Pt δ} (h:Q.u s≠0):Q.u s*(1-Q.y)=s*(1+Q.y)∧1+Q.y≠0:=by
 have hs:=QfX hp
 unfold Pt.u at h ⊢
 split at h
 ·exact absurd rfl h
 ·rename_i h0
  have:=Qay h0
  rw[if_neg h0]
  refine⟨by clear h hs hp;grobner,fun h1=>h ?_⟩
  rw[h1]
  clear h hs hp this
  grobner
end
theorem Qgj (a:Fp) (n:Nat) (h:n<2^256):fpow a n=toF (pwm P25 256 a.val n):=by rw[QlF P25 256 a.val n h,Qia];rfl
theorem h66:fpow 121666 Hp=1:=by rw[Qgj _ _ (by decide)];decide +kernel
theorem h65:fpow 121665 Hp= -1:=by rw[Qgj _ _ (by decide)];decide +kernel
theorem h2:fpow 2 Hp= -1:=by rw[Qgj _ _ (by decide)];decide +kernel
theorem h4:fpow 4 Hp=1:=by rw[Qgj _ _ (by decide)];decide +kernel
theorem hm1:(1:Fp)≠ -1:=by decide
theorem Qhz (r:Fp):r*r≠121665*121666:=by
 intro h
 have h0:(121665*121666:Fp)≠0:=QaC c65 c66
 have:=QoH h0 ⟨r,h⟩
 rw[Qb7,h65,h66]at this
 revert this
 decide
theorem QtH:∃i:Fp,i*i= -1:=⟨fpow 2 Qp,by rw[←Qer,show Qp+Qp=Hp by decide,h2]⟩
theorem QvH:QeZ (121665*finv 121666):=by
 intro r h
 have:=Qay c66
 exact Qhz (121666*r) (QsD h this)
theorem QvG:QeZ (121666*finv 121665):=by
 intro r h
 have:=Qay c65
 exact Qhz (121665*r) ((QsD h this).trans (by decide))
theorem par1:Par 1 (121665*finv 121666):=.inl ⟨rfl,by have:=Qay c66;grobner⟩
theorem par2:Par (-1) (121666*finv 121665):=.inr ⟨rfl,by have:=Qay c65;grobner⟩
theorem Qtd (u:Fp):u*u+486662*u+1≠0:=by
 intro h
 have e:(2*u+486662)*(2*u+486662)=4*4*(121665*121666):=(Qx1 h).trans (by decide)
 have n0:(4*4*(121665*121666):Fp)≠0:=by decide
 have:=QoH n0 ⟨_,e⟩
 rw[Qb7,Qb7,Qb7,h4,h65,h66]at this
 revert this
 decide
theorem Quh {u h m n r d:Fp} (hh:h=u*u+486662*u+1) (hn:h*n=1) (hm:(u+1)*m=1) (hr:r*r=121666*(u*h)) (hd:d*121666=121665):
 2*r*n*(2*r*n)+(u-1)*m*((u-1)*m)=1+d*(2*r*n)*(2*r*n)*((u-1)*m)*((u-1)*m):=by
 have ex:2*r*n*(2*r*n)=4*121666*u*n:=by clear hm hd hh;grobner
 have ex2:d*(2*r*n)*(2*r*n)=4*121665*u*n:=by clear hm hh hn hr;grobner
 rw[ex,ex2]
 have key:4*121666*u*((u+1)*(u+1))+(u-1)*(u-1)*h=h*((u+1)*(u+1))+4*121665*u*((u-1)*(u-1)):=by rw[hh];clear hn hm hr hd ex ex2 hh;grobner
 have k2:(4*121666*u*((u+1)*(u+1))+(u-1)*(u-1)*h)*(n*(m*m))=(h*((u+1)*(u+1))+4*121665*u*((u-1)*(u-1)))*(n*(m*m)):=by rw[key]
 have hm2:(u+1)*(u+1)*(m*m)=1:=by clear key k2 ex ex2 hn hr hd hh;grobner
 clear key ex ex2 hr hd hh
 generalize (u+1)*(u+1)=v at *
 clear hm
 grobner
theorem Qtl {u h m n r d:Fp} (hh:h=u*u+486662*u+1) (hn:h*n=1) (hm:(u-1)*m=1) (hr:r*r=121665*(u*h)) (hd:d*121665=121666):
 2*r*n*(2*r*n)+(u+1)*m*((u+1)*m)=1+d*(2*r*n)*(2*r*n)*((u+1)*m)*((u+1)*m):=by
 have ex:2*r*n*(2*r*n)=4*121665*u*n:=by clear hm hd hh;grobner
 have ex2:d*(2*r*n)*(2*r*n)=4*121666*u*n:=by clear hm hh hn hr;grobner
 rw[ex,ex2]
 have key:4*121665*u*((u-1)*(u-1))+(u+1)*(u+1)*h=h*((u-1)*(u-1))+4*121666*u*((u+1)*(u+1)):=by rw[hh];clear hn hm hr hd ex ex2 hh;grobner
 have k2:(4*121665*u*((u-1)*(u-1))+(u+1)*(u+1)*h)*(n*(m*m))=(h*((u-1)*(u-1))+4*121666*u*((u+1)*(u+1)))*(n*(m*m)):=by rw[key]
 have hm2:(u-1)*(u-1)*(m*m)=1:=by clear key k2 ex ex2 hn hr hd hh;grobner
 clear key ex ex2 hr hd hh
 generalize (u-1)*(u-1)=v at *
 clear hm
 grobner
theorem Qp4 {u:Fp} (hu:u≠0):∃(s δ:Fp) (_:QeZ δ) (_:Par s δ) (P:Pt δ),u*(1-P.y)=s*(1+P.y)∧1+P.y≠0:=by
 obtain⟨i,hi⟩:=QtH
 have hq:=Qtd u
 have hg:u*(u*u+486662*u+1)≠0:=QaC hu hq
 have hn:=Qay hq
 rcases QoS hg with h1|h1
 ·obtain⟨r,hr⟩:=QpO hi (show fpow (121666*(u*(u*u+486662*u+1))) Hp=1 by rw[Qb7,h66,h1];decide)
  have hu1:u+1≠0:=by
   intro h0
   have:u*(u*u+486662*u+1)=4*121665:=(Qvj h0).trans (by decide)
   rw[this,Qb7,h4,h65]at h1
   revert h1
   decide
  have hm:=Qay hu1
  refine⟨1,_,QvH,par1,⟨_,_,Quh rfl hn hm hr (by have:=Qay c66;clear hr hm hn h1 hi;grobner)⟩,?_,?_⟩
  ·show u*(1-(u-1)*finv (u+1))=1*(1+(u-1)*finv (u+1))
   clear hr hn h1 hi
   grobner
  ·show 1+(u-1)*finv (u+1)≠0
   have e:1+(u-1)*finv (u+1)=2*u*finv (u+1):=by clear hr hn h1 hi;grobner
   rw[e]
   refine QaC (QaC QhG hu) fun h0=>?_
   rw[h0]at hm
   exact QlB (by clear hr hn h1 hi e;grobner)
 ·obtain⟨r,hr⟩:=QpO hi (show fpow (121665*(u*(u*u+486662*u+1))) Hp=1 by rw[Qb7,h65,h1];decide)
  have hu1:u-1≠0:=by
   intro h0
   have:u*(u*u+486662*u+1)=4*121666:=(Qvo h0).trans (by decide)
   rw[this,Qb7,h4,h66]at h1
   revert h1
   decide
  have hm:=Qay hu1
  refine⟨-1,_,QvG,par2,⟨_,_,Qtl rfl hn hm hr (by have:=Qay c65;clear hr hm hn h1 hi;grobner)⟩,?_,?_⟩
  ·show u*(1-(u+1)*finv (u-1))= -1*(1+(u+1)*finv (u-1))
   clear hr hn h1 hi
   grobner
  ·show 1+(u+1)*finv (u-1)≠0
   have e:1+(u+1)*finv (u-1)=2*u*finv (u-1):=by clear hr hn h1 hi;grobner
   rw[e]
   refine QaC (QaC QhG hu) fun h0=>?_
   rw[h0]at hm
   exact QlB (by clear hr hn h1 hi e;grobner)
theorem Qrz (x1:Nat) (K:List UInt8):multN x1 K<P25:=QyS _ Qbw
theorem QtK {n:Nat} (hn:n<P25) (h:toF n=0):n=0:=by
 have:=Qha.1 h
 rwa [QyN hn]at this
end Ed
namespace Ed
theorem Qpw (K:List UInt8) (hK:K.length=32):∀j,j≤255→kval K j=num K/2^(255-j)%2^j
 | 0,_=>by rw[Nat.pow_zero,Nat.mod_one];rfl
 | j+1,hj=>by
   have ih:=Qpw K hK j (by omega)
   have hb:=Qtq K (254-j) (by omega)
   have e1:(kbit K (254-j)).toNat=num K/2^(254-j)%2:=by
    unfold kbit
    rw[hb]
    rcases Nat.mod_two_eq_zero_or_one ((K.getD ((254-j)/8) 0).toNat/2^((254-j)%8)) with h|h<;>rw[h]<;>rfl
   show 2*kval K j+(kbit K (254-j)).toNat=_
   rw[e1,ih,show 255-(j+1)=254-j by omega,show 255-j=(254-j)+1 by omega,Qzx,←Qze,Qzx]
   generalize num K/2^(254-j)=X
   rw[Qzj (2^j) 2,Nat.mod_mul]
   omega
theorem Qq7 (K:List UInt8) (hK:K.length=32):kval K 255=num K%2^255:=by
 rw[Qpw K hK 255 (Qyw _)]
 simp
theorem QnZ (bs:List UInt8):num (QaS bs)%8=0∨bs.length≠32:=by
 by_cases h:bs.length=32
 ·left
  have h1:=Qln (QaS bs) 0 (by rw[Qbl];omega)
  rw[Qzn]at h1
  have h2:(QaS bs).getD 0 0=bs.getD 0 0 &&& 248:=by
   rw[QaS,if_pos h,Qys,QzB (by omega),Qz1 (by omega)]
   rfl
  have h3:=(Qll ⟨(bs.getD 0 0).toNat,(bs.getD 0 0).toNat_lt⟩).1
  simp only at h3
  rw[h1,h2,UInt8.toNat_and,show QAt 248=248 from rfl,h3]
  omega
 ·exact .inr h
theorem Qpb (bs:List UInt8) (h:bs.length=32):2^254≤num (QaS bs)∧num (QaS bs)<2^255:=by
 have h1:=Ql6 (QaS bs) 31 (by rw[Qbl];omega)
 rw[Qyx (by rw[Qbl];omega)]at h1
 have h2:(QaS bs).getD 31 0=(bs.getD 31 0 &&& 127) ||| 64:=by
  rw[QaS,if_pos h,Qys,Qz1 (by simp;omega)]
  rfl
 have h3:=(Qll ⟨(bs.getD 31 0).toNat,(bs.getD 31 0).toNat_lt⟩).2
 simp only at h3
 have h4:((QaS bs).getD 31 0).toNat=(bs.getD 31 0).toNat%64+64:=by
  rw[h2,UInt8.toNat_or,UInt8.toNat_and,show QAt 127=127 from rfl,show QAt 64=64 from rfl,h3]
 have h5:=QsB ((QaS bs).take 31)
 rw[QyL,Qbl]at h5
 rw[h4]at h1
 have e:(256:Nat)^31*64=2^254:=by decide
 have e2:(256:Nat)^31*128=2^255:=by decide
 have h6:(256:Nat)^31*64≤256^31*((bs.getD 31 0).toNat%64+64):=QzF _ (by omega)
 have h7:(256:Nat)^31*((bs.getD 31 0).toNat%64+64)+256^31≤256^31*128:=by
  have hy:(bs.getD 31 0).toNat%64+64+1≤128:=by omega
  generalize (bs.getD 31 0).toNat%64+64=y at hy
  have:=QzF (256^31) hy
  rw[Qzo,QzY]at this
  exact this
 rw[QzD (by omega)]at h5
 omega
def ellN:Nat:=7237005577332262213973186563042994240857116359379907606001950938285454250989
def Kl:List UInt8:=[237,211,245,92,26,99,18,88,214,156,247,162,222,249,222,20,0,0,0,0,0,0,0,0,0,0,0,0,0,0,0,16]
theorem QuZ:kval Kl 255=ellN:=by decide +kernel
set_option maxRecDepth 100000 in
theorem ord9:(Lad.at 9 Kl 255).z2=0:=by decide +kernel
theorem QvB {x y d:Fp} (h:x=0) (on:x*x+y*y=1+d*x*x*y*y):y*y=1:=by grobner
theorem Qw8 {x y d:Fp} (h:x=0):d*x*x*y*y=0:=by grobner
theorem QuS {x y t:Fp} (h:x=0):x*y+x*y=0*t:=by grobner
theorem QuN {x y:Fp} (h:x=0) (hy:y*y=1):y*y-x*x=1:=by grobner
section
variable {δ:Fp} (hδ:QeZ δ)
include hδ in
theorem QsO {Q:Pt δ} (h:1-Q.y=0):Q=Pt.zero:=by
 have on:=Q.on
 have hy:Q.y=1:=by clear on;grobner
 have:Q.x*Q.x*(1-δ)=0:=by clear h;grobner
 have hx:Q.x=0:=by
  rcases QcW this with h1|h1
  ·exact (QcW h1).elim id id
  ·exact absurd h1 (Qg2 hδ)
 exact Pt.ext hx hy
theorem Qrp {Q:Pt δ} (h:Q.x=0):Q.add hδ Q=Pt.zero:=by
 have hy:Q.y*Q.y=1:=QvB h Q.on
 have ht:tt Q Q=0:=Qw8 h
 apply Pt.ext
 ·apply Qd7 (Qfz hδ Q Q)
  rw[Qim]
  exact QuS h
 ·apply Qd7 (QeO hδ Q Q)
  rw[Qfa,ht]
  exact (QuN h hy).trans (show (1:Fp)=1*(1-0) by decide)
theorem zero_mul (n:Nat):(Pt.zero:Pt δ).mul hδ n=Pt.zero:=by
 induction n with
 | zero=>rfl
 | succ n ih=>show ((Pt.zero:Pt δ).mul hδ n).add hδ Pt.zero=Pt.zero;rw[ih,Qfo]
structure Ell (L:Nat):Prop where
 kl:kval Kl 255=L
 inv:∀n,n%L≠0→∃m,n*m%L=1
 dbl:∀n,n%L≠0→(n+n)%L≠0
 one:1%L≠0
 clamp:∀bs:List UInt8,bs.length=32→kval (QaS bs) 255%L≠0
theorem Qud {L:Nat} (hL:Ell L) {s:Fp} {G:Pt δ} (hp:Par s δ) (hx:toF 9*(1-G.y)=s*(1+G.y)) (hy:1+G.y≠0):G.mul hδ L=Pt.zero:=by
 have h:=(Qoh hδ hp hx hy Kl 255).1
 rw[hL.kl]at h
 obtain⟨k,hk,_,hZ⟩:=h
 rw[ord9,Qlk]at hZ
 have hs:=QfX hp
 have hsn:s≠0:=by rintro rfl;revert hs;decide
 rcases QcW hZ.symm with h1|h1
 ·exact absurd h1 (QaC hk hsn)
 ·exact QsO hδ h1
theorem QiT {L:Nat} (hL:Ell L) {s:Fp} {G:Pt δ} (hp:Par s δ) (hx:toF 9*(1-G.y)=s*(1+G.y)) (hy:1+G.y≠0) {n:Nat} (hn:n%L≠0):(G.mul hδ n).x≠0:=by
 intro h0
 have h1:=Qrp hδ h0
 rw[←Qdd]at h1
 obtain⟨m,hm⟩:=hL.inv _ (hL.dbl n hn)
 have h3:G.mul hδ ((n+n)*m)=Pt.zero:=by rw[Qgl,h1,zero_mul]
 have h4:(n+n)*m=L*((n+n)*m/L)+1:=by
  have:=Qzh ((n+n)*m) L
  omega
 rw[h4,Qdd,Qgl,Qud hδ hL hp hx hy,zero_mul,QjW,Qgn]at h3
 have hs:=QfX hp
 rw[h3]at hx hy
 have h5:s*2=0:=by
  have:toF 9*(1-1)=s*(1+1):=hx
  clear hx hy hs hp h0 h1
  grobner
 rcases QcW h5 with h6|h6
 ·subst h6
  revert hs
  decide
 ·exact QhG h6
end
theorem QmY {p n:Nat} (h:∀a,a%p≠0→a^(p-1)%p=1) (hp:2≤p) (hn:n%p≠0):∃m,n*m%p=1:=by
 refine⟨n^(p-2),?_⟩
 rw[←Qz0,show (p-2).succ=p-1 by omega]
 exact h n hn
theorem Qqi (a:Nat) (h:a%ellN≠0):a^(ellN-1)%ellN=1:=by
 have:=Qxd.2 a (by unfold ellN at h;exact h)
 unfold ellN
 exact this
theorem Qk4 {n:Nat} (hn:n%ellN≠0):∃m,n*m%ellN=1:=QmY (p:=ellN) Qqi (by unfold ellN;omega) hn
theorem QoY (bs:List UInt8) (h:bs.length=32):kval (QaS bs) 255%ellN≠0:=by
 rw[Qq7 _ (Qbl bs)]
 have h1:=Qpb bs h
 have h2:=(QnZ bs).resolve_right (fun e=>e h)
 rw[QyN h1.2]
 intro h0
 obtain⟨m,hm⟩:∃m,num (QaS bs)=8*m:=⟨num (QaS bs)/8,by omega⟩
 rw[hm]at h0 h1
 have h3:m<ellN:=by unfold ellN;omega
 have h4:m%ellN≠0:=by rw[QyN h3];omega
 obtain⟨r,hr⟩:=Qk4 h4
 have h5:(8*m)*r%ellN=0:=by rw[QzL,h0,Qz6,Nat.zero_mod]
 rw[Qzr,QzL,hr]at h5
 revert h5
 decide
theorem QtM (n:Nat) (h:n%ellN≠0):(n+n)%ellN≠0:=by
 intro h0
 obtain⟨r,hr⟩:=Qk4 (n:=2) (by decide)
 have h1:n*(2*r)%ellN=0:=by rw[←Qzr,Nat.mul_two,QzL,h0,Qz6,Nat.zero_mod]
 rw[QzL,hr,QzY,QAb]at h1
 exact h h1
theorem ell:∃L,Ell L:=
 ⟨ellN,QuZ,fun _ h=>Qk4 h,QtM,by decide,QoY⟩
theorem Ell.prod {L n m:Nat} (hL:Ell L) (hn:n%L≠0) (hm:m%L≠0):n*m%L≠0:=by
 intro h0
 obtain⟨r,hr⟩:=hL.inv n hn
 have h1:n*r*m%L=0:=by rw[show n*r*m=n*m*r by rw[Qzr,Qzj r m,Qzr],QzL,h0,Qz6,Nat.zero_mod]
 rw[QzL,hr,Nat.one_mul,QAb]at h1
 exact hm h1
def From9 (q:Nat):Prop:=q<P25∧∃(L:Nat) (_:Ell L) (s δ:Fp) (hδ:QeZ δ) (_:Par s δ) (G:Pt δ) (n:Nat),toF 9*(1-G.y)=s*(1+G.y)∧1+G.y≠0∧n%L≠0∧toF q=(G.mul hδ n).u s
theorem from9_ne {q:Nat} (h:From9 q):q≠0:=by
 obtain⟨_,L,hL,s,δ,hδ,hp,G,n,hx,hy,hn,he⟩:=h
 rintro rfl
 exact QiT hδ hL hp hx hy hn ((QvV hδ hp).1 he.symm)
theorem from9_nine:From9 9:=by
 obtain⟨s,δ,hδ,hp,G,hx,hy⟩:=Qp4 (u:=toF 9) (by decide)
 obtain⟨L,hL⟩:=ell
 refine⟨by decide,L,hL,s,δ,hδ,hp,G,1,hx,hy,hL.one,?_⟩
 rw[Qgn]
 have h1:1-G.y≠0:=by
  intro h0
  have hs:=QfX hp
  have hsn:s≠0:=by rintro rfl;revert hs;decide
  rw[h0]at hx
  have:s*(1+G.y)=0:=by rw[←hx];clear hx hs hp hy;grobner
  exact QaC hsn hy this
 unfold Pt.u
 rw[if_neg h1,←hx]
 have:=Qay h1
 clear hx hy hp h1
 grobner
theorem from9_step {q:Nat} (h:From9 q) (ks:List UInt8) (hk:ks.length=32):From9 (multN q (QaS ks)):=by
 have hne:=from9_ne h
 obtain⟨hq,L,hL,s,δ,hδ,hp,G,n,hx,hy,hn,he⟩:=h
 have h0:toF q≠0:=fun h=>hne (QtK hq h)
 rw[he]at h0
 obtain⟨b1,b2⟩:=Qu9 hp h0
 refine⟨Qrz _ _,L,hL,s,δ,hδ,hp,G,n*kval (QaS ks) 255,hx,hy,hL.prod hn (hL.clamp ks hk),?_⟩
 rw[Qgl]
 exact Quj hδ hp (by rw[he];exact b1) b2 (QaS ks)
end Ed
end Go.Proofs.YtdhgpkdjdmlphaaGreat
namespace Go.Proofs.YtdhgpkdjdmlphaaGreat
open Go.RowKit
theorem QqJ (ks:List UInt8) (q:Nat) (h:q<P25):Qj4 ks (nb q)=Ed.multN q (QaS ks):=by
 rw[Qj4,Qqs q h]
 rfl
theorem Qgk (ks:List UInt8) (q:Nat) (hk:ks.length=32) (h:q<P25):QcU ks (nb q)=nb (Ed.multN q (QaS ks))∧QdD ks (nb q)=if Ed.multN q (QaS ks)=0 then 5 else 0:=by
 unfold QcU QdD
 rw[QqJ ks q h,if_pos ⟨hk,Qca q⟩,if_pos ⟨hk,Qca q⟩]
 exact⟨rfl,rfl⟩
theorem Qss:9<P25:=by decide
theorem Qvp (ks:List UInt8) (hk:ks.length=32):QdD ks (nb 9)=0:=by
 rw[(Qgk ks 9 hk Qss).2,if_neg (Ed.from9_ne (Ed.from9_step Ed.from9_nine ks hk))]
section
variable {w wk v:World} {ls ls':List (Nat×TypeId×List Value)}
theorem Bag.fresh (h:Bag w wk ls) {k:Nat} {t:TypeId} {l:List Value} (j:Later wk v) (hk:wk.heap.size≤k) (hb:Blk v k t l):Bag w v ((k,t,l) :: ls):=
 h.add j (fun p hp e=>by have:=(h.blk p hp).lt;omega) (Qy3 h.lat.size hk) hb
theorem Bag.sub (h:Bag w wk ls) (hs:ls'.Sublist ls):Bag w wk ls':=
 ⟨h.lat,fun p hp=>h.blk p (hs.subset hp),fun p hp=>h.low p (hs.subset hp),(hs.map _).nodup h.nd⟩
end
theorem QiK {w:World} {g n:Nat} {t:TypeId} {bs:List UInt8} {rest:List Value} (h:Blk w g t (bs.map W8++rest)) (hn:bs.length=n):RdB w (some ⟨g,0,none⟩) n bs:=
 ⟨by rw[Qyn,hn],fun _=>⟨g,0,rfl,h.lt,fun j u hu=>by
   rw[QyY]
   refine h.cellD j ?_
   rw[QyH (QyC.1 hu).1]
   exact hu⟩⟩
theorem Qeq {w:World} {g:Nat} {t:TypeId} {v:Value} {p:List UInt8} (hb:Blk w g t [v]) (hp:Part w (fun _=>False) v p):Parts w (fun _=>False) (some ⟨g,0,none⟩) 1 [p]:=
 ⟨[v],hb.rd rfl,Qbr _ _,rfl,fun j v' p' hv hp'=>by
   cases j with
   | zero=>
     cases hv
     cases hp'
     exact hp
   | succ j=>simp at hv⟩
theorem Qdr {w:World} {g:Nat} {t:TypeId} {v1 v2:Value} {p1 p2:List UInt8} (hb:Blk w g t [v1,v2]) (h1:Part w (fun _=>False) v1 p1) (h2:Part w (fun _=>False) v2 p2):Parts w (fun _=>False) (some ⟨g,0,none⟩) 2 [p1,p2]:=
 ⟨[v1,v2],hb.rd rfl,Qbr _ _,rfl,fun j v' p' hv hp'=>by
   match j with
   | 0=>
     cases hv
     cases hp'
     exact h1
   | 1=>
     cases hv
     cases hp'
     exact h2
   | j+2=>simp at hv⟩
theorem QqL {w:World} {base n c:Nat} {A:Option Addr} {bs:List UInt8} (h:OwnB w base A n c bs) (hn:0<n):∃g rest,A=some ⟨g,0,none⟩∧base≤g∧Blk w g 5 (bs.map W8++rest)∧c=(bs.map W8++rest).length∧n≤c:=by
 rcases QoJ h with ⟨_,h0⟩|⟨g,rest,e,h1,h2,h3⟩
 ·omega
 ·exact⟨g,rest,e,h1,h2,h3,h.cap⟩
theorem QaH {w:World} {A:Option Addr} {n c:Nat} {p:List UInt8} (h:RdB w A n p) (hc:n≤c):Part w (fun _=>False) (.slice A n c) p:=⟨A,n,c,rfl,hc,h,fun _ _ _ h=>h⟩
end Go.Proofs.YtdhgpkdjdmlphaaGreat
namespace Go.Proofs.YtdhgpkdjdmlphaaGreat
open Go.RowKit
open Go.BigFrame
structure Nod where
 nm:ByteArray
 id:UInt64
 priv:Y32
 pub:Y32
def Qr3:Y32:=⟨Qym 32 0,by simp⟩
def nod0:Nod:=⟨.empty,0,Qr3,Qr3⟩
def NC (x:Nod):List Value:=.string x.nm :: W64 x.id :: (x.priv.val.map W8++x.pub.val.map W8)
theorem QaI (x:Nod):(NC x).length=66:=by simp[NC,x.priv.2,x.pub.2]
theorem Qu3 (x:Nod):∀u∈NC x,u.oneCell'=true:=by
 intro u hu
 simp only[NC,QyA,Qz7,Qzb]at hu
 rcases hu with rfl|rfl|⟨b,_,rfl⟩|⟨b,_,rfl⟩<;>rfl
theorem QvY (x:Nod) {j:Nat} {v:Value} (h:(x.pub.val.map W8)[j]?=some v):(NC x)[34+j]?=some v:=by
 have hp:(x.priv.val.map W8).length=32:=by rw[Qyn,x.priv.2]
 rw[NC,show 34+j=j+32+1+1 by omega,Qyo,Qyo,Qyz (by omega),hp,Nat.add_sub_cancel]
 exact h
set_option maxRecDepth 100000 in
theorem Qj8 (K:List UInt8) (hK:K.length=32) (w:World):
 Calls Tryz.prog 72 #[.agg (K.map W8).toArray] w fun e w'=>∃g,e= .returned (.slice (some ⟨g,0,none⟩) 32 32)∧w.heap.size≤g∧Blk w' g 5 (K.map W8)∧Later w w':=by
 have hb0:Blk (w.alloc (.cells (K.map W8).toArray 30)) w.heap.size 30 (K.map W8):=Blk.new _ _ _
 go_enter Tryz.func72,Tryz.ntmps72
 go_wp2_with (first
  | (refine Qar rfl _ _ 22 rfl 5 (.int .u8 0) 1 Tryz.underlying22 Qcg rfl _ _ _ _ 32 rfl rfl rfl rfl (by omega) (by omega) ?_;intro w2 hb2 hl2;rw[show (w.alloc (.cells (K.map W8).toArray 30)).heap.size=w.heap.size+1 by simp]at hb2)
  | (refine QiZ 0 32 rfl _ _ _ _ rfl 5 Tryz.underlying22 Qbv (show Blk w2 (w.heap.size+1) 5 ((Qym 32 0).map W8) by (rw [Qy4];exact hb2)) (QbY (hb0.later hl2) hK) rfl rfl (by simp) ?_;intro w3 hb3 ho3;rw[QlK _ _ (by simpa using hK)]at hb3)
  | fail)
 go_ret
 exact⟨w.heap.size+1,rfl,by omega,hb3,((Qaa _ _).trans hl2).only ho3 (by omega)⟩
section
variable {ops:Array Oper} {rest:List Oper} {o:Oper} {a:Act} {w:World} {Q:Exit→Act→World→Prop}
theorem QpK (hgd:Region.wanted o (yielded ops a.tmps)=true) (x:Operand) (ho:o.op= .load 30 x) {g off:Nat} {K:List UInt8} (hc:∀j v,(K.map W8)[j]?=some v→w.cell? ⟨g,off+j,none⟩=some v) (hl:K.length=32) (hx:a.eval x= .pointer (some ⟨g,off,none⟩))
 (h:wpList Tryz.prog ops Q rest (a.put o.dst (.agg (K.map W8).toArray)) w):wpList Tryz.prog ops Q (o :: rest) a w:=
 QaB hgd _ x ho g off _ hc hx _ Tryz.underlying30 rfl (by rw[Qyn,hl];exact Qbn) h
end
theorem QjT {w:World} {b off n:Nat} {K:List UInt8} (hb:b<w.heap.size) (hc:∀j v,(K.map W8)[j]?=some v→w.cell? ⟨b,off+j,none⟩=some v) (hn:K.length=n):RdB w (some ⟨b,off,none⟩) n K:=
 ⟨by rw[Qyn,hn],fun _=>⟨b,off,rfl,hb,hc⟩⟩
def pubK (K:List UInt8):List UInt8:=QcU K (nb 9)
theorem Qky (K:List UInt8):(pubK K).length=32:=Qbk _ _
def Qxq:List UInt8:=[110,111,100,101]
def keyK (seed:List UInt8) (s:ByteArray):List UInt8:=expB (Qbb Qxq seed) (strB s) 32
theorem Qkf (seed:List UInt8) (s:ByteArray):(keyK seed s).length=32:=QgH _ _ _
def keyY (seed:List UInt8) (s:ByteArray):Y32:=⟨keyK seed s,Qkf seed s⟩
def pubY (K:List UInt8):Y32:=⟨pubK K,Qky K⟩
def keyed (seed:List UInt8) (i:Nat) (s:ByteArray):Nod:=⟨s,QyO (i+1),keyY seed s,pubY (keyK seed s)⟩
theorem Qc2 {P:Program} {t:TypeId} {d:TypeDesc} {k:Nat} {v:Value} (hu:P.underlying t=some d) (hd:Qbz d=false) {zs:List Value} (hz:zs[k]?=some v) (w:World):(part t zs.toArray k).run P w= .ok v w:=by
 have ha:(isAgg t).run P w= .ok false w:=by
  unfold isAgg
  simp only[Sem.run_bind,run_underlying hu]
  cases d<;>simp_all [Qbz]
 unfold part
 simp[Sem.run_bind,ha,Result.andThen_ok,hz]
theorem Qja {P:Program} {d k:Nat} {t:TypeId} {f:Field} {fs:List Field} (hf:f.type=t) (hu:P.underlying t=some .string) (hn:f.name≠ "_") {xs ys:List Value} {p q:ByteArray} (ho:f.offset=k) (hp:xs[k]?=some (.string p)) (hq:ys[k]?=some (.string q)) (w:World):
 (Op.eqFields (d+1) xs.toArray ys.toArray (f :: fs)).run P w=if p.toList==q.toList then (Op.eqFields (d+1) xs.toArray ys.toArray fs).run P w else .ok false w:=by
 rw[Op.eqFields,if_pos hn]
 simp only[Sem.run_bind,hf,ho,Qc2 hu rfl hp,Qc2 hu rfl hq,Result.andThen_ok,run_equalIn_string w d t p q hu]
 cases p.toList==q.toList<;>simp
theorem Qir {P:Program} {d k:Nat} {t:TypeId} {f:Field} {fs:List Field} (hf:f.type=t) (hu:P.underlying t=some (.int .u64)) (hn:f.name≠ "_") {xs ys:List Value} {p q:UInt64} (ho:f.offset=k) (hp:xs[k]?=some (W64 p)) (hq:ys[k]?=some (W64 q)) (w:World):
 (Op.eqFields (d+1) xs.toArray ys.toArray (f :: fs)).run P w=if p==q then (Op.eqFields (d+1) xs.toArray ys.toArray fs).run P w else .ok false w:=by
 rw[Op.eqFields,if_pos hn]
 simp only[Sem.run_bind,hf,ho,Qc2 hu rfl hp,Qc2 hu rfl hq,Result.andThen_ok,QgX t _ hu d p q w]
 cases p==q<;>simp
def QmS (x y:Nod):Bool:=x.nm.toList==y.nm.toList&&(x.id==y.id&&(x.priv.val==y.priv.val&&x.pub.val==y.pub.val))
@[go_sem] theorem Quz (x:Nod):QmS x x=true:=by simp[QmS]
theorem QjS (x:Nod):((NC x).drop 2).take 32=x.priv.val.map W8:=by
 have h1:(x.priv.val.map W8).length=32:=by rw[Qyn,x.priv.2]
 rw[NC,QzG,QzG,Qzn,QAj h1]
theorem Qlp (x:Nod):((NC x).drop 34).take 32=x.pub.val.map W8:=by
 have h1:(x.priv.val.map W8).length=32:=by rw[Qyn,x.priv.2]
 rw[NC,show (34:Nat)=32+1+1 from rfl,QzG,QzG,Qzg h1,Qyx (by rw[Qyn,x.pub.2];omega)]
set_option maxRecDepth 100000 in
theorem QgS (x y:Nod) (w:World) {fs:Array Field} (hu:Tryz.prog.underlying 74=some (.struct fs)):(Op.eqFields 9999 (NC x).toArray (NC y).toArray fs.toList).run Tryz.prog w= .ok (QmS x y) w:=by
 rw[Tryz.underlying74]at hu
 cases hu
 rw[Qja (d:=9998) (k:=0) rfl Tryz.underlying9 (by decide) rfl rfl rfl,Qir (d:=9998) (k:=1) rfl Tryz.underlying23 (by decide) rfl rfl rfl,
  Qbp (d:=9997) (k:=2) rfl (by decide) rfl (QjS x) (QjS y) x.priv.2 y.priv.2,Qbp (d:=9997) (k:=34) rfl (by decide) rfl (Qlp x) (Qlp y) x.pub.2 y.pub.2,Qcq]
 rw[QmS]
 cases x.nm.toList==y.nm.toList<;>cases x.id==y.id<;>cases x.priv.val==y.priv.val<;>cases x.pub.val==y.pub.val<;>rfl
theorem QsZ:Tryz.prog.eqGuardType Tryz.prog.depth 74=false:=by kernel_rfl
@[go_sem high] theorem Qua (op:BinOp) (x y:Operand) (xs ys:Array Value) (w:World):(eqGuard op 74 x y (.agg xs) (.agg ys)).run Tryz.prog w= .ok () w:=run_eqGuard_agg w op _ x y xs ys QsZ
set_option maxRecDepth 100000 in
@[go_sem high] theorem Qt4 (x y:Nod) (w:World):(binOp .eql 74 (.agg (NC x).toArray) (.agg (NC y).toArray)).run Tryz.prog w= .ok (.bool (QmS x y)) w:=by
  rw[Qff Tryz.underlying74 (by kernel_rfl),QgS x y w Tryz.underlying74]
  rfl
set_option maxRecDepth 100000 in
@[go_sem high] theorem Qtu (x y:Nod) (w:World):(binOp .neq 74 (.agg (NC x).toArray) (.agg (NC y).toArray)).run Tryz.prog w= .ok (.bool (!QmS x y)) w:=by
  rw[Qhf Tryz.underlying74 (by kernel_rfl),QgS x y w Tryz.underlying74]
  rfl
theorem QuQ:(Tryz.prog.info? 74).map (·.size)=some 66:=by kernel_rfl
section
variable {ops:Array Oper} {rest:List Oper} {o:Oper} {a:Act} {w:World} {Q:Exit→Act→World→Prop}
theorem Qrk (hgd:Region.wanted o (yielded ops a.tmps)=true) (x:Operand) (ho:o.op= .load 74 x) {g off:Nat} {y:Nod} (hc:∀i v,(NC y)[i]?=some v→w.cell? ⟨g,off+i,none⟩=some v) (hx:a.eval x= .pointer (some ⟨g,off,none⟩))
 (h:wpList Tryz.prog ops Q rest (a.put o.dst (.agg (NC y).toArray)) w):wpList Tryz.prog ops Q (o :: rest) a w:=
 QaB hgd _ x ho g off _ hc hx _ Tryz.underlying74 rfl (by rw[QaI];exact QuQ) h
end
theorem QxS:(Tryz.prog.info? 86).bind (·.zero)=some (.agg (NC nod0).toArray):=by kernel_rfl
theorem QtI:(Tryz.prog.info? 86).map (·.size)=some 66:=by kernel_rfl
theorem Qmu (l:List Value) (x:Nod) (h:l.length=66):Qan l 0 (NC x)=NC x:=Qam _ _ (by rw[QaI,h])
theorem Qj3 (x:Nod):Tryz.prog.built 86 [(0,.agg (NC x).toArray)]=some (NC x).toArray:=by
 rw[Qc9 (pl:=[(0,66)]) Tryz.underlying86 QxS (by kernel_rfl),QcL (vs:=NC x) (off:=0) rfl (by rw[QaI];rfl) (by rw[QaI,QaI];omega),Qgm,Qmu _ _ (QaI _)]
section
variable {ops:Array Oper} {rest:List Oper} {o:Oper} {a:Act} {w:World} {Q:Exit→Act→World→Prop}
theorem Qm1 (hgd:Region.wanted o (yielded ops a.tmps)=true) (x:Operand) (ho:o.op= .load 86 x) {g off:Nat} {y:Nod} (hc:∀i v,(NC y)[i]?=some v→w.cell? ⟨g,off+i,none⟩=some v) (hx:a.eval x= .pointer (some ⟨g,off,none⟩))
 (h:wpList Tryz.prog ops Q rest (a.put o.dst (.agg (NC y).toArray)) w):wpList Tryz.prog ops Q (o :: rest) a w:=
 QaB hgd _ x ho g off _ hc hx _ Tryz.underlying86 rfl (by rw[QaI];exact QtI) h
end
set_option maxRecDepth 100000 in
theorem Qhj (x:Nod) (w:World):
 Calls Tryz.prog 60 #[.agg (NC x).toArray] w fun e w'=>∃g,e= .returned (.slice (some ⟨g,0,none⟩) 32 32)∧w.heap.size≤g∧Blk w' g 5 (x.pub.val.map W8)∧Later w w':=by
 have hb0:Blk (w.alloc (.cells (NC x).toArray 86)) w.heap.size 86 (NC x):=Blk.new _ _ _
 have hc:∀j v,(x.pub.val.map W8)[j]?=some v→(w.alloc (.cells (NC x).toArray 86)).cell? ⟨w.heap.size,34+j,none⟩=some v:=fun j v hv=>hb0.cellD _ (QvY x hv)
 go_enter Tryz.func60,Tryz.ntmps60
 go_wp2_with (first
  | (refine QpK rfl _ rfl hc x.pub.2 rfl ?_)
  | fail)
 (with_reducible refine (Qj8 x.pub.val x.pub.2 _).mono ?_);rintro e w2 ⟨g2,rfl,hg2,hb2,l2⟩
 go_wp2
 go_ret
 exact⟨g2,rfl,by simp at hg2;omega,hb2,(Qaa _ _).trans l2⟩
section
variable {ops:Array Oper} {rest:List Oper} {o:Oper} {a:Act} {w:World} {Q:Exit→Act→World→Prop}
end
end Go.Proofs.YtdhgpkdjdmlphaaGreat
namespace Go.Proofs.YtdhgpkdjdmlphaaGreat
open Go.ChangeShapes Go.WideShapes Go.ChangeAt Go.RowKit
end Go.Proofs.YtdhgpkdjdmlphaaGreat
namespace Go.Proofs.YtdhgpkdjdmlphaaGreat
open Go.ChangeShapes Go.WideShapes Go.ChangeAt Go.RowKit
open _root_.Go.Proofs.YtdhgpkdjdmlphaaGreat.Rows (uptoBulk uptoBulkAll uptoSmall)
theorem Qqe {H:Type} (d:DataW H):1≤uptoBulk d:=by
 cases d with
 | lit l=>cases l<;>simp[uptoBulk]
 | _=>simp[uptoBulk]
theorem Qlw {H:Type} {d:DataW H} {l:List (DataW H)} (h:d∈l):uptoBulk d≤uptoBulkAll l:=by
 induction l with
 | nil=>cases h
 | cons x r ih=>
   simp only[uptoBulkAll]
   cases QyA.1 h with
   | inl e=>subst e;omega
   | inr e=>have:=ih e;omega
theorem Ql7 {H:Type} (l:List (DataW H)):l.length≤uptoBulkAll l:=by
 induction l with
 | nil=>simp[uptoBulkAll]
 | cons x r ih=>have:=Qqe x;simp only[uptoBulkAll,Qy9];omega
theorem QmQ {H:Type} {l:List (DataW H)} (hk:uptoSmall H l=true):uptoBulkAll l≤1048576:=of_decide_eq_true hk
section
variable {H:Type} {enc:TypeId×Value→H} {P:Program} {w:World} {base:Nat} {sp:Nat→Bool} {held:Bool}
theorem QrK {a:Addr} {c:List Value} (h:w.cells? base a 1=some c):∃u,c=[u]∧w.cell? a=some u:=by
 have e0:a.add 0=a:=by simp[Addr.add]
 unfold World.cells? at h
 split at h
 ·simp only[QAp,List.range_zero,Qyt,List.mapM_cons,List.mapM_nil,e0]at h
  cases hcc:w.cell? a with
  | none=>simp[hcc]at h
  | some u=>simp[hcc]at h;exact⟨u,h.symm,rfl⟩
 ·cases h
theorem Qjr {a:Addr} {u:Value} (h:w.cell? a=some u):a.spot=none∧a.block<w.heap.size:=by
 unfold World.cell? at h
 split at h
 ·rename_i c t fz hc
  refine⟨?_,(Array.getElem?_eq_some_iff.1 hc).1⟩
  cases hs:a.spot with
  | none=>rfl
  | some x=>simp[hs]at h
 ·cases h
theorem Qrh {t e:TypeId} {fuel:Nat} {v:Value} {x:DataW H×List MemPlace} (ht:P.underlying t=some (.slice e)) (hc:P.cellsOf e=1) (h:DataW.trod enc P w base sp held fuel t [v]=some x):
 ∃A n c,∃(vs:List Value) (xs:List (DataW H×List MemPlace)),v= .slice A n c∧n≤c∧c≤maxLen∧Rd w A n vs∧xs.length=n∧
  (∀ (j:Nat) u,vs[j]?=some u→∃y f,xs[j]?=some y∧DataW.trod enc P w base sp held f e [u]=some y)∧uptoBulkAll (xs.map (·.1))+1≤uptoBulk x.1:=by
 rcases DataW.trod_slice ht h with ⟨hcs,rfl⟩|⟨a,len,cap,elems,rest,n,rfl,hcs,rfl,hb,hl,hm,hlen,hel,hsp,hns⟩
 ·obtain rfl:v= .slice none 0 0:=by simpa using hcs
  exact⟨none,0,0,[],[],rfl,Qyw _,Nat.zero_le _,⟨rfl,fun h=>absurd h (by omega)⟩,rfl,fun j u hu=>by simp at hu,by simp[uptoBulk,uptoBulkAll]⟩
 ·obtain rfl:v= .slice (some a) len cap:=by simpa using hcs
  have each:∀i,i<len→∃u y,w.cell? (a.add i)=some u∧elems[i]?=some y∧DataW.trod enc P w base sp held n e [u]=some y:=by
   intro i hi
   have hE:=hel i hi
   rw[hc,QzY]at hE
   have hy:elems[i]?=some (elems[i]'(by omega)):=Qyq _
   rw[hy,Option.bind_eq_some_iff]at hE
   obtain⟨c1,hc1,hy1⟩:=hE
   obtain⟨u,rfl,hu⟩:=QrK hc1
   exact⟨u,_,hu,hy,hy1⟩
  refine⟨some a,len,cap,(Qzc len).map fun i=>(w.cell? (a.add i)).getD undef,elems,rfl,hl,hm,⟨by simp,fun h0=>?_⟩,hlen,fun j u hu=>?_,?_⟩
  ·obtain⟨u,y,hu,_,_⟩:=each 0 h0
   have e0:a.add 0=a:=by simp[Addr.add]
   rw[e0]at hu
   obtain⟨h1,h2⟩:=Qjr hu
   obtain⟨b,o,s⟩:=a
   simp only at h1
   subst h1
   refine⟨b,o,rfl,h2,fun j v hv=>?_⟩
   rw[QyF]at hv
   have hj:j<len:=by
    rcases Qzs j len with h|h
    ·exact h
    ·rw[Qzq (by simpa using h)]at hv
     cases hv
   obtain⟨u',y',hu',_,_⟩:=each j hj
   rw[Qz3 hj]at hv
   simp only[QzW,Option.some.injEq,hu',QAq]at hv
   rw[←Qc3,hu',hv]
  ·rw[QyF]at hu
   have hj:j<len:=by
    rcases Qzs j len with h|h
    ·exact h
    ·rw[Qzq (by simpa using h)]at hu
     cases hu
   obtain⟨u',y',hu',hy',ht'⟩:=each j hj
   rw[Qz3 hj]at hu
   simp only[QzW,Option.some.injEq,hu',QAq]at hu
   exact⟨y',n,hy',hu ▸ ht'⟩
  ·simp only[uptoBulk]
   omega
theorem QhM {t e:TypeId} {fuel:Nat} {v:Value} {x:DataW H×List MemPlace} (ht:P.underlying t=some (.slice e)) (he:P.underlying e=some (.int .u8)) (hc:P.cellsOf e=1) (h:DataW.trod enc P w base sp held fuel t [v]=some x):
 ∃A n c bs,v= .slice A n c∧n≤c∧c≤maxLen∧RdB w A n bs∧bs.length+1≤uptoBulk x.1:=by
 obtain⟨A,n,c,vs,xs,rfl,h1,h2,h3,h4,h5,h6⟩:=Qrh ht hc h
 have hb:∀(j:Nat) u,vs[j]?=some u→∃b:UInt8,u=W8 b:=by
  intro j u hu
  obtain⟨y,f,_,hy⟩:=h5 j u hu
  obtain⟨m,hm,rfl,hw⟩:=DataW.trod_int he hy
  obtain rfl:u= .int .u8 m:=by simpa using hm
  have hr:0≤m∧m≤255:=by simpa [Lit.wf,IntKind.min,IntKind.max,IntKind.signed,IntKind.bits] using hw
  exact⟨QyP m.toNat,by rw[W8,Qzl];congr 1;omega⟩
 have hl:∀l:List Value,(∀ (j:Nat) u,l[j]?=some u→∃b:UInt8,u=W8 b)→∃bs:List UInt8,l=bs.map W8:=by
  intro l
  induction l with
  | nil=>exact fun _=>⟨[],rfl⟩
  | cons u l ih=>
    intro hl
    obtain⟨b,rfl⟩:=hl 0 u rfl
    obtain⟨bs,rfl⟩:=ih fun j v hv=>hl (j+1) v (by simpa using hv)
    exact⟨b :: bs,rfl⟩
 obtain⟨bs,rfl⟩:=hl vs hb
 refine⟨A,n,c,bs,rfl,h1,h2,h3,?_⟩
 have e1:bs.length=n:=by have:=h3.1;simpa using this
 have e2:=Ql7 (xs.map (·.1))
 rw[Qyn,h4]at e2
 omega
end
theorem QsL:Tryz.prog.cellsOf 5=1:=by kernel_rfl
section
variable {H:Type} {enc:TypeId×Value→H} {w:World} {base b0:Nat} {sp:Nat→Bool} {held:Bool} {r:Reach}
set_option maxRecDepth 100000 in
theorem Qms {t:TypeId} {v:Value} {d:DataW H} {ps:List MemPlace} (ht:Tryz.prog.underlying t=some (.slice 5)) (hval:Value.okWide Tryz.prog w r b0 t v) (h:DataW.Trod enc Tryz.prog w base sp held t v d ps):
 ∃A n c bs,v= .slice A n c∧n≤c∧c≤maxLen∧RdB w A n bs∧bs.length+1≤uptoBulk d:=by
 obtain⟨A,n,c,rfl⟩:=okWide_slice ht hval
 obtain⟨f,hf⟩:=h
 obtain⟨A',n',c',bs,h1,h2⟩:=QhM ht Tryz.underlying5 QsL hf
 exact⟨A',n',c',bs,h1,h2⟩
end
section
variable {H:Type} {enc:TypeId×Value→H} {P:Program} {w:World} {base b0:Nat} {sp:Nat→Bool} {held:Bool} {r:Reach}
end
theorem Qmb {α β:Type} (f:α→Option β):∀(l:List α) (ys:List β),l.mapM f=some ys→ys.length=l.length∧∀(i:Nat) x,l[i]?=some x→f x=ys[i]?
 | [],ys,h=>by
   simp only[List.mapM_nil,pure,Option.some.injEq]at h
   subst h
   exact⟨rfl,fun i x hx=>by simp at hx⟩
 | a :: l,ys,h=>by
   rw[List.mapM_cons]at h
   simp only[bind,Option.bind_eq_some_iff,pure,Option.some.injEq]at h
   obtain⟨y,hy,ys',h',rfl⟩:=h
   obtain⟨h1,h2⟩:=Qmb f l ys' h'
   refine⟨by simp[h1],fun i x hx=>?_⟩
   cases i with
   | zero=>
     obtain rfl:a=x:=by simpa using hx
     simpa using hy
   | succ i=>simpa using h2 i x (by simpa using hx)
theorem QhH {w:World} {base k:Nat} {a:Addr} {cs:List Value} (h:w.cells? base a k=some cs):cs.length=k∧∀i,i<k→w.cell? (a.add i)=cs[i]?:=by
 unfold World.cells? at h
 split at h
 ·obtain⟨h1,h2⟩:=Qmb _ _ _ h
  exact⟨by simpa using h1,fun i hi=>h2 i i (by rw[Qz3 hi])⟩
 ·cases h
theorem Qdt {l:List Value} {i:Nat} {v:Value} (h:(l.drop i).take 1=[v]):l[i]?=some v:=by
 have:=congrArg (·[0]?) h
 simpa [Qz8,QzC] using this
section
variable {H:Type} {enc:TypeId×Value→H} {w:World} {base:Nat} {sp:Nat→Bool} {held:Bool}
theorem Ql3 {fuel:Nat} {cs:List Value} {x:DataW H×List MemPlace} (h:DataW.trod enc Tryz.prog w base sp held fuel 30 cs=some x):∃K:Y32,cs=K.val.map W8:=by
 obtain⟨xs,m,rfl,rfl,hl,hxl,he⟩:=DataW.trod_array Tryz.underlying30 h
 have hn:Tryz.prog.cellsOf 30=32:=by kernel_rfl
 have h1:Tryz.prog.cellsOf 5=1:=by kernel_rfl
 rw[hn]at hl
 rw[h1]at he
 have each:∀i,∃b:UInt8,i<32→cs[i]?=some (W8 b):=by
  intro i
  by_cases hi:i<32
  ·have:=he i hi
   rw[Qyq (by omega),QzY]at this
   obtain⟨z,hz,_,hw⟩:=DataW.trod_int Tryz.underlying5 this
   have hr:0≤z∧z≤255:=by simpa [Lit.wf,IntKind.min,IntKind.max,IntKind.signed,IntKind.bits] using hw
   exact⟨_,fun _=>by rw[Qdt hz,Qa5 z hr.1 (by omega)]⟩
  ·exact⟨0,fun h=>absurd h hi⟩
 obtain⟨f,hf⟩:=Classical.axiomOfChoice each
 refine⟨⟨(Qzc 32).map f,by simp⟩,?_⟩
 apply List.ext_getElem?
 intro i
 rcases Qzs i 32 with hi|hi
 ·rw[hf i hi,QyF,QyF,Qz3 hi]
  rfl
 ·rw[Qzq (by omega),Qzq (by simp;omega)]
set_option maxRecDepth 100000 in
theorem Qq8 {fuel:Nat} {cs:List Value} {x:DataW H×List MemPlace} (h:DataW.trod enc Tryz.prog w base sp held fuel 74 cs=some x):∃y:Nod,cs=NC y∧y.nm.size≤uptoBulk x.1:=by
 obtain⟨xs,m,rfl,rfl,hl,hxl,he⟩:=DataW.trod_struct Tryz.underlying74 h
 have hn:Tryz.prog.cellsOf 74=66:=by kernel_rfl
 have hS:Tryz.prog.cellsOf 9=1:=by kernel_rfl
 have hU:Tryz.prog.cellsOf 23=1:=by kernel_rfl
 have hB:Tryz.prog.cellsOf 30=32:=by kernel_rfl
 rw[hn]at hl
 have hxl4:xs.length=4:=hxl
 have e0:DataW.trod enc Tryz.prog w base sp held m 9 ((cs.drop 0).take (Tryz.prog.cellsOf 9))=xs[0]?:=he 0 _ rfl
 have e1:DataW.trod enc Tryz.prog w base sp held m 23 ((cs.drop 1).take (Tryz.prog.cellsOf 23))=xs[1]?:=he 1 _ rfl
 have e2:DataW.trod enc Tryz.prog w base sp held m 30 ((cs.drop 2).take (Tryz.prog.cellsOf 30))=xs[2]?:=he 2 _ rfl
 have e3:DataW.trod enc Tryz.prog w base sp held m 30 ((cs.drop 34).take (Tryz.prog.cellsOf 30))=xs[3]?:=he 3 _ rfl
 rw[hS,Qyq (by omega)]at e0
 rw[hU,Qyq (by omega)]at e1
 rw[hB,Qyq (by omega)]at e2 e3
 obtain⟨s,hs,hx0,_⟩:=DataW.trod_string Tryz.underlying9 e0
 obtain⟨z,hz,_,hw⟩:=DataW.trod_int Tryz.underlying23 e1
 obtain⟨K,hK⟩:=Ql3 e2
 obtain⟨P,hP⟩:=Ql3 e3
 have hr:0≤z∧z≤18446744073709551615:=by simpa [Lit.wf,IntKind.min,IntKind.max,IntKind.signed,IntKind.bits] using hw
 have c0:=Qdt hs
 have c1:=Qdt hz
 rw[QaN z hr.1 (by omega)]at c1
 refine⟨⟨s,QyO z.toNat,K,P⟩,?_,?_⟩
 ·match cs,hl,c0,c1,hK,hP with
  | a :: b :: r,hl,c0,c1,hK,hP=>
    have hrl:r.length=64:=by simpa using hl
    rw[QzG,QzG,Qzn]at hK
    rw[show (34:Nat)=32+1+1 from rfl,QzG,QzG,Qyx (by simp;omega)]at hP
    obtain rfl:a= .string s:=by simpa using c0
    obtain rfl:b=W64 (QyO z.toNat):=by simpa using c1
    rw[NC,←hK,←hP,QyV]
 ·have hb:xs[0].1= .lit (.string s.data.toList):=by rw[hx0]
  have:=Qlw (d:=xs[0].1) (l:=xs.map (·.1)) (Qzb.2 ⟨_,QzH _,rfl⟩)
  rw[hb]at this
  simp only[uptoBulk]at this ⊢
  have hsz:s.data.toList.length=s.size:=by simp
  show s.size≤_
  omega
end
end Go.Proofs.YtdhgpkdjdmlphaaGreat
