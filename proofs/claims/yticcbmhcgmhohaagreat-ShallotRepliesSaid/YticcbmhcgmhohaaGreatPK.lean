/-
  Lemmas for the last text of this claim (part 11 of 20).
-/
import Derived.ArgAppend
import Derived.BigQuiet
import Derived.BigRegion
import Derived.ChangeOld
import Derived.Deep.RegionWith
import Derived.DeepKeys4
import Derived.JoinedCond
import Derived.LaidMore
import Derived.Laws.Append
import Derived.Laws.BytesArg
import Derived.Laws.CopyOwn
import Derived.Laws.Externs
import Derived.Laws.IdiomStrings
import Derived.Laws.Tables
import Derived.Lib.AppendStr
import Derived.Lib.AppendZerosOnto
import Derived.Lib.Mul64
import Derived.Lib.SlBytesConst
import Derived.LoopN
import Derived.Maps.OwnSet
import Derived.OpenShut
import Derived.OrdersHeld
import Derived.ProofKit
import Derived.Shelf.Spec.BitsCarry
import Derived.ShutString
import Derived.Test.YticcbmhcgmhohaaGreatProg
import Derived.Test.YticcbmhcgmhohaaGreatRows
import Derived.WalkKit
import Derived.WalkLawsBesides
import Derived.WalkSpells
import Derived.Test.YticcbmhcgmhohaaGreatPI
open Nat renaming mod_eq_of_lt → QC1, mod_lt → QC8, mul_comm → QDD, mul_mod → QDX, pow_add → QD2, mod_mod → QD4, add_comm → QEB, zero_mod → QEO, add_mod → QEY
set_option linter.all false
namespace Go.Proofs.YticcbmhcgmhohaaGreat
namespace Ed
instance neP:NeZero P25:=⟨by decide⟩
abbrev Fp:=Fin P25
def toF (n:Nat):Fp:=Fin.ofNat P25 n
theorem Qb5 (n:Nat):(toF n).val=n%P25:=rfl
theorem QrX (a:Fp):toF a.val=a:=Fin.ext (QC1 a.isLt)
theorem QkH (n:Nat):toF (n%P25)=toF n:=Fin.ext (QD4 _ _)
theorem QxL (a b:Nat):toF (a+b)=toF a+toF b:=Fin.ext (by rw[Fin.val_add,Qb5,Qb5,Qb5,←QEY])
theorem Qkw (a b:Nat):toF (a*b)=toF a*toF b:=Fin.ext (by rw[Fin.val_mul,Qb5,Qb5,Qb5,←QDX])
theorem Qkj (a b:Nat):toF (fadd a b)=toF a+toF b:=by rw[fadd,QkH,QxL]
theorem Qgf (a b:Nat):toF (fmul a b)=toF a*toF b:=by rw[fmul,QkH,Qkw]
theorem Qkb (a b:Nat):toF (fsub a b)=toF a-toF b:=by
 rw[fsub,QkH]
 apply Fin.ext
 rw[Fin.sub_def,Qb5]
 show _=((P25-(toF b).val)+(toF a).val)%P25
 rw[Qb5,Qb5,QEB,Nat.add_mod_mod]
theorem Qf7:toF 0=0:=rfl
theorem QiA {a:Nat}:toF a=0↔a%P25=0:=by
 rw[←Qf7,Fin.ext_iff,Qb5,Qb5,QEO]
theorem QxX {a b:Nat} (h:toF a=toF b):a%P25=b%P25:=by
 rw[Fin.ext_iff,Qb5,Qb5]at h
 exact h
theorem Qiw {a:Fp} (h:a≠0):a.val%P25≠0:=by
 intro h0
 apply h
 rw[←QrX a]
 exact QiA.2 h0
def finv (a:Fp):Fp:=toF (pinv a.val)
theorem QaO {a:Fp} (h:a≠0):a*finv a=1:=by
 have h1:=Qvu a.val (Qiw h)
 have h2:toF (a.val*pinv a.val)=toF 1:=Fin.ext (by rw[Qb5,Qb5,h1];rfl)
 rw[Qkw,QrX]at h2
 exact h2
theorem QoT:(1:Fp)≠0:=by decide
theorem Qjy:(2:Fp)≠0:=by decide
theorem Qdi {a b:Fp} (h:a*b=0):a=0∨b=0:=by
 by_cases ha:a=0
 ·exact .inl ha
 ·have:=QaO ha
  right
  grobner
theorem QaU {a b:Fp} (ha:a≠0) (hb:b≠0):a*b≠0:=fun h=>(Qdi h).elim ha hb
theorem QeL {a b c:Fp} (hc:c≠0) (h:a*c=b*c):a=b:=by
 have:=QaO hc
 grobner
theorem QvY {a:Fp} (h:a*a=1):a=1∨a= -1:=by
 have:(a-1)*(a+1)=0:=by grobner
 rcases Qdi this with h|h
 ·left;grobner
 ·right;grobner
def fpow (a:Fp) (n:Nat):Fp:=toF (a.val^n)
theorem Qfx (a:Fp) (m n:Nat):fpow a (m+n)=fpow a m*fpow a n:=by rw[fpow,QD2,Qkw,fpow,fpow]
theorem Qu3 (a:Fp):fpow a 1=a:=by rw[fpow,Nat.pow_one,QrX]
theorem QcS (a b:Fp) (n:Nat):fpow (a*b) n=fpow a n*fpow b n:=by
 rw[fpow,fpow,fpow,←Qkw,←Nat.mul_pow]
 apply Fin.ext
 rw[Qb5,Qb5,Fin.val_mul,←Nat.pow_mod]
theorem Qh5 {a:Fp} (h:a≠0):fpow a (P25-1)=1:=Fin.ext (by rw[fpow,Qb5,Qwa _ (Qiw h)];rfl)
def isSq (a:Fp):Prop:=∃r:Fp,r*r=a
def Hp:Nat:=28948022309329048855892746252171976963317496166410141009864396001978282409974
def Qp:Nat:=14474011154664524427946373126085988481658748083205070504932198000989141204987
def Op:Nat:=7237005577332262213973186563042994240829374041602535252466099000494570602494
theorem Qrc {a:Fp} (h:a≠0):fpow a Hp=1∨fpow a Hp= -1:=by
 apply QvY
 rw[←Qfx,show Hp+Hp=P25-1 by decide]
 exact Qh5 h
theorem QqR {a:Fp} (h:a≠0) (hs:isSq a):fpow a Hp=1:=by
 obtain⟨r,rfl⟩:=hs
 have hr:r≠0:=by rintro rfl;exact h (by decide)
 rw[QcS,←Qfx,show Hp+Hp=P25-1 by decide]
 exact Qh5 hr
theorem Qrg {i:Fp} (hi:i*i= -1) {a:Fp} (h:fpow a Hp=1):isSq a:=by
 have h1:fpow a Qp*fpow a Qp=1:=by rw[←Qfx,show Qp+Qp=Hp by decide];exact h
 have h2:fpow a Op*fpow a Op=a*fpow a Qp:=by
  rw[←Qfx,show Op+Op=1+Qp by decide,Qfx,Qu3]
 rcases QvY h1 with h3|h3
 ·exact⟨fpow a Op,by rw[h2,h3];grobner⟩
 ·exact⟨i*fpow a Op,by rw[h3]at h2;grobner⟩
def QgC (δ:Fp):Prop:=∀r:Fp,r*r≠δ
@[ext] structure Pt (δ:Fp) where
  x:Fp
  y:Fp
  on:x*x+y*y=1+δ*x*x*y*y
theorem Qiv {δ z w:Fp} (hδ:QgC δ) (h:w*w=δ*(z*z)):z=0:=by
 by_cases hz:z=0
 ·exact hz
 ·have:=QaO hz
  exact absurd (show (w*finv z)*(w*finv z)=δ by grobner) (hδ _)
theorem Qop {δ:Fp} (hδ:QgC δ) {x1 y1 x2 y2 ε:Fp} (h1:x1*x1+y1*y1=1+δ*x1*x1*y1*y1) (h2:x2*x2+y2*y2=1+δ*x2*x2*y2*y2)
 (ht:δ*x1*x2*y1*y2=ε) (he:ε*ε=1):False:=by
 have a1:(x1+ε*y1)*(x1+ε*y1)=δ*((x1*y1*(x2+y2))*(x1*y1*(x2+y2))):=by grobner
 have a2:(x1-ε*y1)*(x1-ε*y1)=δ*((x1*y1*(x2-y2))*(x1*y1*(x2-y2))):=by grobner
 have b1:=Qiv hδ a1
 have b2:=Qiv hδ a2
 have c:2*(x1*y1*x2)=0:=by grobner
 have hn:2*(x1*y1*x2)≠0:=by
  refine QaU Qjy ?_
  intro h0
  have:ε=0:=by rw[←ht];grobner
  rw[this]at he
  revert he
  decide
 exact hn c
section
variable {δ:Fp}
def tt (P Q:Pt δ):Fp:=δ*P.x*Q.x*P.y*Q.y
theorem Qgr (hδ:QgC δ) (P Q:Pt δ):1+tt P Q≠0:=fun h=>Qop hδ (ε:= -1) P.on Q.on (by unfold tt at h;grobner) (by decide)
theorem QfQ (hδ:QgC δ) (P Q:Pt δ):1-tt P Q≠0:=fun h=>Qop hδ (ε:=1) P.on Q.on (by unfold tt at h;grobner) (by decide)
theorem Qzk {x1 y1 x2 y2 i j:Fp} (h1:x1*x1+y1*y1=1+δ*x1*x1*y1*y1) (h2:x2*x2+y2*y2=1+δ*x2*x2*y2*y2)
 (hi:(1+δ*x1*x2*y1*y2)*i=1) (hj:(1-δ*x1*x2*y1*y2)*j=1):
 ((x1*y2+x2*y1)*i)*((x1*y2+x2*y1)*i)+((y1*y2-x1*x2)*j)*((y1*y2-x1*x2)*j)=1+δ*((x1*y2+x2*y1)*i)*((x1*y2+x2*y1)*i)*((y1*y2-x1*x2)*j)*((y1*y2-x1*x2)*j):=by
 have key:(x1*y2+x2*y1)*(x1*y2+x2*y1)*((1-δ*x1*x2*y1*y2)*(1-δ*x1*x2*y1*y2))+(y1*y2-x1*x2)*(y1*y2-x1*x2)*((1+δ*x1*x2*y1*y2)*(1+δ*x1*x2*y1*y2))
  = (1+δ*x1*x2*y1*y2)*(1+δ*x1*x2*y1*y2)*((1-δ*x1*x2*y1*y2)*(1-δ*x1*x2*y1*y2))+δ*((x1*y2+x2*y1)*(x1*y2+x2*y1))*((y1*y2-x1*x2)*(y1*y2-x1*x2)):=by grobner
 generalize x1*y2+x2*y1=X at *
 generalize y1*y2-x1*x2=Y at *
 generalize 1+δ*x1*x2*y1*y2=A at *
 generalize 1-δ*x1*x2*y1*y2=B at *
 have k2:(X*X*(B*B)+Y*Y*(A*A))*(i*i*(j*j))=(A*A*(B*B)+δ*(X*X)*(Y*Y))*(i*i*(j*j)):=by rw[key]
 have hi2:A*A*(i*i)=1:=by grobner
 have hj2:B*B*(j*j)=1:=by grobner
 clear key h1 h2 hi hj
 grobner
def Pt.add (hδ:QgC δ) (P Q:Pt δ):Pt δ:=
 ⟨(P.x*Q.y+Q.x*P.y)*finv (1+tt P Q),(P.y*Q.y-P.x*Q.x)*finv (1-tt P Q),Qzk P.on Q.on (QaO (Qgr hδ P Q)) (QaO (QfQ hδ P Q))⟩
variable (hδ:QgC δ)
theorem QiO (P Q:Pt δ):(P.add hδ Q).x*(1+tt P Q)=P.x*Q.y+Q.x*P.y:=by
 have:=QaO (Qgr hδ P Q)
 show (P.x*Q.y+Q.x*P.y)*finv (1+tt P Q)*(1+tt P Q)=_
 grobner
theorem Qgk (P Q:Pt δ):(P.add hδ Q).y*(1-tt P Q)=P.y*Q.y-P.x*Q.x:=by
 have:=QaO (QfQ hδ P Q)
 show (P.y*Q.y-P.x*Q.x)*finv (1-tt P Q)*(1-tt P Q)=_
 grobner
def Pt.zero:Pt δ:=⟨0,1,by grobner⟩
def Pt.neg (P:Pt δ):Pt δ:=⟨-P.x,P.y,by have:=P.on;grobner⟩
theorem Qlt (P Q:Pt δ):P.add hδ Q=Q.add hδ P:=by
 have ht:tt P Q=tt Q P:=by unfold tt;grobner
 apply Pt.ext
 ·apply QeL (Qgr hδ P Q)
  rw[QiO,ht,QiO]
  grobner
 ·apply QeL (QfQ hδ P Q)
  rw[Qgk,ht,Qgk]
  grobner
theorem Qgw (P:Pt δ):P.add hδ Pt.zero=P:=by
 have ht:tt P (Pt.zero)=0:=by unfold tt Pt.zero;grobner
 apply Pt.ext
 ·apply QeL (Qgr hδ P Pt.zero)
  rw[QiO,ht]
  simp only[Pt.zero]
  grobner
 ·apply QeL (QfQ hδ P Pt.zero)
  rw[Qgk,ht]
  simp only[Pt.zero]
  grobner
theorem Qu7 (P:Pt δ):P.add hδ P.neg=Pt.zero:=by
 have h:=P.on
 apply Pt.ext
 ·apply QeL (Qgr hδ P P.neg)
  rw[QiO]
  simp only[Pt.zero,Pt.neg]
  grobner
 ·apply QeL (QfQ hδ P P.neg)
  rw[Qgk]
  simp only[Pt.zero,Pt.neg,tt]
  grobner
end
theorem Qw9 {d x1 y1 x2 y2 x3 y3:Fp} (h1:x1*x1+y1*y1=1+d*x1*x1*y1*y1) (h2:x2*x2+y2*y2=1+d*x2*x2*y2*y2) (h3:x3*x3+y3*y3=1+d*x3*x3*y3*y3):
 ((x1*y2+x2*y1)*(1-d*x1*x2*y1*y2)*y3+(y1*y2-x1*x2)*(1+d*x1*x2*y1*y2)*x3)*((1+d*x2*x3*y2*y3)*(1-d*x2*x3*y2*y3)+d*x1*y1*(x2*y3+x3*y2)*(y2*y3-x2*x3))
 = (x1*(y2*y3-x2*x3)*(1+d*x2*x3*y2*y3)+y1*(x2*y3+x3*y2)*(1-d*x2*x3*y2*y3))*((1+d*x1*x2*y1*y2)*(1-d*x1*x2*y1*y2)+d*(x1*y2+x2*y1)*(y1*y2-x1*x2)*x3*y3):=by grobner
theorem Qyb {d x1 y1 x2 y2 x3 y3:Fp} (h1:x1*x1+y1*y1=1+d*x1*x1*y1*y1) (h2:x2*x2+y2*y2=1+d*x2*x2*y2*y2) (h3:x3*x3+y3*y3=1+d*x3*x3*y3*y3):
 ((y1*y2-x1*x2)*(1+d*x1*x2*y1*y2)*y3-(x1*y2+x2*y1)*(1-d*x1*x2*y1*y2)*x3)*((1+d*x2*x3*y2*y3)*(1-d*x2*x3*y2*y3)-d*x1*y1*(x2*y3+x3*y2)*(y2*y3-x2*x3))
 = (y1*(y2*y3-x2*x3)*(1+d*x2*x3*y2*y3)-x1*(x2*y3+x3*y2)*(1-d*x2*x3*y2*y3))*((1+d*x1*x2*y1*y2)*(1-d*x1*x2*y1*y2)-d*(x1*y2+x2*y1)*(y1*y2-x1*x2)*x3*y3):=by grobner
theorem QyU {L q X Y x3 y3 xa ya p m:Fp} (l:L*q=xa*y3+x3*ya) (h1:xa*p=X) (h2:ya*m=Y):L*(p*m*q)=X*m*y3+Y*p*x3:=by grobner
theorem QvU {L q X Y x3 y3 xa ya p m:Fp} (l:L*q=ya*y3-xa*x3) (h1:xa*p=X) (h2:ya*m=Y):L*(p*m*q)=Y*p*y3-X*m*x3:=by grobner
theorem Qzq {d X Y x3 y3 xa ya p m:Fp} (h1:xa*p=X) (h2:ya*m=Y):p*m*(1+d*xa*x3*ya*y3)=p*m+d*X*Y*x3*y3:=by grobner
theorem Qwx {d X Y x3 y3 xa ya p m:Fp} (h1:xa*p=X) (h2:ya*m=Y):p*m*(1-d*xa*x3*ya*y3)=p*m-d*X*Y*x3*y3:=by grobner
theorem QzV {L M d1 d2 n1 n2:Fp} (hd1:d1≠0) (hd2:d2≠0) (h1:L*d1=n1) (h2:M*d2=n2) (h:n1*d2=n2*d1):L=M:=by
 apply QeL (QaU hd1 hd2)
 clear hd1 hd2
 grobner
section
variable {δ:Fp} (hδ:QgC δ)
theorem Qji (P Q R:Pt δ):(P.add hδ Q).add hδ R=P.add hδ (Q.add hδ R):=by
 have a1:=QiO hδ P Q
 have a2:=Qgk hδ P Q
 have b1:=QiO hδ Q R
 have b2:=Qgk hδ Q R
 have ex:=Qw9 P.on Q.on R.on
 have ey:=Qyb P.on Q.on R.on
 apply Pt.ext
 ·refine QzV (QaU (QaU (Qgr hδ P Q) (QfQ hδ P Q)) (Qgr hδ (P.add hδ Q) R)) (QaU (QaU (Qgr hδ Q R) (QfQ hδ Q R)) (Qgr hδ P (Q.add hδ R)))
   (QyU (QiO hδ (P.add hδ Q) R) a1 a2) (QyU ((QiO hδ P (Q.add hδ R)).trans (show _=(Q.add hδ R).x*P.y+P.x*(Q.add hδ R).y by clear a1 a2 b1 b2 ex ey;grobner)) b1 b2) ?_
  rw[show (1+tt P Q)*(1-tt P Q)*(1+tt (P.add hδ Q) R)=_ from Qzq a1 a2,show (1+tt Q R)*(1-tt Q R)*(1+tt P (Q.add hδ R))=_ from (show _=(1+tt Q R)*(1-tt Q R)*(1+δ*(Q.add hδ R).x*P.x*(Q.add hδ R).y*P.y) by unfold tt;clear a1 a2 b1 b2 ex ey;grobner).trans (Qzq b1 b2)]
  clear a1 a2 b1 b2 ey
  simp only[tt]
  refine Eq.trans ?_ (ex.trans ?_)
  ·clear ex;grobner
  ·clear ex;grobner
 ·refine QzV (QaU (QaU (Qgr hδ P Q) (QfQ hδ P Q)) (QfQ hδ (P.add hδ Q) R)) (QaU (QaU (Qgr hδ Q R) (QfQ hδ Q R)) (QfQ hδ P (Q.add hδ R)))
   (QvU (Qgk hδ (P.add hδ Q) R) a1 a2) (QvU ((Qgk hδ P (Q.add hδ R)).trans (show _=(Q.add hδ R).y*P.y-(Q.add hδ R).x*P.x by clear a1 a2 b1 b2 ex ey;grobner)) b1 b2) ?_
  rw[show (1+tt P Q)*(1-tt P Q)*(1-tt (P.add hδ Q) R)=_ from Qwx a1 a2,show (1+tt Q R)*(1-tt Q R)*(1-tt P (Q.add hδ R))=_ from (show _=(1+tt Q R)*(1-tt Q R)*(1-δ*(Q.add hδ R).x*P.x*(Q.add hδ R).y*P.y) by unfold tt;clear a1 a2 b1 b2 ex ey;grobner).trans (Qwx b1 b2)]
  clear a1 a2 b1 b2 ex
  simp only[tt]
  refine Eq.trans ?_ (ey.trans ?_)
  ·clear ey;grobner
  ·clear ey;grobner
def Pt.mul (P:Pt δ):Nat→Pt δ
 | 0=>Pt.zero
 | n+1=>(Pt.mul P n).add hδ P
theorem Qlf (P:Pt δ):Pt.zero.add hδ P=P:=by rw[Qlt,Qgw]
theorem QdP (P:Pt δ) (m:Nat):∀n,P.mul hδ (m+n)=(P.mul hδ m).add hδ (P.mul hδ n)
 | 0=>by rw[Pt.mul,Qgw];rfl
 | n+1=>by
   show (P.mul hδ (m+n)).add hδ P=(P.mul hδ m).add hδ ((P.mul hδ n).add hδ P)
   rw[QdP P m n,Qji]
theorem Qhz (P:Pt δ):P.mul hδ 1=P:=Qlf hδ P
theorem Qga (P:Pt δ) (m:Nat):∀n,P.mul hδ (m*n)=(P.mul hδ m).mul hδ n
 | 0=>rfl
 | n+1=>by
   rw[Nat.mul_succ,QdP,Qga P m n]
   rfl
theorem QtK (P Q:Pt δ):(P.add hδ Q).add hδ Q.neg=P:=by rw[Qji,Qu7,Qgw]
end
def Par (s δ:Fp):Prop:=(s=1∧δ*121666=121665)∨(s= -1∧δ*121665=121666)
def Rep {δ:Fp} (s X Z:Fp) (P:Pt δ):Prop:=∃k:Fp,k≠0∧X=k*(1+P.y)∧Z=k*s*(1-P.y)
theorem Qhg {s δ:Fp} (h:Par s δ):s*s=1:=by
 rcases h with ⟨rfl,_⟩|⟨rfl,_⟩<;>grobner
section
variable {δ:Fp} (hδ:QgC δ)
include hδ in
theorem Qem (z:Fp):1-δ*z*z≠0:=by
 intro h
 have h1:(1:Fp)*1=δ*(z*z):=by grobner
 have:=Qiv hδ h1
 subst this
 revert h
 grobner
include hδ in
theorem Qin:1-δ≠0:=by
 have:=Qem hδ 1
 grobner
theorem QuM {δ x y y2 k X Z:Fp} (on:x*x+y*y=1+δ*x*x*y*y) (h:δ*121666=121665) (hy:y2*(1-δ*x*x*y*y)=y*y-x*x) (hX:X=k*(1+y)) (hZ:Z=k*1*(1-y)):
 (X+Z)*(X+Z)*((X-Z)*(X-Z))=8*k*k*k*k*121666*(1-δ*y*y)*(1-δ*x*x*y*y)*(1+y2)∧
 ((X+Z)*(X+Z)-(X-Z)*(X-Z))*((X+Z)*(X+Z)+121665*((X+Z)*(X+Z)-(X-Z)*(X-Z)))=8*k*k*k*k*121666*(1-δ*y*y)*(1-δ*x*x*y*y)*1*(1-y2):=by
 have e1:(X+Z)*(X+Z)=4*(k*k):=by rw[hX,hZ];clear on h hy hX hZ;grobner
 have e2:(X-Z)*(X-Z)=4*(k*k)*(y*y):=by rw[hX,hZ];clear on h hy hX hZ;grobner
 rw[e1,e2]
 clear hX hZ e1 e2
 constructor
 ·have:(1-δ*y*y)*((1-δ*x*x*y*y)*(1+y2))=2*(y*y)*(1-δ):=by clear h;grobner
  clear on hy
  grobner
 ·have:(1-δ*y*y)*((1-δ*x*x*y*y)*(1-y2))=2*(1-y*y)*(1-δ*y*y):=by clear h;grobner
  clear on hy
  grobner
theorem Qvs {δ x y y2 k X Z:Fp} (on:x*x+y*y=1+δ*x*x*y*y) (h:δ*121665=121666) (hy:y2*(1-δ*x*x*y*y)=y*y-x*x) (hX:X=k*(1+y)) (hZ:Z=k*(-1)*(1-y)):
 (X+Z)*(X+Z)*((X-Z)*(X-Z))= -8*k*k*k*k*121665*(1-δ*y*y)*(1-δ*x*x*y*y)*(1+y2)∧
 ((X+Z)*(X+Z)-(X-Z)*(X-Z))*((X+Z)*(X+Z)+121665*((X+Z)*(X+Z)-(X-Z)*(X-Z)))= -8*k*k*k*k*121665*(1-δ*y*y)*(1-δ*x*x*y*y)*(-1)*(1-y2):=by
 have e1:(X-Z)*(X-Z)=4*(k*k):=by rw[hX,hZ];clear on h hy hX hZ;grobner
 have e2:(X+Z)*(X+Z)=4*(k*k)*(y*y):=by rw[hX,hZ];clear on h hy hX hZ;grobner
 rw[e1,e2]
 clear hX hZ e1 e2
 constructor
 ·have:(1-δ*y*y)*((1-δ*x*x*y*y)*(1+y2))=2*(y*y)*(1-δ):=by clear h;grobner
  clear on hy
  grobner
 ·have:(1-δ*y*y)*((1-δ*x*x*y*y)*(1-y2))=2*(1-y*y)*(1-δ*y*y):=by clear h;grobner
  clear on hy
  grobner
theorem c8:(8:Fp)≠0:=by decide
theorem c8':(-8:Fp)≠0:=by decide
theorem c65:(121665:Fp)≠0:=by decide
theorem c66:(121666:Fp)≠0:=by decide
theorem QxG {s X Z:Fp} {P:Pt δ} (hp:Par s δ) (h:Rep s X Z P):
 Rep s ((X+Z)*(X+Z)*((X-Z)*(X-Z))) (((X+Z)*(X+Z)-(X-Z)*(X-Z))*((X+Z)*(X+Z)+121665*((X+Z)*(X+Z)-(X-Z)*(X-Z)))) (P.add hδ P):=by
 obtain⟨k,hk,hX,hZ⟩:=h
 have hy:=Qgk hδ P P
 have n1:1-δ*P.x*P.x*P.y*P.y≠0:=QfQ hδ P P
 have n2:=Qem hδ P.y
 rcases hp with ⟨rfl,hd⟩|⟨rfl,hd⟩
 ·obtain⟨a,b⟩:=QuM P.on hd (by simpa only[tt] using hy) hX hZ
  exact⟨_,QaU (QaU (QaU (QaU (QaU (QaU (QaU c8 hk) hk) hk) hk) c66) n2) n1,a,b⟩
 ·obtain⟨a,b⟩:=Qvs P.on hd (by simpa only[tt] using hy) hX hZ
  exact⟨_,QaU (QaU (QaU (QaU (QaU (QaU (QaU c8' hk) hk) hk) hk) c65) n2) n1,a,b⟩
theorem QwM {δ x2 y2 x3 y3 yp ym:Fp} (on2:x2*x2+y2*y2=1+δ*x2*x2*y2*y2) (on3:x3*x3+y3*y3=1+δ*x3*x3*y3*y3)
 (hp:yp*(1-δ*x2*x3*y2*y3)=y2*y3-x2*x3) (hm:ym*(1+δ*x2*x3*y2*y3)=y2*y3+x2*x3):
 (y2+y3)*(y2+y3)*((1-δ)*(1-δ*(y2*y3)*(y2*y3)))=(1+yp)*(1+ym)*((1-δ*x2*x3*y2*y3)*(1+δ*x2*x3*y2*y3)*(1-δ*y2*y2)*(1-δ*y3*y3))∧
 (y2-y3)*(y2-y3)*((1-δ)*(1-δ*(y2*y3)*(y2*y3)))=(1-yp)*(1-ym)*((1-δ*x2*x3*y2*y3)*(1+δ*x2*x3*y2*y3)*(1-δ*y2*y2)*(1-δ*y3*y3)):=by
 have u2:x2*x2*(1-δ*y2*y2)=1-y2*y2:=by clear on3 hp hm;grobner
 have u3:x3*x3*(1-δ*y3*y3)=1-y3*y3:=by clear u2 on2 hp hm;grobner
 have p1:(1+yp)*(1-δ*x2*x3*y2*y3)=(1-δ*x2*x3*y2*y3)+(y2*y3-x2*x3):=by clear on2 on3 hm u2 u3;grobner
 have m1:(1+ym)*(1+δ*x2*x3*y2*y3)=(1+δ*x2*x3*y2*y3)+(y2*y3+x2*x3):=by clear on2 on3 u2 u3 hp;grobner
 have p2:(1-yp)*(1-δ*x2*x3*y2*y3)=(1-δ*x2*x3*y2*y3)-(y2*y3-x2*x3):=by clear on2 on3 hm u2 u3;grobner
 have m2:(1-ym)*(1+δ*x2*x3*y2*y3)=(1+δ*x2*x3*y2*y3)-(y2*y3+x2*x3):=by clear on2 on3 u2 u3 hp;grobner
 clear on2 on3 hp hm
 constructor
 ·have:(1+yp)*(1+ym)*((1-δ*x2*x3*y2*y3)*(1+δ*x2*x3*y2*y3)*(1-δ*y2*y2)*(1-δ*y3*y3))=((1+yp)*(1-δ*x2*x3*y2*y3))*((1+ym)*(1+δ*x2*x3*y2*y3))*((1-δ*y2*y2)*(1-δ*y3*y3)):=by clear u2 u3 p1 m1 p2 m2;grobner
  rw[this,p1,m1]
  clear this p1 m1 p2 m2
  grobner
 ·have:(1-yp)*(1-ym)*((1-δ*x2*x3*y2*y3)*(1+δ*x2*x3*y2*y3)*(1-δ*y2*y2)*(1-δ*y3*y3))=((1-yp)*(1-δ*x2*x3*y2*y3))*((1-ym)*(1+δ*x2*x3*y2*y3))*((1-δ*y2*y2)*(1-δ*y3*y3)):=by clear u2 u3 p1 m1 p2 m2;grobner
  rw[this,p2,m2]
  clear this p1 m1 p2 m2
  grobner
theorem QuT {s k2 k3 y2 y3 yp ym x1 D E X2 Z2 X3 Z3 w:Fp} (hs:s*s=1) (hx:x1*(1-ym)=s*(1+ym)) (a:(y2+y3)*(y2+y3)*D=(1+yp)*(1+ym)*E) (b:(y2-y3)*(y2-y3)*D=(1-yp)*(1-ym)*E) (hw:D*w=1)
 (hX2:X2=k2*(1+y2)) (hZ2:Z2=k2*s*(1-y2)) (hX3:X3=k3*(1+y3)) (hZ3:Z3=k3*s*(1-y3)):
 ((X3-Z3)*(X2+Z2)+(X3+Z3)*(X2-Z2))*((X3-Z3)*(X2+Z2)+(X3+Z3)*(X2-Z2))=16*k2*k2*k3*k3*E*w*(1+ym)*(1+yp)∧
 x1*(((X3-Z3)*(X2+Z2)-(X3+Z3)*(X2-Z2))*((X3-Z3)*(X2+Z2)-(X3+Z3)*(X2-Z2)))=16*k2*k2*k3*k3*E*w*(1+ym)*s*(1-yp):=by
 have e1:(X3-Z3)*(X2+Z2)+(X3+Z3)*(X2-Z2)=4*(k2*k3)*(y2+y3):=by rw[hX2,hX3,hZ2,hZ3];clear a b hx hw hX2 hX3 hZ2 hZ3;grobner
 have e2:(X3-Z3)*(X2+Z2)-(X3+Z3)*(X2-Z2)= -4*s*(k2*k3)*(y2-y3):=by rw[hX2,hX3,hZ2,hZ3];clear a b hx hw hX2 hX3 hZ2 hZ3;grobner
 rw[e1,e2]
 clear hX2 hX3 hZ2 hZ3 e1 e2
 have a':(y2+y3)*(y2+y3)=(1+yp)*(1+ym)*E*w:=by
  have:(y2+y3)*(y2+y3)*(D*w)=(1+yp)*(1+ym)*E*w:=by clear b hx hs hw;grobner
  rw[hw]at this
  clear a b hx hs hw
  grobner
 have b':(y2-y3)*(y2-y3)=(1-yp)*(1-ym)*E*w:=by
  have:(y2-y3)*(y2-y3)*(D*w)=(1-yp)*(1-ym)*E*w:=by clear a hx hs hw;grobner
  rw[hw]at this
  clear a b hx hs hw
  grobner
 clear a b hw
 constructor
 ·clear b' hx
  grobner
 ·clear a'
  have:x1*((y2-y3)*(y2-y3))=s*(1+ym)*((1-yp)*E*w):=by rw[b',←hx];clear b' hs hx;grobner
  clear b' hx
  grobner
theorem c16:(16:Fp)≠0:=by decide
theorem QxB {s X2 Z2 X3 Z3 x1 ym:Fp} {P Q:Pt δ} (hp:Par s δ) (h2:Rep s X2 Z2 P) (h3:Rep s X3 Z3 Q) (hm:(Q.add hδ P.neg).y=ym) (hx:x1*(1-ym)=s*(1+ym)) (hym:1+ym≠0):
 Rep s (((X3-Z3)*(X2+Z2)+(X3+Z3)*(X2-Z2))*((X3-Z3)*(X2+Z2)+(X3+Z3)*(X2-Z2))) (x1*(((X3-Z3)*(X2+Z2)-(X3+Z3)*(X2-Z2))*((X3-Z3)*(X2+Z2)-(X3+Z3)*(X2-Z2)))) (P.add hδ Q):=by
 obtain⟨k2,hk2,hX2,hZ2⟩:=h2
 obtain⟨k3,hk3,hX3,hZ3⟩:=h3
 have hy:=Qgk hδ P Q
 have hy':=Qgk hδ Q P.neg
 rw[hm]at hy'
 have ne1:1-δ*P.x*Q.x*P.y*Q.y≠0:=QfQ hδ P Q
 have ne2:1+δ*P.x*Q.x*P.y*Q.y≠0:=Qgr hδ P Q
 obtain⟨a,b⟩:=QwM P.on Q.on (by simpa only[tt] using hy) (ym:=ym) (by simp only[tt,Pt.neg]at hy';clear hX2 hX3 hZ2 hZ3 hy hm hx hk2 hk3 ne1 ne2 hym;grobner)
 have hD:(1-δ)*(1-δ*(P.y*Q.y)*(P.y*Q.y))≠0:=QaU (Qin hδ) (Qem hδ _)
 obtain⟨c,d⟩:=QuT (Qhg hp) hx a b (QaO hD) hX2 hZ2 hX3 hZ3
 refine⟨_,?_,c,d⟩
 refine QaU (QaU (QaU (QaU (QaU (QaU (QaU c16 hk2) hk2) hk3) hk3) (QaU (QaU (QaU ne1 ne2) (Qem hδ _)) (Qem hδ _))) ?_) hym
 intro h0
 have:=QaO hD
 rw[h0]at this
 revert this
 grobner
end
theorem Qy4:toF 121665=121665:=rfl
section
variable {δ:Fp} (hδ:QgC δ)
def LRep (s:Fp) (l:Lad) (P Q:Pt δ):Prop:=Rep s (toF l.x2) (toF l.z2) P∧Rep s (toF l.x3) (toF l.z3) Q
theorem QoE {s ym:Fp} {x1:Nat} {l:Lad} {P Q:Pt δ} (hp:Par s δ) (h:LRep s l P Q) (hm:(Q.add hδ P.neg).y=ym) (hx:toF x1*(1-ym)=s*(1+ym)) (hym:1+ym≠0):
 LRep s (l.step x1) (P.add hδ P) (P.add hδ Q):=by
 have a:=QxG hδ hp h.1
 have b:=QxB hδ hp h.1 h.2 hm hx hym
 refine⟨?_,?_⟩
 ·simpa only[Lad.step,Qgf,Qkj,Qkb,Qy4] using a
 ·simpa only[Lad.step,Qgf,Qkj,Qkb] using b
theorem QpY (P Q:Pt δ):(Q.add hδ P.neg).y=(P.add hδ Q.neg).y:=by
 have a:=Qgk hδ Q P.neg
 have b:=Qgk hδ P Q.neg
 have n:=QfQ hδ Q P.neg
 apply QeL n
 rw[a]
 have e:tt Q P.neg=tt P Q.neg:=by simp only[tt,Pt.neg];clear a b n;grobner
 rw[e,b]
 simp only[Pt.neg]
 clear a b n e
 grobner
def kval (K:List UInt8):Nat→Nat
 | 0=>0
 | j+1=>2*kval K j+(kbit K (254-j)).toNat
theorem QoC (G:Pt δ) (n:Nat):((G.mul hδ (n+1)).add hδ (G.mul hδ n).neg)=G:=by
 show (((G.mul hδ n).add hδ G).add hδ (G.mul hδ n).neg)=G
 rw[Qlt hδ (G.mul hδ n) G,QtK]
theorem Qtv {s:Fp} {x1:Nat} {G:Pt δ} (hp:Par s δ) (hx:toF x1*(1-G.y)=s*(1+G.y)) (hy:1+G.y≠0) (K:List UInt8):
 ∀j,LRep s (Lad.at x1 K j) (G.mul hδ (kval K j)) (G.mul hδ (kval K j+1))
 | 0=>by
   have hs:=Qhg hp
   have hy1:1-G.y≠0:=by
    intro h0
    rw[h0]at hx
    have:s*(s*(1+G.y))=0:=by rw[←hx];clear hx hs hp hy;grobner
    have h1:1+G.y=0:=by clear hx hp h0 hy;grobner
    exact hy h1
   refine⟨⟨finv 2,?_,?_,?_⟩,⟨s*finv (1-G.y),?_,?_,?_⟩⟩
   ·intro h0
    have:=QaO Qjy
    rw[h0]at this
    revert this
    decide
   ·have:=QaO Qjy
    show (1:Fp)=finv 2*(1+1)
    grobner
   ·show (0:Fp)=finv 2*s*(1-1)
    grobner
   ·intro h0
    have:=QaO hy1
    have:s*s=0:=by
     have h1:s*(s*finv (1-G.y))=0:=by rw[h0];clear h0 this hs hx hp hy;grobner
     clear hx hp hy h0
     grobner
    rw[hs]at this
    exact QoT this
   ·rw[show G.mul hδ (kval K 0+1)=G from Qhz hδ G]
    show toF x1=_
    have:=QaO hy1
    clear hp hy hy1
    grobner
   ·rw[show G.mul hδ (kval K 0+1)=G from Qhz hδ G]
    show (1:Fp)=_
    have:=QaO hy1
    clear hp hy hy1 hx
    grobner
 | j+1=>by
   have ih:=Qtv hp hx hy K j
   have hsub:((G.mul hδ (kval K j+1)).add hδ (G.mul hδ (kval K j)).neg).y=G.y:=by rw[QoC]
   have hsub':((G.mul hδ (kval K j)).add hδ (G.mul hδ (kval K j+1)).neg).y=G.y:=by rw[QpY,QoC]
   have e0:kval K (j+1)=2*kval K j+(kbit K (254-j)).toNat:=rfl
   rw[e0]
   show LRep s (Lad.round x1 (kbit K (254-j)) (Lad.at x1 K j)) _ _
   generalize kval K j=n at *
   cases kbit K (254-j)
   ·have:=QoE hδ hp ih hsub hx hy
    rw[←QdP,←QdP]at this
    rw[show 2*n+false.toNat=n+n by simp;omega,show n+n+1=n+(n+1) by omega]
    exact this
   ·have:=QoE hδ hp (show LRep s (Lad.at x1 K j).swap (G.mul hδ (n+1)) (G.mul hδ n) from ⟨ih.2,ih.1⟩) hsub' hx hy
    rw[←QdP,←QdP]at this
    rw[show 2*n+true.toNat=n+1+n by simp;omega,show n+1+n+1=n+1+(n+1) by omega]
    exact⟨this.2,this.1⟩
def Pt.u (s:Fp) (Q:Pt δ):Fp:=if 1-Q.y=0 then 0 else s*(1+Q.y)*finv (1-Q.y)
theorem QBu {x y d:Fp} (h:x=0) (on:x*x+y*y=1+d*x*x*y*y):(1+y)*(1-y)=0:=by grobner
theorem QBv {a b:Fp} (h:a=0) (k:b=0) (y z t:Fp):a*y+b*z=0*t:=by grobner
theorem Qwy {c d i r:Fp} (h:r*r=c*i) (hi:d*i=1):d*r*(d*r)=c*d:=by grobner
theorem QCg {u a:Fp} (h:u*u+a*u+1=0):(2*u+a)*(2*u+a)=a*a-4:=by grobner
theorem Qzl {u a:Fp} (h:u+1=0):u*(u*u+a*u+1)=a-2:=by grobner
theorem Qy3 {u a:Fp} (h:u-1=0):u*(u*u+a*u+1)=a+2:=by grobner
theorem Qk4 {a:Nat} (ha:a=0) (n m:Nat) (h:0<n):a^n%m=0:=by rw[ha,Nat.zero_pow h,QEO]
theorem Qrj (a:Nat) (ha:a=0):pinv a=0:=Qk4 ha _ _ (by unfold P25;omega)
theorem QkP:finv 0=0:=by
 unfold finv
 rw[Qrj _ (show (0:Fp).val=0 from rfl)]
 rfl
theorem Qow (n:Nat):toF (pinv n)=finv (toF n):=by
 show toF (n^(P25-2)%P25)=toF ((n%P25)^(P25-2)%P25)
 rw[←Nat.pow_mod]
theorem QBo {s X Z:Fp} {Q:Pt δ} (hp:Par s δ) (h:Rep s X Z Q):X*finv Z=Q.u s:=by
 obtain⟨k,hk,hX,hZ⟩:=h
 have hs:=Qhg hp
 unfold Pt.u
 split
 ·rename_i h0
  rw[h0]at hZ
  have:Z=0:=by rw[hZ];clear hs hp hX hZ h0;grobner
  rw[this,QkP]
  clear hs hp hX hZ h0 this
  grobner
 ·rename_i h0
  have hsn:s≠0:=by rintro rfl;revert hs;decide
  have hz:Z≠0:=by rw[hZ];exact QaU (QaU hk hsn) h0
  have i1:=QaO hz
  have i2:=QaO h0
  have i3:=QaO hk
  apply QeL hz
  have e1:X*finv Z*Z=X:=by clear hX hZ hs hp i2 i3;grobner
  have e2:s*(1+Q.y)*finv (1-Q.y)*Z=k*(1+Q.y):=by rw[hZ];clear hX hZ hp i1 i3 e1;grobner
  rw[e1,e2,hX]
def multN (x1:Nat) (K:List UInt8):Nat:=fmul (Lad.at x1 K 255).x2 (pinv (Lad.at x1 K 255).z2)
theorem QnS {s:Fp} {x1:Nat} {G:Pt δ} (hp:Par s δ) (hx:toF x1*(1-G.y)=s*(1+G.y)) (hy:1+G.y≠0) (K:List UInt8):
 toF (multN x1 K)=(G.mul hδ (kval K 255)).u s:=by
 rw[multN,Qgf,Qow]
 exact QBo hp (Qtv hδ hp hx hy K 255).1
include hδ in
theorem Qsk {s:Fp} (hp:Par s δ) {Q:Pt δ}:Q.u s=0↔Q.x=0:=by
 have hs:=Qhg hp
 have hsn:s≠0:=by rintro rfl;revert hs;decide
 have on:=Q.on
 unfold Pt.u
 constructor
 ·intro h
  have hy:Q.y*Q.y=1:=by
   split at h
   ·rename_i h0
    clear h on hs hp hsn
    grobner
   ·rename_i h0
    have hf:finv (1-Q.y)≠0:=by
     intro h1
     have:=QaO h0
     rw[h1]at this
     clear h on hs hp
     have h2:(1:Fp)=0:=by grobner
     exact QoT h2
    rcases Qdi h with h1|h1
    ·rcases Qdi h1 with h2|h2
     ·exact absurd h2 hsn
     ·clear h h1 on hs hp hsn hf
      grobner
    ·exact absurd h1 hf
  have:Q.x*Q.x*(1-δ)=0:=by clear h hs hp hsn;grobner
  rcases Qdi this with h1|h1
  ·exact (Qdi h1).elim id id
  ·exact absurd h1 (Qin hδ)
 ·intro h
  have:(1+Q.y)*(1-Q.y)=0:=QBu h on
  rcases Qdi this with h1|h1
  ·split
   ·rfl
   ·rw[h1]
    clear this on hs hp hsn h h1
    grobner
  ·rw[if_pos h1]
theorem QoN {Q:Pt δ} (h:Q.x=0):∀n,(Q.mul hδ n).x=0
 | 0=>rfl
 | n+1=>by
   have ih:=QoN h n
   apply QeL (Qgr hδ (Q.mul hδ n) Q)
   exact (QiO hδ (Q.mul hδ n) Q).trans (QBv ih h _ _ _)
theorem QvV {s:Fp} (hp:Par s δ) {Q:Pt δ} (h:Q.u s≠0):Q.u s*(1-Q.y)=s*(1+Q.y)∧1+Q.y≠0:=by
 have hs:=Qhg hp
 unfold Pt.u at h ⊢
 split at h
 ·exact absurd rfl h
 ·rename_i h0
  have:=QaO h0
  rw[if_neg h0]
  refine⟨by clear h hs hp;grobner,fun h1=>h ?_⟩
  rw[h1]
  clear h hs hp this
  grobner
end
theorem QhE (a:Fp) (n:Nat) (h:n<2^256):fpow a n=toF (pwm P25 256 a.val n):=by rw[Qoh P25 256 a.val n h,QkH];rfl
theorem h66:fpow 121666 Hp=1:=by rw[QhE _ _ (by decide)];decide +kernel
theorem h65:fpow 121665 Hp= -1:=by rw[QhE _ _ (by decide)];decide +kernel
theorem h2:fpow 2 Hp= -1:=by rw[QhE _ _ (by decide)];decide +kernel
theorem h4:fpow 4 Hp=1:=by rw[QhE _ _ (by decide)];decide +kernel
theorem hm1:(1:Fp)≠ -1:=by decide
theorem Qjr (r:Fp):r*r≠121665*121666:=by
 intro h
 have h0:(121665*121666:Fp)≠0:=QaU c65 c66
 have:=QqR h0 ⟨r,h⟩
 rw[QcS,h65,h66]at this
 revert this
 decide
theorem Qyf:∃i:Fp,i*i= -1:=⟨fpow 2 Qp,by rw[←Qfx,show Qp+Qp=Hp by decide,h2]⟩
theorem QyI:QgC (121665*finv 121666):=by
 intro r h
 have:=QaO c66
 exact Qjr (121666*r) (Qwy h this)
theorem Qzg:QgC (121666*finv 121665):=by
 intro r h
 have:=QaO c65
 exact Qjr (121665*r) ((Qwy h this).trans (by decide))
theorem par1:Par 1 (121665*finv 121666):=.inl ⟨rfl,by have:=QaO c66;grobner⟩
theorem par2:Par (-1) (121666*finv 121665):=.inr ⟨rfl,by have:=QaO c65;grobner⟩
theorem Qyl (u:Fp):u*u+486662*u+1≠0:=by
 intro h
 have e:(2*u+486662)*(2*u+486662)=4*4*(121665*121666):=(QCg h).trans (by decide)
 have n0:(4*4*(121665*121666):Fp)≠0:=by decide
 have:=QqR n0 ⟨_,e⟩
 rw[QcS,QcS,QcS,h4,h65,h66]at this
 revert this
 decide
theorem Qw3 {u h m n r d:Fp} (hh:h=u*u+486662*u+1) (hn:h*n=1) (hm:(u+1)*m=1) (hr:r*r=121666*(u*h)) (hd:d*121666=121665):
 2*r*n*(2*r*n)+(u-1)*m*((u-1)*m)=1+d*(2*r*n)*(2*r*n)*((u-1)*m)*((u-1)*m):=by
 have ex:2*r*n*(2*r*n)=4*121666*u*n:=by clear hm hd hh;grobner
 have ex2:d*(2*r*n)*(2*r*n)=4*121665*u*n:=by clear hm hh hn hr;grobner
 rw[ex,ex2]
 have key:4*121666*u*((u+1)*(u+1))+(u-1)*(u-1)*h=h*((u+1)*(u+1))+4*121665*u*((u-1)*(u-1)):=by rw[hh];clear hn hm hr hd ex ex2 hh;grobner
 have k2:(4*121666*u*((u+1)*(u+1))+(u-1)*(u-1)*h)*(n*(m*m))=(h*((u+1)*(u+1))+4*121665*u*((u-1)*(u-1)))*(n*(m*m)):=by rw[key]
 have hm2:(u+1)*(u+1)*(m*m)=1:=by clear key k2 ex ex2 hn hr hd hh;grobner
 clear key ex ex2 hr hd hh
 generalize (u+1)*(u+1)=v at *
 clear hm
 grobner
theorem QwD {u h m n r d:Fp} (hh:h=u*u+486662*u+1) (hn:h*n=1) (hm:(u-1)*m=1) (hr:r*r=121665*(u*h)) (hd:d*121665=121666):
 2*r*n*(2*r*n)+(u+1)*m*((u+1)*m)=1+d*(2*r*n)*(2*r*n)*((u+1)*m)*((u+1)*m):=by
 have ex:2*r*n*(2*r*n)=4*121665*u*n:=by clear hm hd hh;grobner
 have ex2:d*(2*r*n)*(2*r*n)=4*121666*u*n:=by clear hm hh hn hr;grobner
 rw[ex,ex2]
 have key:4*121665*u*((u-1)*(u-1))+(u+1)*(u+1)*h=h*((u-1)*(u-1))+4*121666*u*((u+1)*(u+1)):=by rw[hh];clear hn hm hr hd ex ex2 hh;grobner
 have k2:(4*121665*u*((u-1)*(u-1))+(u+1)*(u+1)*h)*(n*(m*m))=(h*((u-1)*(u-1))+4*121666*u*((u+1)*(u+1)))*(n*(m*m)):=by rw[key]
 have hm2:(u-1)*(u-1)*(m*m)=1:=by clear key k2 ex ex2 hn hr hd hh;grobner
 clear key ex ex2 hr hd hh
 generalize (u-1)*(u-1)=v at *
 clear hm
 grobner
theorem Qml {u:Fp} (hu:u≠0):∃(s δ:Fp) (_:QgC δ) (_:Par s δ) (P:Pt δ),u*(1-P.y)=s*(1+P.y)∧1+P.y≠0:=by
 obtain⟨i,hi⟩:=Qyf
 have hq:=Qyl u
 have hg:u*(u*u+486662*u+1)≠0:=QaU hu hq
 have hn:=QaO hq
 rcases Qrc hg with h1|h1
 ·obtain⟨r,hr⟩:=Qrg hi (show fpow (121666*(u*(u*u+486662*u+1))) Hp=1 by rw[QcS,h66,h1];decide)
  have hu1:u+1≠0:=by
   intro h0
   have:u*(u*u+486662*u+1)=4*121665:=(Qzl h0).trans (by decide)
   rw[this,QcS,h4,h65]at h1
   revert h1
   decide
  have hm:=QaO hu1
  refine⟨1,_,QyI,par1,⟨_,_,Qw3 rfl hn hm hr (by have:=QaO c66;clear hr hm hn h1 hi;grobner)⟩,?_,?_⟩
  ·show u*(1-(u-1)*finv (u+1))=1*(1+(u-1)*finv (u+1))
   clear hr hn h1 hi
   grobner
  ·show 1+(u-1)*finv (u+1)≠0
   have e:1+(u-1)*finv (u+1)=2*u*finv (u+1):=by clear hr hn h1 hi;grobner
   rw[e]
   refine QaU (QaU Qjy hu) fun h0=>?_
   rw[h0]at hm
   exact QoT (by clear hr hn h1 hi e;grobner)
 ·obtain⟨r,hr⟩:=Qrg hi (show fpow (121665*(u*(u*u+486662*u+1))) Hp=1 by rw[QcS,h65,h1];decide)
  have hu1:u-1≠0:=by
   intro h0
   have:u*(u*u+486662*u+1)=4*121666:=(Qy3 h0).trans (by decide)
   rw[this,QcS,h4,h66]at h1
   revert h1
   decide
  have hm:=QaO hu1
  refine⟨-1,_,Qzg,par2,⟨_,_,QwD rfl hn hm hr (by have:=QaO c65;clear hr hm hn h1 hi;grobner)⟩,?_,?_⟩
  ·show u*(1-(u+1)*finv (u-1))= -1*(1+(u+1)*finv (u-1))
   clear hr hn h1 hi
   grobner
  ·show 1+(u+1)*finv (u-1)≠0
   have e:1+(u+1)*finv (u-1)=2*u*finv (u-1):=by clear hr hn h1 hi;grobner
   rw[e]
   refine QaU (QaU Qjy hu) fun h0=>?_
   rw[h0]at hm
   exact QoT (by clear hr hn h1 hi e;grobner)
theorem Qhu (x1:Nat) (K:List UInt8):multN x1 K<P25:=QC8 _ Qbd
theorem Qk1 {x1:Nat} (h:toF x1=0) (K:List UInt8):∀j,toF (Lad.at x1 K j).x2*toF (Lad.at x1 K j).z2=0∧toF (Lad.at x1 K j).x3*toF (Lad.at x1 K j).z3=0
 | 0=>⟨by show toF 1*toF 0=0;rw[Qf7];grobner,by show toF x1*toF 1=0;rw[h];grobner⟩
 | j+1=>by
   have st:∀l:Lad,toF l.x2*toF l.z2=0→toF (l.step x1).x2*toF (l.step x1).z2=0∧toF (l.step x1).x3*toF (l.step x1).z3=0:=by
    intro l hl
    simp only[Lad.step,Qgf,Qkj,Qkb,h]
    generalize toF l.x2=a at *
    generalize toF l.z2=b at *
    generalize toF l.x3=c at *
    generalize toF l.z3=d at *
    constructor
    ·have e:(a+b)*(a+b)-(a-b)*(a-b)=0:=by grobner
     rw[e]
     clear e hl
     grobner
    ·clear hl
     grobner
   have ih:=Qk1 h K j
   have e0:Lad.at x1 K (j+1)=Lad.round x1 (kbit K (254-j)) (Lad.at x1 K j):=rfl
   rw[e0]
   unfold Lad.round
   cases kbit K (254-j)
   ·exact st _ ih.1
   ·have:=st (Lad.at x1 K j).swap ih.2
    exact⟨this.2,this.1⟩
theorem QsQ {n:Nat} (hn:n<P25) (h:toF n=0):n=0:=by
 have:=QiA.1 h
 rwa [QC1 hn]at this
theorem Qde {x1:Nat} (h:toF x1=0) (K:List UInt8):multN x1 K=0:=by
 apply QsQ (Qhu _ _)
 rw[multN,Qgf,Qow]
 rcases Qdi (Qk1 h K 255).1 with h0|h0
 ·rw[h0]
  grobner
 ·rw[h0,QkP]
  grobner
theorem multN_comm (x1:Nat) (K L:List UInt8):multN (multN x1 K) L=multN (multN x1 L) K:=by
 by_cases h0:toF x1=0
 ·rw[Qde h0,Qde h0,Qde Qf7,Qde Qf7]
 ·obtain⟨s,δ,hδ,hp,G,hx,hy⟩:=Qml h0
  have half:∀K L,toF (multN (multN x1 K) L)=(G.mul hδ (kval K 255*kval L 255)).u s:=by
   intro K L
   have e1:=QnS hδ hp hx hy K
   rw[Qga]
   by_cases h1:toF (multN x1 K)=0
   ·rw[Qde h1]
    have h2:(G.mul hδ (kval K 255)).x=0:=(Qsk hδ hp).1 (by rw[←e1];exact h1)
    exact ((Qsk hδ hp).2 (QoN hδ h2 _)).symm
   ·have h2:(G.mul hδ (kval K 255)).u s≠0:=by rw[←e1];exact h1
    obtain⟨b1,b2⟩:=QvV hp h2
    exact QnS hδ hp (by rw[e1];exact b1) b2 L
  have:=(half K L).trans ((by rw[QDD]:_=_).trans (half L K).symm)
  have:=QxX this
  rwa [QC1 (Qhu _ _),QC1 (Qhu _ _)]at this
end Ed
end Go.Proofs.YticcbmhcgmhohaaGreat
