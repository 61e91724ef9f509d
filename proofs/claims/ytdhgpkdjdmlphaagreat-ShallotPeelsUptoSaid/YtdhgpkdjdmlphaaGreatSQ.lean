/-
  Lemmas for the last text of this claim (part 17 of 20).
-/
import Derived.ArgAppend
import Derived.BigQuiet
import Derived.BigRegion
import Derived.ChangeOld
import Derived.Deep.RegionWith
import Derived.DeepKeys4
import Derived.JoinedCond
import Derived.LaidMore
import Derived.Laws.BytesArg
import Derived.Laws.CopyOwn
import Derived.Laws.Externs
import Derived.Laws.IdiomStrings
import Derived.Laws.Tables
import Derived.Lib.AppendStr
import Derived.Lib.AppendZerosOnto
import Derived.Lib.Mul64
import Derived.Lib.SlBytesConst
import Derived.LoopN
import Derived.Maps.OwnSet
import Derived.OpenShut
import Derived.OrdersHeld
import Derived.ProofKit
import Derived.Shelf.Spec.BitsCarry
import Derived.ShutString
import Derived.Test.YtdhgpkdjdmlphaaGreatProg
import Derived.Test.YtdhgpkdjdmlphaaGreatRows
import Derived.WalkKit
import Derived.WalkLawsBesides
import Derived.WalkSpells
import Derived.Test.YtdhgpkdjdmlphaaGreatSB
import Derived.Test.YtdhgpkdjdmlphaaGreatSF
import Derived.Test.YtdhgpkdjdmlphaaGreatSL
import Derived.Test.YtdhgpkdjdmlphaaGreatSN
import Derived.Test.YtdhgpkdjdmlphaaGreatSP
open Array renaming replicate → QD2
open Bool renaming and_eq_true → QCZ
open List renaming replicate → QCC, getElem?_cons_succ → QCD, getElem?_cons_zero → QCE, length_map → QCG, getElem?_eq_getElem → QCH, nil_append → QCI, cons_append → QCJ, getD_eq_getElem?_getD → QCK, setIfInBounds_toArray → QCL, length_append → QCM, length_replicate → QCO, set_cons_zero → QCP, set_cons_succ → QCQ, getElem?_append_right → QCR, map_toArray → QCS, take_of_length_le → QCT, append_assoc → QCU, mem_cons → QCV, getElem?_eq_some_iff → QCX, getElem?_map → QCY, getElem?_append_left → QC0, map_nil → QC2, length_take → QC5, map_cons → QDa, take_succ_eq_append_getElem → QDd, set_append_right → QDe, append_nil → QDg, drop_left' → QDp, mem_map → QDu, getElem?_drop → QDN, all_cons → QDO, getElem_mem → QDS, take_left' → QDV, mem_append → QD7, singleton_append → QEd, mem_singleton → QEG, map_congr_left → QEM, getElem_of_mem → QEO
open Nat renaming le_refl → QCN, lt_of_lt_of_le → QC3, zero_add → QC6, le_trans → QDk, lt_of_le_of_lt → QDX, add_comm → QEF
open Option renaming toList_some → QCF, bind_some → QDU, map_eq_some_iff → QEb
open UInt32 renaming ofInt → QEk
open UInt8 renaming ofInt → QDh, toNat_inj → QDr, lt_iff_toNat_lt → QEr
set_option linter.all false
namespace Go.Proofs.YtdhgpkdjdmlphaaGreat
open Go.RowKit
section
variable {vs:List Vst} {b:List UInt8} (tk:Int)
end
def mulF (f:Nat→List UInt8→Nat):Nat→List (List UInt8)→Nat
 | q,[]=>q
 | q,s :: sc=>mulF f (f q s) sc
theorem Qk6 (f:Nat→List UInt8→Nat) (s:List UInt8):∀(sc:List (List UInt8)) (q:Nat),mulF f q (sc++[s])=f (mulF f q sc) s
 | [],_=>rfl
 | t :: sc,q=>Qk6 f s sc (f q t)
theorem Qmb (f:Nat→List UInt8→Nat) (hf:∀q a b,f (f q a) b=f (f q b) a) (p:List UInt8):∀(sc:List (List UInt8)) (q:Nat),mulF f (f q p) sc=f (mulF f q sc) p
 | [],_=>rfl
 | s :: sc,q=>by
   rw[mulF,mulF,hf,Qmb f hf p sc]
theorem QkI (f:Nat→List UInt8→Nat) (P:Nat→Prop) (hP:∀q s,P q→s.length=32→P (f q s)):∀(sc:List (List UInt8)) (q:Nat),P q→(∀ s∈sc,s.length=32)→P (mulF f q sc)
 | [],_,h,_=>h
 | s :: sc,q,h,hs=>QkI f P hP sc _ (hP q s h (hs s (by simp))) (fun t ht=>hs t (by simp[ht]))
theorem Qlv (f:Nat→List UInt8→Nat) (P:Nat→Prop) (hP:∀q s,P q→s.length=32→P (f q s)) (hB:∀q s,P q→s.length=32→Qbj s (nb q)=nb (f q s)) (hE:∀q s,P q→s.length=32→Qa2 s (nb q)=0):
 ∀(sc:List (List UInt8)) (q:Nat),P q→(∀ s∈sc,s.length=32)→Qek sc (nb q)=(nb (mulF f q sc),0)
 | [],_,_,_=>rfl
 | s :: sc,q,hq,hs=>by
   have h32:=hs s (by simp)
   rw[Qek,hE q s hq h32,hB q s hq h32,if_pos rfl,Qlv f P hP hB hE sc _ (hP q s hq h32) (fun t ht=>hs t (by simp[ht])),mulF]
def mS (q:Nat) (s:List UInt8):Nat:=Ed.multN q (QaO s)
theorem Qxv (q:Nat) (a b:List UInt8):mS (mS q a) b=mS (mS q b) a:=Ed.multN_comm q (QaO a) (QaO b)
theorem Qkv (q:Nat) (s:List UInt8) (h:Ed.From9 q) (hs:s.length=32):Ed.From9 (mS q s):=Ed.from9_step h s hs
theorem mS_B (q:Nat) (s:List UInt8) (h:Ed.From9 q) (hs:s.length=32):Qbj s (nb q)=nb (mS q s):=(QfB s q hs h.1).1
theorem mS_E (q:Nat) (s:List UInt8) (h:Ed.From9 q) (hs:s.length=32):Qa2 s (nb q)=0:=by
 rw[(QfB s q hs h.1).2,if_neg (Ed.from9_ne (Ed.from9_step h s hs))]
theorem Qm3 (q:Nat) (sc:List (List UInt8)) (hq:Ed.From9 q) (hs:∀s∈sc,s.length=32):QcA (nb q) sc=(nb (mulF mS q sc),0):=by
 have h:=Qlv mS Ed.From9 Qkv mS_B mS_E sc q hq hs
 have h2:=Qom q hq.1
 rw[QcA,if_pos ⟨QbR _,hs⟩,h2,h]
theorem QoB (x:List UInt8) (hx:x.length=32) (ps:List (List UInt8)):∀k,(stA x ps k).1=nb (mulF mS 9 (stA x ps k).2)
 | 0=>by
   have e1:(stA x ps 0).1=Qbj x (nb 9):=rfl
   have e2:(stA x ps 0).2=[x]:=rfl
   have e3:mulF mS 9 [x]=mS 9 x:=by rw[mulF,mulF]
   rw[e1,e2,e3]
   exact mS_B 9 x Ed.from9_nine hx
 | k+1=>by
   have h9:=QkI mS Ed.From9 Qkv (stA x ps k).2 9 Ed.from9_nine (Qfx x hx ps k)
   have ih:=QoB x hx ps k
   have e1:(stA x ps (k+1)).1=Qbj (derB (secA x ps k) Qcc) (stA x ps k).1:=rfl
   have e2:(stA x ps (k+1)).2=(stA x ps k).2++[derB (secA x ps k) Qcc]:=rfl
   have hl:=QaF (secA x ps k) Qcc
   rw[e1,e2]
   clear e1 e2
   generalize derB (secA x ps k) Qcc=bl at *
   generalize (stA x ps k).1=al at *
   generalize (stA x ps k).2=sc at *
   rw[ih,Qk6,mS_B _ bl h9 hl]
def Qcl (ks:List (List UInt8)):List (List UInt8):=ks.map fun p=>Qbj p (nb 9)
theorem Qny (ks:List (List UInt8)) (k:Nat) (h:k<ks.length):(Qcl ks).getD k []=Qbj (ks.getD k []) (nb 9):=by
 rw[Qcl,QCK,QCY,QCK,QCH h]
 rfl
theorem Qox (x:List UInt8) (hx:x.length=32) (ks:List (List UInt8)) (hk:∀p∈ks,p.length=32) (k:Nat) (h:k<ks.length):
 errA x (Qcl ks) k=0∧secA x (Qcl ks) k=Qbj (ks.getD k []) (stA x (Qcl ks) k).1∧Qa2 (ks.getD k []) (stA x (Qcl ks) k).1=0:=by
 have hp:(ks.getD k []).length=32:=hk _ (QdL ks k h)
 have hs:=Qfx x hx (Qcl ks) k
 have ha:=QoB x hx (Qcl ks) k
 have hpub:=Qny ks k h
 have e1:errA x (Qcl ks) k=(QcA ((Qcl ks).getD k []) (stA x (Qcl ks) k).2).2:=rfl
 have e2:secA x (Qcl ks) k=(QcA ((Qcl ks).getD k []) (stA x (Qcl ks) k).2).1:=rfl
 rw[e1,e2,hpub]
 clear e1 e2 hpub
 generalize (stA x (Qcl ks) k).1=al at *
 generalize (stA x (Qcl ks) k).2=sc at *
 generalize ks.getD k []=p at *
 have h9a:=QkI mS Ed.From9 Qkv sc 9 Ed.from9_nine hs
 have hc:=Qm3 (mS 9 p) sc (Qkv 9 p Ed.from9_nine hp) hs
 have hm:=Qmb mS Qxv p sc 9
 rw[mS_B 9 p Ed.from9_nine hp,hc,ha,mS_B _ p h9a hp,mS_E _ p h9a hp,hm]
 exact⟨rfl,rfl,rfl⟩
theorem QsI (x:List UInt8) (hx:x.length=32) (ks:List (List UInt8)) (hk:∀p∈ks,p.length=32) (k:Nat) (h:k<ks.length):
 Qb2 (ks.getD k []) (stA x (Qcl ks) k).1=Qcj x (Qcl ks) k:=by
 obtain⟨_,h2,h3⟩:=Qox x hx ks hk k h
 rw[Qb2,if_pos h3,Qcj,h2]
end Go.Proofs.YtdhgpkdjdmlphaaGreat
namespace Go.Proofs.YtdhgpkdjdmlphaaGreat
open Go.RowKit
open Go.BigFrame
def badH (h:Hp):Bool:=decide (h.delay<0)||decide (1000000<h.delay)||decide (h.flags<0)||decide (255<h.flags)
def QtI (c:Cmd):Bool:=decide (c.kd<2)||decide (4<c.kd)
def QeL (c:Cmd) (hs:List Hp):Nat:=
 if QtI c=true then 1 else if hs.any badH=true then 1 else if hs.length<1∨5<hs.length then 2 else if Qdn c=false then 3 else if (hs.drop 1).any (fun h=>h.nod.id==0)=true then 3 else 0
def QbS (c:Cmd) (hs:List Hp) (i:Nat):Cmd:=
 if i+1<hs.length then ⟨1,QDh (hs.getD i hp0).flags,QEk (hs.getD i hp0).delay,(hs.getD (i+1) hp0).nod.id,QbE⟩
 else ⟨c.kd,QDh (hs.getD i hp0).flags,QEk (hs.getD i hp0).delay,0,c.ma⟩
theorem Qte {h:Hp} (e:badH h=false):0≤h.delay∧h.delay≤1000000∧0≤h.flags∧h.flags≤255:=by
 simp only[badH,Bool.or_eq_false_iff,decide_eq_false_iff_not]at e
 omega
theorem QyT {hs:List Hp} {p:Hp→Bool} (h:hs.any p=false) {i:Nat} (hi:i<hs.length):p (hs.getD i hp0)=false:=by
 rw[List.any_eq_false]at h
 rw[QCK,QCH hi]
 simpa using h _ (QDS hi)
theorem QdB {c:Cmd} {hs:List Hp} (h:QeL c hs=0):QtI c=false∧hs.any badH=false∧1≤hs.length∧hs.length≤5∧Qdn c=true∧(hs.drop 1).any (fun h=>h.nod.id==0)=false:=by
 unfold QeL at h
 split at h
 ·cases h
 ·split at h
  ·cases h
  ·split at h
   ·cases h
   ·split at h
    ·cases h
    ·split at h
     ·cases h
     ·rename_i h1 h2 h3 h4 h5
      exact⟨by simpa using h1,by simpa using h2,by omega,by omega,by simpa using h4,by simpa using h5⟩
theorem Qkj {c:Cmd} {hs:List Hp} (h:QeL c hs=0) {i:Nat} (hi:i<hs.length):cmdE (QbS c hs i)=0∧((QbS c hs i).kd=1↔i+1<hs.length):=by
 obtain⟨h1,h2,_,_,h5,h6⟩:=QdB h
 have hb:=Qte (QyT h2 hi)
 have hd: ¬(1000000:UInt32)<QEk (hs.getD i hp0).delay:=by
  rw[UInt32.lt_iff_toNat_lt]
  have:=QgD (hs.getD i hp0).delay hb.1 (by omega)
  show ¬(1000000<(QEk (hs.getD i hp0).delay).toNat)
  omega
 have hkd:c.kd≠1∧ ¬(c.kd<1∨4<c.kd):=by
  simp only[QtI,Bool.or_eq_false_iff,decide_eq_false_iff_not,QEr]at h1
  rw[QEr,QEr,Ne,←QDr]
  have e1:(1:UInt8).toNat=1:=rfl
  have e2:(2:UInt8).toNat=2:=rfl
  have e4:(4:UInt8).toNat=4:=rfl
  omega
 unfold QbS
 by_cases hlt:i+1<hs.length
 ·rw[if_pos hlt]
  refine⟨?_,fun _=>hlt,fun _=>rfl⟩
  have hid:(hs.getD (i+1) hp0).nod.id≠0:=by
   rw[List.any_eq_false]at h6
   have:=h6 (hs.getD (i+1) hp0) (by
    rw[QCK,QCH hlt]
    rw[List.mem_iff_getElem?]
    exact⟨i,by rw[QDN,QEF 1 i,QCH hlt];rfl⟩)
   simpa using this
  unfold cmdE
  rw[if_neg (by
   show ¬((1:UInt8)<1∨4<(1:UInt8))
   decide),if_neg (by
   have h0:((hs.getD (i+1) hp0).nod.id != 0)=true:=by simpa using hid
   simp only[Qdn,h0,QbE]
   decide),if_neg hd]
 ·rw[if_neg hlt]
  refine⟨?_,fun e=>absurd e hkd.1,fun e=>absurd e hlt⟩
  have hs2:Qdn ⟨c.kd,QDh (hs.getD i hp0).flags,QEk (hs.getD i hp0).delay,0,c.ma⟩=true:=by
   have hk:=hkd.1
   simp only[Qdn]at h5 ⊢
   have e1:(c.kd==1)=false:=by simpa using hk
   rw[e1]at h5 ⊢
   cases hx:(c.nx != 0)
   ·rw[hx]at h5
    simpa using h5
   ·rw[hx]at h5
    simp at h5
  unfold cmdE
  rw[if_neg hkd.2,if_neg (by rw[hs2];decide),if_neg hd]
def seaA (n:Nat) (st:Nat→List UInt8) (body:List UInt8):Nat→List UInt8
 | 0=>body
 | j+1=>Qc2 (kPay (st (n-1-j))) (seaA n st body j) rsS
def pktA (n:Nat) (sl st:Nat→List UInt8) (body:List UInt8) (i:Nat):List UInt8:=hdrA n sl st (n-1-i)++seaA n st body (n-i)
theorem Qmq {st:Nat→List UInt8} (hst:∀k,(st k).length=192) (k:Nat) {bs:List UInt8} (hb:bs.length=480):QeZ (kPay (st k)) bs rsS=0:=
 Qfd okS ⟨Qam (by have:=hst k;omega),by omega,by omega⟩
theorem Qc1 {n:Nat} {st:Nat→List UInt8} {body:List UInt8} (hst:∀k,(st k).length=192) (hb:body.length=480):∀j,(seaA n st body j).length=480
 | 0=>hb
 | j+1=>by
   have ih:=Qc1 (n:=n) hst hb j
   rw[seaA,(QlE (Qmq hst _ ih)).1,ih]
theorem Qra {n:Nat} {st:Nat→List UInt8} {body:List UInt8} (hst:∀k,(st k).length=192) (hb:body.length=480) (j:Nat):Qc2 (kPay (st (n-1-j))) (seaA n st body (j+1)) rsO=seaA n st body j:=by
 have ih:=Qc1 (n:=n) hst hb j
 have:=(QlE (Qmq hst (n-1-j) ih)).2.2
 rw[show rsS.reverse=rsO by decide]at this
 rw[seaA]
 exact this
theorem Qda {s:List UInt8} (h:s.length=192):(kAlp s).length=32:=Qam (by omega)
section
variable {n:Nat} {sl st:Nat→List UInt8} (hn1:1≤n) (hn5:n≤5) (hsl:∀k,(sl k).length=32) (hst:∀k,(st k).length=192) {body:List UInt8} (hb:body.length=480)
include hn1 hn5 hsl hst hb
theorem QoY (i:Nat):(pktA n sl st body i).take 288=hdrA n sl st (n-1-i)∧(pktA n sl st body i).drop 288=seaA n st body (n-i)∧(pktA n sl st body i).length=768:=by
 have h1:=Qmv (st:=st) hn1 hn5 hsl (n-1-i) (Qda (hst _))
 have h2:=Qc1 (n:=n) hst hb (n-i)
 exact⟨QDV h1,QDp h1,by rw[pktA,QCM,h1,h2]⟩
theorem Qqr (i:Nat) (hi:i<n):(pktA n sl st body i).take 32=kAlp (st i):=by
 have _:=And.intro (hsl 0) hb
 rw[pktA,hdrA,QCU,QDV (Qda (hst _)),show n-1-(n-1-i)=i by omega]
theorem QpU (cs:Nat→Cmd) (hcs:∀k,sl k=encB (cs k)) (k:List UInt8) (i:Nat) (hi:i<n) (hpe:Qa2 k (kAlp (st i))=0) (hpb:Qb2 k (kAlp (st i))=st i) (hc:cmdE (cs i)=0) (hk:(cs i).kd=1↔i+1<n)
 (hnx:i+1<n→QmH (st i)=0∧Qi4 (st i)=kAlp (st (i+1))):
 unwE k (pktA n sl st body i)=0∧unwC k (pktA n sl st body i)=cs i∧unwP k (pktA n sl st body i)=(if i+1<n then pktA n sl st body (i+1) else QCC 768 0)∧unwB k (pktA n sl st body i)=(if i+1<n then [] else body):=by
 obtain⟨c1,c2,_⟩:=QoY (sl:=sl) hn1 hn5 hsl hst hb i
 have ha:=Qqr (sl:=sl) hn1 hn5 hsl hst hb i hi
 have hj:n-1-(n-1-i)=i:=by omega
 have hfit:=Qw4 (st:=st) hn1 hn5 hsl (n-1-i) (Qda (hst _))
 rw[hj]at hfit
 have hpl:(Qcv (hdrA n sl st (n-1-i)) (st i)).take 32=encB (cs i)∧(i+1<n→(Qcv (hdrA n sl st (n-1-i)) (st i)).drop 32=tagA n sl st (n-1-(i+1))++betA n sl st (n-1-(i+1))):=by
  by_cases hlt:i+1<n
  ·have h:=Qvq (st:=st) hn1 hn5 hsl (n-1-(i+1)) (by omega) (Qda (hst _))
   rw[show n-1-(i+1)+1=n-1-i by omega,hj]at h
   rw[h]
   exact⟨by rw[QDV (hsl _),hcs],fun _=>QDp (hsl _)⟩
  ·have h:=Que (st:=st) hn1 hn5 hsl (Qda (hst _))
   have hin:i=n-1:=by omega
   refine⟨?_,fun h=>absurd h hlt⟩
   rw[show n-1-i=0 by omega,hin,h,hcs]
 have hd:decE (encB (cs i))=0:=by rw[Qog,hc]
 have hdc:=QvB (cs i) hc
 have hE:Qhz (hdrA n sl st (n-1-i)) (st i)=0:=by
  rw[Qhz,hfit,if_neg (by decide),hpl.1,hd,if_neg (by decide),hdc]
  split
  ·rename_i h1
   exact (hnx (hk.1 h1)).1
  ·rfl
 have hC:Qkn (hdrA n sl st (n-1-i)) (st i)=cs i:=by rw[Qkn,if_pos hE,hpl.1,hdc]
 have hrE:relE (st i) (pktA n sl st body i)=0:=by rw[relE,c1,hE]
 have hrC:relC (st i) (pktA n sl st body i)=cs i:=by rw[relC,c1,hC]
 have hrB:Qdq (st i) (pktA n sl st body i)=seaA n st body (n-1-i):=by
  have:=Qra (n:=n) hst hb (n-1-i)
  rw[hj,show n-1-i+1=n-i by omega]at this
  rw[Qdq,c2,this]
 refine⟨by rw[unwE,ha,if_pos hpe,hpb,hrE],by rw[unwC,ha,if_pos hpe,hpb,hrC],?_,?_⟩
 ·rw[unwP,ha,if_pos hpe,hpb,relP,hrE,hrC]
  by_cases hlt:i+1<n
  ·rw[if_pos ⟨rfl,hk.2 hlt⟩,if_pos hlt,hrB,c1,QiY,if_pos ⟨hE,by rw[hpl.1,hdc];exact hk.2 hlt⟩,hpl.2 hlt,(hnx hlt).2,pktA,hdrA,show n-1-(n-1-(i+1))=i+1 by omega,show n-(i+1)=n-1-i by omega]
  ·rw[if_neg (fun h=>hlt (hk.1 h.2)),if_neg hlt]
 ·rw[unwB,ha,if_pos hpe,hpb,relB,hrE,hrC]
  by_cases hlt:i+1<n
  ·rw[if_neg (fun h=>h.2 (hk.2 hlt)),if_pos hlt]
  ·rw[if_pos ⟨rfl,fun h=>hlt (hk.1 h)⟩,if_neg hlt,hrB,show n-1-i=0 by omega,seaA]
end
def QbZ (l:List Nat):Nat:=l.foldl (fun a e=>if e≠0∧(a=0∨e<a) then e else a) 0
theorem Qfc:∀(l:List Nat) (a:Nat),l.foldl (fun a e=>if e≠0∧(a=0∨e<a) then e else a) a=0↔a=0∧∀e∈l,e=0
 | [],a=>by simp
 | e :: l,a=>by
   rw[List.foldl_cons,Qfc l]
   constructor
   ·rintro⟨h1,h2⟩
    split at h1
    ·rename_i h
     exact absurd h1 h.1
    ·rename_i h
     refine⟨h1,?_⟩
     intro e' he
     rcases QCV.1 he with rfl|he
     ·by_cases hz:e'=0
      ·exact hz
      ·exact absurd ⟨hz,.inl h1⟩ h
     ·exact h2 _ he
   ·rintro⟨rfl,h2⟩
    have he:=h2 e (by simp)
    exact⟨by rw[if_neg (fun h=>h.1 he)],fun e' h'=>h2 _ (by simp[h'])⟩
theorem QbM (l:List Nat):QbZ l=0↔∀e∈l,e=0:=by
 rw[QbZ,Qfc]
 simp
def pubH (hs:List Hp):List (List UInt8):=hs.map fun h=>h.nod.pub.val
noncomputable def Qce (x:List UInt8) (c:Cmd) (body:List UInt8) (hs:List Hp):Nat:=QbZ [QeL c hs,Qdr x (pubH hs),if body.length=480 then 0 else 2]
def QjH (x:List UInt8) (c:Cmd) (body:List UInt8) (hs:List Hp):List UInt8:=pktA hs.length (fun i=>encB (QbS c hs i)) (Qcj x (pubH hs)) body 0
def QcB (p:Prt):Cmd:=⟨if p.kd=2 then 3 else 2,0,0,0,QbE⟩
def frmE (p:Prt):Nat:=if prtE p=0∧p.kd=3 then 3 else prtE p
def QdP (p:Prt):List UInt8:=if frmE p=0 then Qbr p else QCC 480 0
noncomputable def Qgz (x:List UInt8) (p:Prt) (hs:List Hp):Nat:=QbZ [frmE p,Qce x (QcB p) (QdP p) hs]
def QmY (x:List UInt8) (p:Prt) (hs:List Hp):List UInt8:=QjH x (QcB p) (QdP p) hs
theorem Qo8 (x:List UInt8) (hx:x.length=32) (ps:List (List UInt8)) (k:Nat):QmH (Qcj x ps k)=0∧Qi4 (Qcj x ps k)=kAlp (Qcj x ps (k+1)):=by
 have h1:kBli (Qcj x ps k)=derB (secA x ps k) Qcc:=Qir x ps k
 have h2:kAlp (Qcj x ps k)=(stA x ps k).1:=QeP x ps k
 have h3:kAlp (Qcj x ps (k+1))=(stA x ps (k+1)).1:=QeP x ps (k+1)
 rw[QmH,Qi4,h1,h2,h3]
 exact⟨Qn5 x hx ps k _ (QaF _ _),rfl⟩
theorem Qxn {hs:List Hp} (h:∀i,i<hs.length→Qbj (hs.getD i hp0).nod.priv.val (nb 9)=(hs.getD i hp0).nod.pub.val):pubH hs=Qcl (hs.map fun h=>h.nod.priv.val):=by
 rw[pubH,Qcl,List.map_map]
 refine QEM fun h' hm=>?_
 obtain⟨i,hi,rfl⟩:=QEO hm
 have:=h i hi
 rw[QCK,QCH hi]at this
 exact this.symm
theorem Qlb (x:List UInt8) (c:Cmd) (body:List UInt8) (hs:List Hp) (he:Qce x c body hs=0) (hfit:∀i,i<hs.length→Qbj (hs.getD i hp0).nod.priv.val (nb 9)=(hs.getD i hp0).nod.pub.val) (i:Nat) (hi:i<hs.length):
 unwE (hs.getD i hp0).nod.priv.val (pktA hs.length (fun i=>encB (QbS c hs i)) (Qcj x (pubH hs)) body i)=0∧unwC (hs.getD i hp0).nod.priv.val (pktA hs.length (fun i=>encB (QbS c hs i)) (Qcj x (pubH hs)) body i)=QbS c hs i∧
 unwP (hs.getD i hp0).nod.priv.val (pktA hs.length (fun i=>encB (QbS c hs i)) (Qcj x (pubH hs)) body i)=(if i+1<hs.length then pktA hs.length (fun i=>encB (QbS c hs i)) (Qcj x (pubH hs)) body (i+1) else QCC 768 0)∧
 unwB (hs.getD i hp0).nod.priv.val (pktA hs.length (fun i=>encB (QbS c hs i)) (Qcj x (pubH hs)) body i)=(if i+1<hs.length then [] else body):=by
 rw[Qce,QbM]at he
 have h1:QeL c hs=0:=he _ (by simp)
 have h2:Qdr x (pubH hs)=0:=he _ (by simp)
 have h3:(if body.length=480 then 0 else 2)=0:=he _ (by simp)
 have hb:body.length=480:=by
  split at h3
  ·assumption
  ·cases h3
 obtain⟨_,_,h4,h5,_,_⟩:=QdB h1
 have hx:x.length=32:=by
  rw[Qdr]at h2
  split at h2
  ·rename_i h;exact h.1
  ·cases h2
 obtain⟨ks,hks⟩:∃ks,ks=hs.map fun h=>h.nod.priv.val:=⟨_,rfl⟩
 have hp:pubH hs=Qcl ks:=by rw[hks];exact Qxn hfit
 have hk32:∀p∈ks,p.length=32:=by
  intro p hpm
  rw[hks]at hpm
  obtain⟨h',_,rfl⟩:=QDu.1 hpm
  exact h'.nod.priv.2
 have hkl:ks.length=hs.length:=by rw[hks,QCG]
 have hkg:ks.getD i []=(hs.getD i hp0).nod.priv.val:=by
  rw[hks,QCK,QCY,QCK,QCH hi]
  rfl
 have m1:=QsI x hx ks hk32 i (by omega)
 have m2:=(Qox x hx ks hk32 i (by omega)).2.2
 rw[hkg]at m1 m2
 rw[hp]
 have ha:kAlp (Qcj x (Qcl ks) i)=(stA x (Qcl ks) i).1:=QeP x _ i
 exact QpU (sl:=fun i=>encB (QbS c hs i)) h4 h5 (fun _=>QcH _) (fun _=>Qco _ _ _) hb (QbS c hs) (fun _=>rfl) _ i hi (by rw[ha];exact m2) (by rw[ha];exact m1) (Qkj h1 hi).1 (Qkj h1 hi).2 (fun _=>Qo8 x hx _ i)
end Go.Proofs.YtdhgpkdjdmlphaaGreat
namespace Go.Proofs.YtdhgpkdjdmlphaaGreat
open Go.RowKit
structure Car where
 vs:List Vst
 bd:List UInt8
 tk:Int
 er:Nat
section
variable {xs:List Nod} {k:Nat} {id:UInt64} {tk:Int} {p:List UInt8} {vs:List Vst}
end
end Go.Proofs.YtdhgpkdjdmlphaaGreat
namespace Go.Proofs.YtdhgpkdjdmlphaaGreat
open Go.RowKit
open Go.BigFrame
def leM (a e:Nat):Nat:=if e≠0∧(a=0∨e<a) then e else a
theorem Qnc (es:List Nat) (k:Nat) (h:k<es.length):QbZ (es.take (k+1))=leM (QbZ (es.take k)) (es.getD k 0):=by
 rw[QbZ,QbZ,QDd h,List.foldl_append,QCK,QCH h]
 rfl
def eVM (e:Nat):Value:=.int .i64 (e:Int)
set_option maxRecDepth 100000 in
theorem Qft (A:Option Addr) (n c:Nat) (es:List Nat) (w:World) (hr:Rd w A n (es.map eVM)) (hn:n≤1048576):
 Calls Tryz.prog 8 #[.slice A n c] w fun e w'=>e= .returned (.int .i64 (QbZ es:Nat))∧Later w w':=by
 have hl:es.length=n:=by have:=hr.1;rwa [QCG]at this
 have hst:=hid (Qnc es)
 have h0:Hid (QbZ (es.take 0)=0):=hid rfl
 have hn':Hid (QbZ (es.take n)=QbZ es):=hid (by rw[QCT (by omega)])
 go_enter Tryz.func8,Tryz.ntmps8
 go_wp2_with fail
 go_loopw [3,8] (fun s i wr=>∃k:Nat,k≤n∧i= .int .i64 k∧s= .int .i64 (QbZ (es.take k):Nat)∧Later w wr) (fun _ i _=>n-(intOf i).toNat)
 case atStart=>exact⟨0,by omega,rfl,by rw[h0.out];rfl,Later.refl w⟩
 case round=>
  obtain⟨k,hk,rfl,rfl,L⟩:=hrel
  by_cases hlt:k<n
  ·obtain⟨b,o,rfl,hb,hc⟩:=(hr.later L).2 (by omega)
   have c1:wr.cell? ⟨b,o+k,none⟩=some (eVM (es.getD k 0)):=hc k _ (by rw[QCY,QCK,QCH (by omega)];rfl)
   have hS:=hst.out k (by omega)
   rw[eVM]at c1
   clear hc
   generalize es.getD k 0=x at *
   generalize QbZ (es.take k)=y at *
   replace hS:=hid hS
   by_cases e0:x=0
   ·have f1:((x:Int) != 0)=false:=by simp[e0]
    have hz:=hid (hS.out.trans (by rw[leM,if_neg (by simp[e0])]))
    clear e0
    go_wp2_with fail
    exact⟨⟨k+1,by omega,by go_num,by rw[hz.out],L⟩,by simp[intOf];omega⟩
   have f1:((x:Int) != 0)=true:=by simp[e0]
   by_cases e1:y=0
   ·have f2:((y:Int)==0)=true:=by simp[e1]
    have hz:=hid (hS.out.trans (by rw[leM,if_pos ⟨e0,.inl e1⟩]))
    clear e0 e1
    go_wp2_with fail
    exact⟨⟨k+1,by omega,by go_num,by rw[hz.out],L⟩,by simp[intOf];omega⟩
   have f2:((y:Int)==0)=false:=by simp[e1]
   by_cases e2:x<y
   ·have f3:decide ((x:Int)<(y:Int))=true:=decide_eq_true (by omega)
    have hz:=hid (hS.out.trans (by rw[leM,if_pos ⟨e0,.inr e2⟩]))
    clear e0 e1
    go_wp2_with fail
    exact⟨⟨k+1,by omega,by go_num,by rw[hz.out],L⟩,by simp[intOf];omega⟩
   ·have f3:decide ((x:Int)<(y:Int))=false:=decide_eq_false (by omega)
    have hz:=hid (hS.out.trans (by rw[leM,if_neg (fun h=>h.2.elim e1 e2)]))
    clear e0 e1
    go_wp2_with fail
    exact⟨⟨k+1,by omega,by go_num,by rw[hz.out],L⟩,by simp[intOf];omega⟩
  ·obtain rfl:k=n:=by omega
   rw[hn'.out]
   go_wp2_with fail
   go_ret
   exact⟨rfl,L⟩
set_option maxRecDepth 100000 in
theorem QpG (p:Prt) (A:Option Addr) (n c:Nat) (w:World) (hr:RdB w A n p.da) (hn:n≤1048576):
 Calls Tryz.prog 11 #[.agg (PaC p (.slice A n c)).toArray] w fun e w'=>∃A' c',e= .returned (.agg (PaC p (.slice A' n c')).toArray)∧OwnB w' w.heap.size A' n c' p.da∧Later w w':=by
 have B1:=Qba w 25 (PaC p (.slice A n c))
 have B2:Bag w ((w.alloc (.cells (PaC p (.slice A n c)).toArray 25)).alloc (.cells pz0.toArray 25)) [((w.alloc (.cells (PaC p (.slice A n c)).toArray 25)).heap.size,25,pz0),(w.heap.size,25,PaC p (.slice A n c))]:=
  B1.add (Qaa _ _) (by simp) (by simp) (Blk.new _ _ _)
 have d4:=(Qa5 (B2.nth 1 rfl)).2.2.2.2
 go_enter Tryz.func11,Tryz.ntmps11
 go_wp2_with fail
 refine (Qu1 A n c p.da _ (hr.later B2.lat) (by omega)).mono ?_
 rintro e w3 ⟨A3,c3,rfl,hown3,l3⟩
 have B3:=B2.later l3
 have hs2:((w.alloc (.cells (PaC p (.slice A n c)).toArray 25)).alloc (.cells pz0.toArray 25)).heap.size=w.heap.size+2:=by simp
 have hs1:(w.alloc (.cells (PaC p (.slice A n c)).toArray 25)).heap.size=w.heap.size+1:=by simp
 rw[hs2]at hown3
 go_wp2_with (first
  | (refine Qad rfl rfl _ _ _ rfl w.heap.size 4 _ _ (B3.nth 1 rfl) rfl (by rw[QaM];omega) rfl (by kernel_rfl) ?_;intro v4 w4 hv4 hb4 ho4;simp[go_sem]at hv4;subst hv4
     have hq4:=(B3.nth 0 rfl).only ho4 (by omega)
     rw[hs1]at hq4)
  | (refine QdK ?hw _ rfl (show Blk w4 w.heap.size 25 (PaC p (.slice A3 n c3)) from hb4) rfl ?_;(case hw=>rfl))
  | (refine Qbd (p:=p) (v:=.slice A3 n c3) rfl rfl _ _ rfl hq4 rfl rfl rfl rfl ?_;intro w5 hb5 ho5)
  | fail)
 have o4:=Qmh hown3 ho4 (fun k hk=>.inl (by simp only[Option.some.injEq]at hk;omega))
 have o5:=Qmh o4 ho5 (fun k hk=>.inl (by simp only[Option.some.injEq]at hk;omega))
 exact bodyPost_ret (QaP rfl _ _ _ _ _ _ hb5 rfl Tryz.underlying25 rfl (by rw[QaM];exact QcN)) rfl ⟨A3,c3,rfl,Qcu o5 (by omega),(B3.lat.only ho4 (QCN _)).only ho5 (by omega)⟩
structure Arw where
 ar:Arr
 va:Option Addr
 vn:Nat
 vc:Nat
section
variable {P:Program} {ops:Array Oper} {rest:List Oper} {o:Oper} {a:Act} {w:World} {Q:Exit→Act→World→Prop}
end
end Go.Proofs.YtdhgpkdjdmlphaaGreat
namespace Go.Proofs.YtdhgpkdjdmlphaaGreat
open Go.BigFrame
open Go.RowKit
section
variable {P:Program} {ops:Array Oper} {Q:Exit→Act→World→Prop} {T:World→Prop}
def wpS (P:Program) (ops:Array Oper) (Q:Exit→Act→World→Prop) (T:World→Prop):List (Nat×Bool)→Act→World→Prop
 | [],a,w=>Q .normal a w
 | (i,true) :: r,a,w=>∃o,ops[i]?=some o∧if Region.wanted o (yielded ops a.tmps) then o.quiet P a T (fun a'=>wpS P ops Q T r a' w) else wpS P ops Q T r (a.put o.dst undef) w
 | (i,false) :: r,a,w=>wpOp P ops Q i (fun a' w'=>T w'∧wpS P ops Q T r a' w') a w
def QmO (ops:Array Oper):List (Nat×Bool)→Array Bool→Bool
 | [],listed=>(Region.ready .any ops listed).isEmpty
 | (i,true) :: r,listed=>(Region.ready .any ops listed).contains i&&Region.free .any ops listed i&&((ops[i]?).map calm).getD false&&QmO ops r (listed.setIfInBounds i true)
 | (i,false) :: r,listed=>decide (Region.ready .any ops listed=[i])&&QmO ops r (listed.setIfInBounds i true)
theorem simS (hsel:∀(j:Nat) (o:Oper) cs b,ops[j]?=some o→o.op≠ .select cs b) (hQ1:∀c a d v w,Q (.panic c) (a.put d v) w→Q (.panic c) a w):
 ∀(l:List (Nat×Bool)) (listed:Array Bool) (a:Act) (w:World),QmO ops l listed=true→T w→wpS P ops Q T l a w→Qhc P ops Q T l.length listed a w
 | [],listed,a,w,hB,_,h=>⟨by simpa [QmO] using hB,h⟩
 | (i,true) :: r,listed,a,w,hB,hT,h=>by
   simp only[QmO,QCZ]at hB
   obtain⟨⟨⟨hrd,hf⟩,hcm⟩,hok⟩:=hB
   obtain⟨o,ho,h⟩:=h
   have hri:i∈Region.ready .any ops listed:=by simpa using hrd
   have hcm':calm o=true:=by simpa [ho] using hcm
   have next:∀v,YieldsIf P ops T o v a→wpS P ops Q T r (a.put o.dst v) w→Qhc P ops Q T (r.length+1) listed a w:=fun v hy hnx=>
    Qhl ho hsel (fun c a w=>hQ1 c a _ _ w) r.length listed a w (Region.free_spec ho hf) hri hy hT (simS hsel hQ1 r _ _ w hok hT hnx)
   by_cases hw:Region.wanted o (yielded ops a.tmps)=true
   ·rw[if_pos hw]at h
    obtain⟨v,hy,hnx⟩:=Qcd hcm' hw h
    exact next v hy hnx
   ·rw[if_neg hw]at h
    exact next undef (.inr ⟨by simpa using hw,rfl⟩) h
 | (i,false) :: r,listed,a,w,hB,hT,h=>by
   simp only[QmO,QCZ,decide_eq_true_eq]at hB
   obtain⟨hrd,hok⟩:=hB
   refine⟨fun he=>(by rw[hrd]at he;cases he),fun j hj=>?_⟩
   rw[hrd]at hj
   obtain rfl:j=i:=by simpa using hj
   exact wpOp_mono (fun a' w' h'=>⟨h'.1,simS hsel hQ1 r _ a' w' hok h'.1 h'.2⟩) h
def QcC (P:Program) (l:List Oper) (Q:Exit→Act→World→Prop) (T:World→Prop) (qs:List Nat):List (List Nat×Nat)→Act→World→Prop
 | [],a,w=>wpQuiet P l.toArray T (fun a'=>wpList P l.toArray Q [] a' w) (pick l qs) a
 | (q,i) :: r,a,w=>wpQuiet P l.toArray T (fun a'=>wpList P l.toArray (Exit.then (fun a'' w''=>T w''∧QcC P l Q T qs r a'' w'') Q) (pick l [i]) a' w) (pick l q) a
theorem Qfy {l:List Oper} {Qa:Act→Prop} {r:List (Nat×Bool)} {w:World} (hQa:∀a,Qa a→wpS P l.toArray Q T r a w):∀(qs:List Nat),(qs.all fun i=>decide (i<l.length))=true→
 ∀a,wpQuiet P l.toArray T Qa (pick l qs) a→wpS P l.toArray Q T (qs.map (·,true)++r) a w
 | [],_,a,h=>hQa a h
 | i :: qs,hb,a,h=>by
   simp only[QDO,QCZ,decide_eq_true_eq]at hb
   have hi:l[i]?=some (l[i]'hb.1):=QCH hb.1
   refine⟨l[i]'hb.1,by simp[hb.1],?_⟩
   simp only[pick,hi,QCF,QEd,wpQuiet]at h
   by_cases hw:Region.wanted (l[i]'hb.1) (yielded l.toArray a.tmps)=true
   ·rw[if_pos hw]at h ⊢
    exact Oper.quiet_mono (fun a' h'=>Qfy hQa qs hb.2 a' h') h
   ·rw[if_neg hw]at h ⊢
    exact Qfy hQa qs hb.2 _ h
def Qsk (qs:List Nat):List (List Nat×Nat)→List (Nat×Bool)
 | []=>qs.map (·,true)++[]
 | (q,i) :: r=>q.map (·,true)++((i,false) :: Qsk qs r)
def Qtu (l:List Oper) (qs:List Nat) (segs:List (List Nat×Nat)):Bool:=
 Region.noSelect l.toArray&&(qs.all fun i=>decide (i<l.length))&&(segs.all fun s=>decide (s.2<l.length)&&s.1.all fun i=>decide (i<l.length)) &&
 QmO l.toArray (Qsk qs segs) (QD2 l.length false)&&decide ((Qsk qs segs).length=l.length)
theorem Qjv {l:List Oper} {qs:List Nat} (hq:(qs.all fun i=>decide (i<l.length))=true):
 ∀(segs:List (List Nat×Nat)),(segs.all fun s=>decide (s.2<l.length)&&s.1.all fun i=>decide (i<l.length))=true→∀a w,QcC P l Q T qs segs a w→wpS P l.toArray Q T (Qsk qs segs) a w
 | [],_,a,w,h=>Qfy (fun a h=>h) qs hq a h
 | (q,i) :: r,hb,a,w,h=>by
   simp only[QDO,QCZ,decide_eq_true_eq]at hb
   refine Qfy (fun a h=>?_) q hb.1.2 a h
   exact wpOp_mono (fun a' w' h'=>⟨h'.1,Qjv hq r hb.2 a' w' h'.2⟩) (Qb6 hb.1.1 h)
theorem Qdp {id:Nat} {a:Act} {w:World} {l:List Oper} (T:World→Prop) (segs:List (List Nat×Nat)) (qs:List Nat) (hm:P.follows .mixedOrders=true) (hB:Qtu l qs segs=true)
 (hQ:∀c a d v w,Q (.panic c) (a.put d v) w→Q (.panic c) a w) (h:T w.drew∧QcC P l Q T qs segs a w.drew):(Code.region id l.toArray true).wp P Q a w:=by
 simp only[Qtu,QCZ,decide_eq_true_eq]at hB
 obtain⟨⟨⟨⟨hs,hq⟩,hsg⟩,hsq⟩,hlen⟩:=hB
 refine wp_region_any hm (Qg4 (T:=T) _ _ _ _ ?_)
 have:=simS (P:=P) (Q:=Q) (T:=T) (Region.noSelect_spec hs) hQ (Qsk qs segs) (QD2 l.length false) a w.drew hsq h.1 (Qjv hq segs hsg a _ h.2)
 rw[hlen]at this
 simpa using this
end
theorem Spared.later {w w1 w2:World} {bad:List Nat} (h:Spared w bad w1) (hl:Later w1 w2):Spared w bad w2:=
 ⟨QDk h.1 hl.size,fun b hb hn=>(hl.below.block b (QC3 hb h.1)).trans (h.2 b hb hn)⟩
theorem Spared.grown {w w1 w2:World} {bad:List Nat} {row:Option Nat} (h:Spared w bad w1) (hg:w1.grownBy w2 row) (hr:∀k,row=some k→w.heap.size≤k):Spared w bad w2:=
 ⟨QDk h.1 hg.size,fun b hb hn=>(hg.block b (QC3 hb h.1) (fun e=>by have:=hr b e.symm;omega)).trans (h.2 b hb hn)⟩
theorem Spared.fresh {w w1 w2:World} {bad:List Nat} {g:Nat} (h:Spared w bad w1) (ho:Only g w1 w2) (hg:w.heap.size≤g):Spared w bad w2:=
 h.grown ho (fun k e=>by cases e;exact hg)
end Go.Proofs.YtdhgpkdjdmlphaaGreat
namespace Go.Proofs.YtdhgpkdjdmlphaaGreat
open Go.RowKit
open Go.BigFrame
theorem Qxi {w:World} {b p n:Nat} {bs:List UInt8} (h:RdB w (some ⟨b,p,none⟩) n bs) (k m:Nat) (hk:k+m≤n) (hk0:0<m):RdB w (some ⟨b,p+k,none⟩) m (subB bs k m):=by
 have h1:=(RdB.cut h (k:=k) (c:=n+1) (by omega) (by omega)).take (m:=m) (by omega)
 rw[show cutA (some ⟨b,p,none⟩) k (n+1)=some ⟨b,p+k,none⟩ by
  rw[cutA,if_neg (by omega)]
  show some ((⟨b,p,none⟩:Addr).add k)=_
  rw[Qdl]]at h1
 exact h1
theorem QiI {bs r:List UInt8} {off n:Nat} (h:subB bs off n=r):∀j v,(r.map W8)[j]?=some v→(bs.map W8)[off+j]?=some v:=by
 intro j v hv
 subst h
 rw[QCY,QEb]at hv
 obtain⟨x,hx,rfl⟩:=hv
 rw[QCY,QkF hx]
 rfl
section
variable {ops:Array Oper} {rest:List Oper} {o:Oper} {a:Act} {w:World} {Q:Exit→Act→World→Prop}
end
theorem Ql2 {P:Program} {d n k:Nat} {t:TypeId} {f:Field} {fs:List Field} {fs':Array Field} (hf:f.type=t) (hu:P.underlying t=some (.struct fs')) (hst:P.stoodInHeld t=false) (hs:(P.info? t).map (·.size)=some n) (hn:f.name≠ "_")
 {xs ys ps qs:List Value} (ho:f.offset=k) (hp:(xs.drop k).take n=ps) (hq:(ys.drop k).take n=qs) (b:Bool) (w:World) (hb:(Op.eqFields (d+1) ps.toArray qs.toArray fs'.toList).run P w= .ok b w):
 (Op.eqFields (d+2) xs.toArray ys.toArray (f :: fs)).run P w=if b then (Op.eqFields (d+2) xs.toArray ys.toArray fs).run P w else .ok false w:=by
 have e:P.fieldsOf t=fs':=by unfold Program.fieldsOf;rw[hu]
 rw[Op.eqFields,if_pos hn]
 simp only[Sem.run_bind,hf,ho,Qed hu rfl hs xs _ hp,Qed hu rfl hs ys _ hq,Result.andThen_ok]
 rw[run_equalIn_struct w (d+1) t ps.toArray qs.toArray (by rw[e];exact hu) hst,e,hb]
 simp only[Result.andThen_ok]
 cases b<;>simp
theorem Qxl:(Tryz.prog.info? 35).map (·.size)=some 480:=by kernel_rfl
set_option maxRecDepth 100000 in
theorem QxW (d:Nat) (x y:List UInt8) (hx:x.length=288) (hy:y.length=288) (w:World) {fs:Array Field} (hu:Tryz.prog.underlying 34=some (.struct fs)):
 (Op.eqFields (d+2) (x.map W8).toArray (y.map W8).toArray fs.toList).run Tryz.prog w= .ok (x==y) w:=by
 rw[Tryz.underlying34]at hu
 cases hu
 have l1:∀off n,off+n≤288→(subB x off n).length=n:=fun off n h=>Qam (by omega)
 have l2:∀off n,off+n≤288→(subB y off n).length=n:=fun off n h=>Qam (by omega)
 rw[Qb3 (k:=0) rfl (by decide) rfl (QbA x 0 32) (QbA y 0 32) (l1 _ _ (by omega)) (l2 _ _ (by omega)),
  Qdf (k:=32) rfl Tryz.underlying31 QmM QbY Tryz.underlying5 (by decide) rfl (QbA x 32 16) (QbA y 32 16) (l1 _ _ (by omega)) (l2 _ _ (by omega)),
  Qdf (k:=48) rfl Tryz.underlying32 QxL QbY Tryz.underlying5 (by decide) rfl (QbA x 48 240) (QbA y 48 240) (l1 _ _ (by omega)) (l2 _ _ (by omega)),Qdd]
 have h:(x==y)=(subB x 0 32==subB y 0 32&&(subB x 32 16==subB y 32 16&&subB x 48 240==subB y 48 240)):=by
  rw[Qmx x y 48 240 (by omega) (by omega),QjM x y 32 16,QjM x y 0 32]
  rfl
 rw[h]
 cases subB x 0 32==subB y 0 32<;>cases subB x 32 16==subB y 32 16<;>cases subB x 48 240==subB y 48 240<;>rfl
abbrev Y768:={l:List UInt8 // l.length=768}
theorem QwI:Tryz.prog.eqGuardType Tryz.prog.depth 37=false:=by kernel_rfl
@[go_sem high] theorem QxE (op:BinOp) (x y:Operand) (xs ys:Array Value) (w:World):(eqGuard op 37 x y (.agg xs) (.agg ys)).run Tryz.prog w= .ok () w:=run_eqGuard_agg w op _ x y xs ys QwI
set_option maxRecDepth 100000 in
theorem Qh3 (x y:List UInt8) (hx:x.length=768) (hy:y.length=768) (w:World) {fs:Array Field} (hu:Tryz.prog.underlying 37=some (.struct fs)):
 (Op.eqFields 9999 (x.map W8).toArray (y.map W8).toArray fs.toList).run Tryz.prog w= .ok (x==y) w:=by
 rw[Tryz.underlying37]at hu
 cases hu
 have l1:(subB x 0 288).length=288:=Qam (by omega)
 have l2:(subB y 0 288).length=288:=Qam (by omega)
 have l3:(subB x 288 480).length=480:=Qam (by omega)
 have l4:(subB y 288 480).length=480:=Qam (by omega)
 rw[Ql2 (d:=9997) (k:=0) rfl Tryz.underlying34 (by kernel_rfl) Qc7 (by decide) rfl (QbA x 0 288) (QbA y 0 288) _ w (QxW 9996 _ _ l1 l2 w Tryz.underlying34),
  Qdf (d:=9997) (k:=288) rfl Tryz.underlying35 Qxl QbY Tryz.underlying5 (by decide) rfl (QbA x 288 480) (QbA y 288 480) l3 l4,Qdd]
 have h:(x==y)=(subB x 0 288==subB y 0 288&&subB x 288 480==subB y 288 480):=by
  rw[Qmx x y 288 480 (by omega) (by omega),QjM x y 0 288]
  rfl
 rw[h]
 cases subB x 0 288==subB y 0 288<;>cases subB x 288 480==subB y 288 480<;>rfl
@[go_sem high] theorem Qyq (x y:Y768) (w:World):(binOp .eql 37 (.agg (x.val.map W8).toArray) (.agg (y.val.map W8).toArray)).run Tryz.prog w= .ok (.bool (x.val==y.val)) w:=by
  rw[Qgd Tryz.underlying37 (by kernel_rfl),Qh3 _ _ x.2 y.2 w Tryz.underlying37]
  rfl
@[go_sem high] theorem QxD (x y:Y768) (w:World):(binOp .neq 37 (.agg (x.val.map W8).toArray) (.agg (y.val.map W8).toArray)).run Tryz.prog w= .ok (.bool (!(x.val==y.val))) w:=by
  rw[Qic Tryz.underlying37 (by kernel_rfl),Qh3 _ _ x.2 y.2 w Tryz.underlying37]
  rfl
section
variable {ops:Array Oper} {rest:List Oper} {o:Oper} {a:Act} {w:World} {Q:Exit→Act→World→Prop}
end
theorem Qcp {P:Program} {o:Oper} {a:Act} {J:Act→Prop} (ty:TypeId) (x:Operand) (ho:o.op= .load ty x) {w0:World} {g:Nat} {t:TypeId} {l:List Value} (off:Nat) (vs:List Value) (hb:Blk w0 g t l) (hx:a.eval x= .pointer (some ⟨g,off,none⟩))
 (hv:∀j v,vs[j]?=some v→l[off+j]?=some v) (d:TypeDesc) (hu:P.underlying ty=some d) (hd:QbI d=true) (hi:(P.info? ty).map (·.size)=some vs.length) (h:J (a.put o.dst (.agg vs.toArray))):o.quiet P a (fun w'=>∃x,w'=grow w0 x) J:=
 Qa3 _ x ho g off vs (fun _ hw j v hv'=>by obtain⟨y,rfl⟩:=hw;exact (hb.later ⟨y,rfl⟩).cellD _ (hv j v hv')) hx d hu hd hi h
def LC (x:Nod) (v:Value) (n:Int):List Value:=NC x++[v,.int .i64 n]
theorem Qgm (x:Nod) (v:Value) (n:Int):(LC x v n).length=68:=by rw[LC,QCM,Qaw];rfl
theorem Qwm (x:Nod) (v:Value) (n:Int) {i:Nat} {u:Value} (h:(NC x)[i]?=some u):(LC x v n)[0+i]?=some u:=by
 rw[QC6,LC,QC0 (QCX.1 h).1]
 exact h
theorem Qn4 (x:Nod) (v:Value) (n:Int):(LC x v n)[67]?=some (.int .i64 n):=by
 rw[LC,QCR (by rw[Qaw];omega),Qaw]
 rfl
theorem QB8:(Tryz.prog.info? 94).bind (·.zero)=some (.agg (LC nod0 (.pointer none) 0).toArray):=by kernel_rfl
theorem Qne (x:Nod):Tryz.prog.built 94 [(0,.agg (NC x).toArray)]=some (LC x (.pointer none) 0).toArray:=by
 rw[Qa7 (pl:=[(0,66),(66,1),(67,1)]) Tryz.underlying94 QB8 (by kernel_rfl),Qbk (vs:=NC x) (off:=0) rfl (by rw[Qaw];rfl) (by rw[Qaw,Qgm];omega),Qct,LC,Qk3 (by rw[Qaw,Qaw]),LC]
set_option maxRecDepth 100000 in
theorem QuB (x:Nod) (w:World):
 Calls Tryz.prog 27 #[.agg (NC x).toArray] w fun e w'=>∃g,e= .returned (.pointer (some ⟨g,0,none⟩))∧w.heap.size≤g∧Blk w' g 94 (LC x (.pointer none) 0)∧Later w w':=by
 have hb0:Blk (w.alloc (.cells (NC x).toArray 86)) w.heap.size 86 (NC x):=Blk.new _ _ _
 have L:=Qaa w (.cells (NC x).toArray 86)
 have hbr:=Qne x
 have L2:=Qaa (w.alloc (.cells (NC x).toArray 86)) (.cells (LC x (.pointer none) 0).toArray 94)
 have hb1:=Blk.new' (n:=w.heap.size+1) (w.alloc (.cells (NC x).toArray 86)) 94 (LC x (.pointer none) 0) (by simp)
 go_enter Tryz.func27,Tryz.ntmps27
 go_wp2_with (first
  | (refine QjV rfl _ rfl (QrE hb0) rfl ?_)
  | (refine Qah rfl 94 _ rfl (LC x (.pointer none) 0) (by simp only[QCS,QDa,QC2];exact hbr) ?_)
  | fail)
 go_ret
 exact⟨_,rfl,Nat.le_succ _,hb1,L.trans L2⟩
set_option maxRecDepth 100000 in
theorem Qpn (g:Nat) (t:TypeId) (x:Nod) (v:Value) (n:Int) (w:World) (hb:Blk w g t (LC x v n)):
 Calls Tryz.prog 29 #[.pointer (some ⟨g,0,none⟩)] w fun e w'=>e= .returned (.int .i64 n)∧Later w w':=by
 have c0:=hb.cellD 67 (Qn4 x v n)
 have hlt:=hb.lt
 go_enter Tryz.func29,Tryz.ntmps29
 go_wp2
 go_ret
 exact⟨rfl,Later.refl w⟩
theorem Qh4 (k p:List UInt8) (hp:p.length=768):(unwP k p).length=768:=by
 unfold unwP
 split
 ·exact Qf0 _ _ hp (QcM _ _)
 ·exact QCO
theorem Qvn {k p:List UInt8} (h:(unwC k p).kd≠1):unwP k p=z768:=by
 by_cases hm:Qa2 k (p.take 32)=0
 ·rw[unwC,if_pos hm]at h
  rw[unwP,if_pos hm,relP,if_neg (fun x=>h x.2)]
  rfl
 ·rw[unwP,if_neg hm]
  rfl
section
variable {ops:Array Oper} {rest:List Oper} {o:Oper} {a:Act}
theorem Qqc (hw:Region.wanted o (yielded ops a.tmps)=true) (ho:o.op= .alloc 68):
 Makes Tryz.prog ops o (fun g=>.pointer (some ⟨g,0,none⟩)) (.cells Tryz.zeroCells68 68) a:=
 ⟨hw,fun w=>by
   unfold execOp
   rw[ho]
   simp[go_sem]⟩
end
section
variable {P:Program} {ops:Array Oper} {rest:List Oper} {o:Oper} {a:Act} {w:World} {Q:Exit→Act→World→Prop} {t:TypeId}
theorem go_b {p:Array (Nat×Operand)} (_ho:o.op= .build t p) (h:wpList P ops Q (o :: rest) a w):wpList P ops Q (o :: rest) a w:=h
theorem go_a {s x:Operand} (_ho:o.op= .call { callee:=.builtin .append,args:= #[s,x],argTypes:= #[t,t] }) (h:wpList P ops Q (o :: rest) a w):wpList P ops Q (o :: rest) a w:=h
theorem go_l {x:Operand} (_ho:o.op= .load t x) (h:wpList P ops Q (o :: rest) a w):wpList P ops Q (o :: rest) a w:=h
theorem Qbg {x y:Operand} (_ho:o.op= .store t x y) (h:wpList P ops Q (o :: rest) a w):wpList P ops Q (o :: rest) a w:=h
end
set_option maxRecDepth 100000 in
theorem Qhv (x:Nod) (w:World):
 Calls Tryz.prog 33 #[.agg (NC x).toArray] w fun e w'=>∃g,e= .returned (.slice (some ⟨g,0,none⟩) 32 32)∧w.heap.size≤g∧Blk w' g 5 (x.priv.val.map W8)∧Later w w':=by
 have hb0:Blk (w.alloc (.cells (NC x).toArray 86)) w.heap.size 86 (NC x):=Blk.new _ _ _
 have hc:∀j v,(x.priv.val.map W8)[j]?=some v→(w.alloc (.cells (NC x).toArray 86)).cell? ⟨w.heap.size,2+j,none⟩=some v:=fun j v hv=>hb0.cellD _ (Qm0 x hv)
 go_enter Tryz.func33,Tryz.ntmps33
 go_wp2_with (first
  | (refine Qfi rfl _ rfl hc x.priv.2 rfl ?_)
  | fail)
 (with_reducible refine (QfU x.priv.val x.priv.2 _).mono ?_);rintro e w2 ⟨g2,rfl,hg2,hb2,l2⟩
 go_wp2
 go_ret
 exact⟨g2,rfl,by simp at hg2;omega,hb2,(Qaa _ _).trans l2⟩
theorem QrX (x:Nod) (v:Value) (n:Int):(LC x v n)[66]?=some v:=by
 rw[LC,QCR (by rw[Qaw];omega),Qaw]
 rfl
theorem Qyy (x:Nod) (v v':Value) (n:Int):(LC x v n).set 66 v'=LC x v' n:=by
 rw[LC,QDe _ _ (by rw[Qaw];omega),Qaw]
 rfl
theorem QxM (x:Nod) (v:Value) (n n':Int):(LC x v n).set 67 (.int .i64 n')=LC x v n':=by
 rw[LC,QDe _ _ (by rw[Qaw];omega),Qaw]
 rfl
def Chain (w:World) (base:Nat):Value→List Y32→Prop
 | v,[]=>v= .pointer none
 | v,s :: ss=>∃g v',v= .pointer (some ⟨g,0,none⟩)∧base≤g∧Blk w g 170 (s.val.map W8++[v'])∧Chain w base v' ss
theorem Chain.later {w w':World} {base:Nat} (hl:Later w w'):∀ {v:Value} {ss:List Y32},Chain w base v ss→Chain w' base v ss
 | _,[],h=>h
 | _,_ :: _,⟨g,v',h1,h2,h3,h4⟩=>⟨g,v',h1,h2,h3.later hl,Chain.later hl h4⟩
theorem Chain.only {w w':World} {base k:Nat} {t:TypeId} {l:List Value} (hb:Blk w k t l) (hne:t≠170) (ho:Only k w w'):∀ {v:Value} {ss:List Y32},Chain w base v ss→Chain w' base v ss
 | _,[],h=>h
 | _,_ :: _,⟨g,v',h1,h2,h3,h4⟩=>⟨g,v',h1,h2,h3.only ho (fun e=>by subst e;exact hb.ne_type h3 hne rfl),Chain.only hb hne ho h4⟩
theorem Chain.grown {w w':World} {base b sz n:Nat} {e:TypeId} {v2:Value} {vs:List Value} (h2:w.ownsRow b e sz v2 n vs) (hne:170≠e) (hg:w.grownBy w' v2.ownBlock):∀ {v:Value} {ss:List Y32},Chain w base v ss→Chain w' base v ss
 | _,[],h=>h
 | _,_ :: _,⟨g,v',h1,h2',h3,h4⟩=>⟨g,v',h1,h2',QcJ h3 h2 hne hg,Chain.grown h2 hne hg h4⟩
theorem Qpj {w:World} {base:Nat}:∀ {v:Value} {ss:List Y32},Chain w base v ss→v.oneCell'=true
 | _,[],h=>by rw[h];rfl
 | _,_ :: _,⟨_,_,h,_⟩=>by rw[h];rfl
theorem Qhq {w:World} {base:Nat}:∀ {v:Value} {ss ss':List Y32},Chain w base v ss→Chain w base v ss'→ss=ss'
 | _,[],[],_,_=>rfl
 | _,[],_ :: _,h,⟨_,_,h',_⟩=>by rw[show _=Value.pointer none from h]at h';cases h'
 | _,_ :: _,[],⟨_,_,h',_⟩,h=>by rw[show _=Value.pointer none from h]at h';cases h'
 | _,s :: ss,t :: tt,⟨g,v',h1,_,h3,h4⟩,⟨g2,v2,k1,_,k3,k4⟩=>by
   rw[h1]at k1
   injection k1 with k1
   injection k1 with k1
   injection k1 with k1
   subst k1
   unfold Blk at h3 k3
   rw[h3]at k3
   injection k3 with k3
   injection k3 with k3
   have e:s.val.map W8++[v']=t.val.map W8++[v2]:=by simpa using congrArg Array.toList k3
   have hl:(s.val.map W8).length=(t.val.map W8).length:=by rw[QCG,QCG,s.2,t.2]
   obtain⟨e1,e2⟩:=List.append_inj e hl
   injection e2 with e2
   subst e2
   have e3:s.val=t.val:=by
    have hinj:Function.Injective W8:=fun a b h=>by
     have:(a.toNat:Int)=b.toNat:=by injection h
     exact QDr.1 (by omega)
    exact (List.map_inj_right (fun _ _ h=>hinj h)).1 e1
   rw[Subtype.ext e3,Qhq h4 k4]
open Classical in
noncomputable def Qxw (base:Nat) (w:World) (v:Value):Nat:=if h:∃ss,Chain w base v ss then h.choose.length else 0
theorem Qo0 {base:Nat} {w:World} {v:Value} {ss:List Y32} (h:Chain w base v ss):Qxw base w v=ss.length:=by
 have hx:∃ss,Chain w base v ss:=⟨ss,h⟩
 rw[Qxw,dif_pos hx,Qhq hx.choose_spec h]
def secY (k p:List UInt8):Y32:=⟨kSec (Qb2 k (p.take 32)),Qam (by rw[QcM];omega)⟩
open Classical in
noncomputable def takE (k p:List UInt8) (ss:List Y32):Nat:=if unwE k p=0 then (if secY k p∈ss then 15 else 0) else unwE k p
theorem QyR:(Tryz.prog.info? 170).bind (·.zero)=some (.agg ((QCC 32 (W8 0))++[Value.pointer none]).toArray):=by kernel_rfl
theorem QpY (s:Y32) (v:Value) (hv:v.oneCell'=true):Tryz.prog.built 170 [(0,.agg (s.val.map W8).toArray),(1,v)]=some (s.val.map W8++[v]).toArray:=by
 have hs:=s.2
 rw[Qa7 (pl:=[(0,32),(32,1)]) Tryz.underlying170 QyR (by kernel_rfl),Qbk (vs:=s.val.map W8) (off:=0) rfl (by rw[QCG,hs];rfl) (by simp;omega),Qbk (vs:=[v]) (off:=32) (by cases v<;>first|rfl|cases hv) rfl (by rw[Qb7 _ _ _ (by simp;omega)];simp),Qct]
 congr 2
 rw[Qao,Qao]
 simp[hs]
theorem QuK (k p:List UInt8):subB (Qb2 k (p.take 32)) 160 32=(secY k p).val:=rfl
theorem QnY {ops:Array Oper} {o:Oper} {a:Act} (hw:Region.wanted o (yielded ops a.tmps)=true) (ho:o.op= .alloc 53):
 Makes Tryz.prog ops o (fun g=>.pointer (some ⟨g,0,none⟩)) (.cells Tryz.zeroCells53 53) a:=
 ⟨hw,fun w=>by
   unfold execOp
   rw[ho]
   simp[go_sem]⟩
theorem QpT {g k:Nat} {w a b:World} (h:Only g w a) (ho:Only k a b) (hk:w.heap.size≤k):Only g w b:=
 ⟨ho.os.trans h.os,ho.tape.trans h.tape,ho.output.trans h.output,QDk h.size ho.size,fun i hi hn=>(ho.block i (QC3 hi h.size) (fun e=>by injection e with e;omega)).trans (h.block i hi hn)⟩
set_option maxRecDepth 100000 in
set_option maxHeartbeats 8000000 in
theorem Qk8 (g n base:Nat) (x:Nod) (v:Value) (ss:List Y32) (p:List UInt8) (w:World) (hp:p.length=768) (hb:Blk w g 94 (LC x v (n:Int))) (hn:n≤1048576) (hch:Chain w base v ss) (hbw:base≤w.heap.size):
 Calls Tryz.prog 28 #[.pointer (some ⟨g,0,none⟩),.agg (p.map W8).toArray] w fun e w'=>
  (takE x.priv.val p ss=0∧∃A' c' v',e= .returned (.tuple #[.agg (PC (unwC x.priv.val p) (unwP x.priv.val p) (.slice A' (unwB x.priv.val p).length c')).toArray,.int .i64 0])∧OwnB w' w.heap.size A' (unwB x.priv.val p).length c' (unwB x.priv.val p)∧Blk w' g 94 (LC x v' ((n:Int)+1))∧Chain w' base v' (secY x.priv.val p :: ss)∧Only g w w')∨
  (takE x.priv.val p ss≠0∧e= .returned (.tuple #[.agg (PC cmd0 z768 nil8).toArray,.int .i64 (takE x.priv.val p ss:Nat)])∧Blk w' g 94 (LC x v (n:Int))∧Chain w' base v ss∧Later w w'):=by
 have HZ:=hid zcPe
 have C1:=Qba w 37 (p.map W8)
 have C2:=C1.add (Qaa _ (.cells Tryz.zeroCells68 68)) (k:=w.heap.size+1) (by simp) (by omega) ((Blk.new' _ _ Tryz.zeroCells68.toList (by simp)).cast HZ.out)
 clear C1
 have hal:(p.take 32).length=32:=by rw[QC5];omega
 have hzl:(PC cmd0 z768 nil8).length=789:=QaD _ Qat _
 have hb0:=QgA
 have hglt:=hb.lt
 obtain⟨k,hk⟩:∃k,k=x.priv.val:=⟨_,rfl⟩
 rw[←hk]
 have hkl:k.length=32:=by rw[hk];exact x.priv.2
 have hPr:=hid (QhT x)
 rw[←hk]at hPr
 have hPe:=hid (fun (w:World) A B c d h1 h2=>QoH A B 32 c 32 d k (p.take 32) w h1 h2 (by omega) (by omega))
 have hsl:=QcM k (p.take 32)
 have hO:=hid (QlL (Qb2 k (p.take 32)) p hp hsl)
 have hT:Hid (takE k p ss=if unwE k p=0 then (if secY k p∈ss then 15 else 0) else unwE k p):=hid (by rw[takE])
 have hE:Hid (unwE k p=if Qa2 k (p.take 32)=0 then relE (Qb2 k (p.take 32)) p else Qa2 k (p.take 32)):=hid rfl
 have hC:Hid (unwC k p=if Qa2 k (p.take 32)=0 then relC (Qb2 k (p.take 32)) p else cmd0):=hid rfl
 have hP:Hid (unwP k p=if Qa2 k (p.take 32)=0 then relP (Qb2 k (p.take 32)) p else z768):=hid rfl
 have hB:Hid (unwB k p=if Qa2 k (p.take 32)=0 then relB (Qb2 k (p.take 32)) p else []):=hid rfl
 have hRPl:=Qf0 (Qb2 k (p.take 32)) p hp hsl
 have hsh:Hid (subB p 0 32=p.take 32):=hid rfl
 have hsec:=hid (QuK k p)
 generalize takE k p ss=TE at *
 generalize secY k p=SY at *
 generalize unwE k p=UE at *
 generalize unwC k p=UC at *
 generalize unwP k p=UP at *
 generalize unwB k p=UB at *
 generalize Qa2 k (p.take 32)=ME at *
 generalize relP (Qb2 k (p.take 32)) p=RP at *
 generalize relC (Qb2 k (p.take 32)) p=RC at *
 generalize relB (Qb2 k (p.take 32)) p=RB at *
 generalize relE (Qb2 k (p.take 32)) p=RE at *
 generalize Qb2 k (p.take 32)=S at *
 generalize p.take 32=al at *
 clear hk
 have hlc:(LC x v (n:Int)).length=68:=Qgm _ _ _
 go_enter Tryz.func28,Tryz.ntmps28
 go_wp2_with fail
 have hbg:=hb.later C2.drew.lat
 refine Qaz [0,1,2,3,5,6,7] [([],1,4),([],1,8),([9,10,11],2,12)] [] [13,14] [12] (fun _=>(fun g=>.pointer (some ⟨g,0,none⟩),.cells Tryz.zeroCells53 53)) (by as_aux_lemma=>kernel_rfl) (by as_aux_lemma=>kernel_rfl) (by intro _ _ d _ _ h;cases d<;>exact h) (by intro _ _ d _ _ h;cases d<;>exact h) ?_
 simp only[pick,QCD,QCE,QCF,QCJ,QCI]
 repeat (first|go_big_quiet_skip|(go_big_quiet_want;(refine Qcp _ _ rfl 0 (NC x) hbg rfl (fun j v hv=>Qwm _ _ _ hv) _ Tryz.underlying86 rfl (by rw[Qaw];exact Qns) ?_);simp only[Act.put,QCL,QCQ,QCP];go_big_quiet_on)|(go_big_quiet_step (fail)))
 refine wpQuiet_nil ?_
 refine⟨?mk,?_⟩
 case mk=>
  refine⟨fun o ho=>?_,trivial⟩
  simp only[QCD,QCE,Option.some.injEq]at ho
  subst ho
  exact QnY rfl rfl
 simp only[Qbn,pick,QCD,QCE,QCF,QCJ,QCI]
 refine wpQuiet_nil ?_
 intro m1 j1
 go_wp2_with fail
 (with_reducible refine (hPr.out _).mono ?_);rintro e m2 ⟨g2,rfl,hg2,hb2,j2⟩
 go_wp2_with fail
 try refine⟨by first|assumption|exact Qab _|exact Qaa _ _|exact Later.refl _,?_⟩
 try simp only[Qai,pick,QCD,QCE,QCF,QCJ,QCI]
 repeat (go_big_quiet_step (fail))
 refine wpQuiet_nil ?_
 intro m3 j3
 go_wp2_with fail
 (refine (hPe.out _ _ _ _ _ (Qb9 (hb2.later j3) hkl) (QbK (((((C2.drew).later j1).later j2).later j3).nth 1 rfl) hsh.out hal)).mono ?_);rintro e m4 ⟨rfl,j4⟩
 go_wp2_with fail
 try refine⟨by first|assumption|exact Qab _|exact Qaa _ _|exact Later.refl _,?_⟩
 try simp only[Qai,pick,QCD,QCE,QCF,QCJ,QCI]
 repeat (go_big_quiet_step (fail))
 refine wpQuiet_nil ?_
 intro m5 gq j5 hgq _ hbq
 refine wpQuiet_nil ?_
 intro m6 j6
 simp only[QDU,Act.put,QCL,QCQ,QCP]
 have hB6:Blk m6 gq 53 Tryz.zeroCells53.toList:=Blk.later (show Blk m5 gq _ _ from hbq) j6
 refine Qec rfl rfl _ _ rfl hB6 rfl rfl hsl Quf ?_
 intro m7 hb7 ho7
 have C3:=C2.drew.push (((((j1.trans j2).trans j3).trans j4).trans j5).trans j6) (by have:=hgq;simpa using this) ho7 hb7
 clear hb2 hg2 j1 j2 j3 j4 j5 j6 hgq hbq hB6 ho7 hb7 C2 hbg
 by_cases hm:ME=0
 ·subst hm
  replace hE:=hid (hE.out.trans (if_pos rfl))
  replace hC:=hid (hC.out.trans (if_pos rfl))
  replace hP:=hid (hP.out.trans (if_pos rfl))
  replace hB:=hid (hB.out.trans (if_pos rfl))
  go_wp2_with (first
   | (refine QeN rfl _ rfl (C3.nth 0 rfl) hsl rfl ?_)
   | (refine QeM rfl _ rfl (C3.nth 2 rfl) hp rfl ?_)
   | fail)
  (with_reducible refine (hO.out _).mono ?_);rintro e w8 ⟨A8,c8,rfl,o8,j8⟩
  have C4:=C3.later j8
  have hnb:Blk (w8.alloc (.cells Tryz.zeroCells68 68)) w8.heap.size 68 Tryz.zeroCells68.toList:=Blk.new w8 _ _
  have o9:=QaB (Qcu o8 C3.lat.size) (Qaa w8 (.cells Tryz.zeroCells68 68))
  clear o8 j8 C3 hO
  by_cases hr:RE=0
  ·subst hr
   go_wp2_with (first
    | (refine QaY rfl rfl _ _ rfl ((Blk.new w8 _ Tryz.zeroCells68.toList).cast HZ.out) rfl rfl hRPl rfl hzl ?_;intro w9 hb9 ho9
       have C5:=C4.push (Qaa _ _) (QCN _) ho9 hb9
       have o10:=QaH o9 hnb (by decide) ho9
       have x66:=(hb.later C5.lat).cellD 66 (QrX x v (n:Int))
       have y66:=(hb.later C5.lat).lt)
    | fail)
   have hT':Hid (TE=if SY∈ss then 15 else 0):=hid (by rw[hT.out,if_pos hE.out])
   have hch9:=hch.later C5.lat
   have hv1:=Qpj hch
   clear x66 y66 hb9 ho9 o9 hnb C4
   go_loopw [9] (fun u wr=>∃(dn rs:List Y32),Hid (ss=dn++rs)∧Hid (SY∉dn)∧Chain wr base u rs∧Later w9 wr) (fun u wr=>Qxw base wr u)
   case atStart=>exact⟨[],ss,hid rfl,hid (by simp),hch9,Later.refl _⟩
   case round=>
    obtain⟨dn,rs,hds,hno,hc,L⟩:=hrel
    have C6:=C5.later L
    cases rs with
    | nil=>
      have hu:_=Value.pointer none:=hc
      subst hu
      have hnot:TE=0:=by
       rw[hT'.out,if_neg]
       rw[hds.out,QDg]
       exact hno.out
      replace hnot:=hid hnot
      clear hT hT' hds hno hc hch9
      have C7:=C6.drew
      have hbE:=hb.later C7.lat
      have x66:=hbE.cellD 66 (QrX x v (n:Int))
      have y66:=hbE.lt
      have o11:=QaB (QaB o10 L) (Qab wr)
      go_wp2_with fail
      refine Qag [([0,1,2,3,4,5,6,7],8)] [9,10] [11] (by as_aux_lemma=>kernel_rfl) (by as_aux_lemma=>kernel_rfl) (by intro _ _ d _ _ h;cases d<;>exact h) ?_
      simp only[Qai,pick,QCD,QCE,QCF,QCJ,QCI]
      repeat (first|go_big_quiet_skip|(go_big_quiet_want;(first|refine Qcp _ _ rfl 160 (SY.val.map W8) (C7.nth 1 rfl) rfl (QiI hsec.out) _ Tryz.underlying30 rfl (by rw[QCG,SY.2];exact Qc6) ?_|refine QbN _ _ rfl (SY.val.map W8++[v]) (by simp only[QCS,QDa,QC2];exact QpY SY v hv1) ?_);simp only[Act.put,QCL,QCQ,QCP];go_big_quiet_on)|(go_big_quiet_step (fail)))
      refine wpQuiet_nil ?_
      go_wp2_with fail
      try refine⟨by first|assumption|exact Qab _|exact Qaa _ _|exact Later.refl _,?_⟩
      try simp only[Qai,pick,QCD,QCE,QCF,QCJ,QCI]
      repeat (go_big_quiet_step (fail))
      refine wpQuiet_nil ?_
      have jW:=(Qaa wr (.cells (SY.val.map W8++[v]).toArray 170)).trans (Qab (wr.alloc (.cells (SY.val.map W8++[v]).toArray 170)))
      have hbW:=hb.later (C6.lat.trans jW)
      have C8:=C6.later jW
      have hlW:Blk (wr.alloc (.cells (SY.val.map W8++[v]).toArray 170)).drew wr.heap.size 170 (SY.val.map W8++[v]):=(Blk.new wr _ _).drew
      have hcW:=hch.later (C6.lat.trans jW)
      have oW:=QaB (QaB o10 L) jW
      have n8:w8.heap.size≠g:=by have:=C6.at_low 0 rfl;omega
      have n4:w.heap.size+1≠g:=by omega
      have nl:wr.heap.size≠g:=by have:=C6.lat.size;omega
      have nl4:wr.heap.size≠w.heap.size+1:=by have:=(C6.nth 2 rfl).lt;omega
      have hbl:base≤wr.heap.size:=by have:=C6.lat.size;omega
      have hcnt:IntKind.i64.wrap ((n:Int)+1)=(n:Int)+1:=by rw[IntKind.wrap_i64];omega
      clear jW C7 hbE x66 y66 o11 C6 C5 L
      generalize (wr.alloc (.cells (SY.val.map W8++[v]).toArray 170)).drew=W at *
      generalize wr.heap.size=gl at *
      go_wp2_with (first
       | (refine Qad rfl rfl _ _ _ rfl g 66 _ _ hbW rfl (by rw[Qgm];omega) rfl (by kernel_rfl) ?_;intro v10 w10 hv10 hb10 ho10;simp[go_sem]at hv10;subst hv10;rw[Qyy]at hb10
          have x67:=hb10.cellD 67 (Qn4 _ _ _)
          have y67:=hb10.lt)
       | (refine Qad rfl rfl _ _ _ rfl g 67 _ _ hb10 rfl (by rw[Qgm];omega) rfl (by kernel_rfl) ?_;intro v11 w11 hv11 hb11 ho11;simp[go_sem]at hv11;subst hv11;rw[QxM]at hb11
          have b8:=((C8.nth 0 rfl).only ho10 n8).only ho11 n8
          have b4:=((C8.nth 2 rfl).only ho10 n4).only ho11 n4)
       | (refine QnA rfl _ rfl b8 hRPl rfl ?_)
       | (refine QaY rfl rfl _ _ rfl b4 rfl rfl hRPl rfl hzl ?_;intro w12 hb12 ho12)
       | fail)
      refine bodyPost_ret (Qaf rfl _ _ _ _ _ _ hb12 rfl Tryz.underlying68 rfl (by rw[QaD _ hRPl];exact QbF)) rfl (.inl ⟨hnot.out,A8,c8,.pointer (some ⟨gl,0,none⟩),by rw[hC.out,hP.out,hB.out];rfl,?_,hb11.only ho12 (fun e=>n4 e.symm),⟨gl,v,rfl,hbl,((hlW.only ho10 nl).only ho11 nl).only ho12 nl4,?_⟩,?_⟩)
      ·rw[hB.out]
       exact QaH (QaH (QaH oW hbW (by decide) ho10) hb10 (by decide) ho11) b4 (by decide) ho12
      ·exact Chain.only b4 (by decide) ho12 (Chain.only hb10 (by decide) ho11 (Chain.only hbW (by decide) ho10 hcW))
      ·exact QpT ((C8.lat.thenOnly ho10).trans ho11) ho12 (by omega)
    | cons s rs=>
      obtain⟨g9,v9,hu,hgb,hbl,hc'⟩:=hc
      subst hu
      have C7:=C6.drew
      have hbl7:=hbl.later (Qab wr)
      have y9:=hbl.lt
      cases he:(s.val==SY.val)
      ·have hno':Hid (SY∉dn++[s]):=hid (fun h=>by
        rcases QD7.1 h with h|h
        ·exact hno.out h
        ·rw[QEG]at h
         rw[h]at he
         simp at he)
       have hds':Hid (ss=(dn++[s])++rs):=hid (by rw[QCU];exact hds.out)
       have x32:=hbl7.cellD 32 (u:=v9) (by rw[QCR (by rw[QCG,s.2];omega),QCG,s.2];rfl)
       have hm1:=Qo0 (Chain.later (Qab wr) hc')
       have hm2:=Qo0 (show Chain wr base (.pointer (some ⟨g9,0,none⟩)) (s :: rs) from ⟨g9,v9,rfl,hgb,hbl,hc'⟩)
       go_wp2_with fail
       refine Qag [] [0,1,2,3,4,5,6] [] (by as_aux_lemma=>kernel_rfl) (by as_aux_lemma=>kernel_rfl) (by intro _ _ d _ _ h;cases d<;>exact h) ?_
       simp only[Qai,pick,QCD,QCE,QCF,QCJ,QCI]
       repeat (first|go_big_quiet_skip|(go_big_quiet_want;(first|refine Qcp _ _ rfl 0 (s.val.map W8) hbl7 rfl (fun j v hv=>by rw[QC6,QC0 (QCX.1 hv).1];exact hv) _ Tryz.underlying30 rfl (by rw[QCG,s.2];exact Qc6) ?_|refine Qcp _ _ rfl 160 (SY.val.map W8) (C7.nth 1 rfl) rfl (QiI hsec.out) _ Tryz.underlying30 rfl (by rw[QCG,SY.2];exact Qc6) ?_);simp only[Act.put,QCL,QCQ,QCP];go_big_quiet_on)|(go_big_quiet_step (fail)))
       refine wpQuiet_nil ?_
       go_wp2_with fail
       exact⟨⟨_,rs,hds',hno',Chain.later (Qab wr) hc',L.drew⟩,by rw[hm2];exact QDX (Nat.le_of_eq hm1) (Nat.lt_succ_self _)⟩
      ·have hin:TE=15:=by
        have hs:s=SY:=Subtype.ext (by simpa using he)
        rw[hT'.out,if_pos (by rw[hds.out,hs];simp)]
       replace hin:=hid hin
       go_wp2_with fail
       refine Qag [] [0,1,2,3,4,5,6] [] (by as_aux_lemma=>kernel_rfl) (by as_aux_lemma=>kernel_rfl) (by intro _ _ d _ _ h;cases d<;>exact h) ?_
       simp only[Qai,pick,QCD,QCE,QCF,QCJ,QCI]
       repeat (first|go_big_quiet_skip|(go_big_quiet_want;(first|refine Qcp _ _ rfl 0 (s.val.map W8) hbl7 rfl (fun j v hv=>by rw[QC6,QC0 (QCX.1 hv).1];exact hv) _ Tryz.underlying30 rfl (by rw[QCG,s.2];exact Qc6) ?_|refine Qcp _ _ rfl 160 (SY.val.map W8) (C7.nth 1 rfl) rfl (QiI hsec.out) _ Tryz.underlying30 rfl (by rw[QCG,SY.2];exact Qc6) ?_);simp only[Act.put,QCL,QCQ,QCP];go_big_quiet_on)|(go_big_quiet_step (fail)))
       refine wpQuiet_nil ?_
       go_wp2_with (first
        | (refine Qah rfl 68 _ rfl (PC cmd0 z768 nil8) (by simp only[QCS,QC2];exact hb0) ?_)
        | (refine QaY rfl rfl _ _ rfl (C7.nth 2 rfl) rfl rfl Qat rfl hzl ?_;intro w10 hb10 ho10
           have C8:=C7.write 2 rfl ho10 hb10)
        | fail)
       exact bodyPost_ret (Qaf rfl _ _ _ _ _ _ hb10 rfl Tryz.underlying68 rfl (by rw[QaD _ Qat];exact QbF)) rfl (.inr ⟨by rw[hin.out];decide,by rw[hin.out];rfl,hb.later C8.lat,hch.later C8.lat,C8.lat⟩)
  ·have hne:((RE:Int) != 0)=true:=by simp;omega
   have HT:TE=RE:=by rw[hT.out,hE.out,if_neg hr]
   replace HT:=hid HT
   go_wp2_with (first
    | (refine QaY rfl rfl _ _ rfl ((Blk.new w8 _ Tryz.zeroCells68.toList).cast HZ.out) rfl rfl hRPl rfl hzl ?_;intro w9 hb9 ho9
       have C5:=C4.push (Qaa _ _) (QCN _) ho9 hb9)
    | (refine Qah rfl 68 _ rfl (PC cmd0 z768 nil8) (by simp only[QCS,QC2];exact hb0) ?_)
    | (refine QaY rfl rfl _ _ rfl (C5.nth 2 rfl) rfl rfl Qat rfl hzl ?_;intro w10 hb10 ho10
       have C6:=C5.write 2 rfl ho10 hb10)
    | fail)
   exact bodyPost_ret (Qaf rfl _ _ _ _ _ _ hb10 rfl Tryz.underlying68 rfl (by rw[QaD _ Qat];exact QbF)) rfl (.inr ⟨by rw[HT.out];exact hr,by rw[HT.out];rfl,hb.later C6.lat,hch.later C6.lat,C6.lat⟩)
 ·have hne:((ME:Int) != 0)=true:=by simp;omega
  have HT:TE=ME:=by rw[hT.out,hE.out,if_neg hm,if_neg hm]
  replace HT:=hid HT
  go_wp2_with (first
   | (refine Qah rfl 68 _ rfl (PC cmd0 z768 nil8) (by simp only[QCS,QC2];exact hb0) ?_)
   | (refine QaY rfl rfl _ _ rfl (C3.nth 1 rfl) rfl rfl Qat rfl hzl ?_;intro w10 hb10 ho10
      have C6:=C3.write 1 rfl ho10 hb10)
   | fail)
  exact bodyPost_ret (Qaf rfl _ _ _ _ _ _ hb10 rfl Tryz.underlying68 rfl (by rw[QaD _ Qat];exact QbF)) rfl (.inr ⟨by rw[HT.out];exact hm,by rw[HT.out];rfl,hb.later C6.lat,hch.later C6.lat,C6.lat⟩)
end Go.Proofs.YtdhgpkdjdmlphaaGreat
