/-
  Lemmas for the last text of this claim (part 16 of 20).
-/
import Derived.ArgAppend
import Derived.BigQuiet
import Derived.BigRegion
import Derived.ChangeOld
import Derived.Deep.RegionWith
import Derived.DeepKeys4
import Derived.JoinedCond
import Derived.LaidMore
import Derived.Laws.Append
import Derived.Laws.BytesArg
import Derived.Laws.CopyOwn
import Derived.Laws.Externs
import Derived.Laws.IdiomStrings
import Derived.Laws.Tables
import Derived.Lib.AppendStr
import Derived.Lib.AppendZerosOnto
import Derived.Lib.Mul64
import Derived.Lib.SlBytesConst
import Derived.LoopN
import Derived.Maps.OwnSet
import Derived.OpenShut
import Derived.OrdersHeld
import Derived.ProofKit
import Derived.Shelf.Spec.BitsCarry
import Derived.ShutString
import Derived.Test.YticcbmhcgmhohaaGreatProg
import Derived.Test.YticcbmhcgmhohaaGreatRows
import Derived.WalkKit
import Derived.WalkLawsBesides
import Derived.WalkSpells
import Derived.Test.YticcbmhcgmhohaaGreatPB
import Derived.Test.YticcbmhcgmhohaaGreatPH
import Derived.Test.YticcbmhcgmhohaaGreatPL
import Derived.Test.YticcbmhcgmhohaaGreatPM
import Derived.Test.YticcbmhcgmhohaaGreatPN
import Derived.Test.YticcbmhcgmhohaaGreatPO
open Int renaming natCast_mul → QEp, toNat_natCast → QEv
open List renaming replicate → QCC, getElem?_cons_succ → QCD, getElem?_cons_zero → QCE, length_map → QCF, nil_append → QCH, cons_append → QCI, getElem?_eq_getElem → QCJ, getD_eq_getElem?_getD → QCK, setIfInBounds_toArray → QCL, length_append → QCM, set_cons_zero → QCN, set_cons_succ → QCO, getElem?_append_right → QCR, length_replicate → QCS, map_toArray → QCT, append_assoc → QCU, getElem?_eq_some_iff → QCV, getElem?_append_left → QCW, getElem?_map → QCY, mem_cons → QCZ, map_nil → QC3, length_take → QC5, length_drop → QC6, map_cons → QC9, take_append_drop → QDa, drop_left' → QDj, eq_nil_of_length_eq_zero → QDk, take_append_of_le_length → QDo, map_append → QDq, mem_map → QDs, range → QDu, take_left' → QDx, getElem?_drop → QDE, drop_eq_getElem_cons → QDP, getElem_mem → QD0, mem_append → QD3, drop_drop → QD5, drop_eq_nil_of_le → QEc, mem_singleton → QEK, getElem_of_mem → QEQ, range_succ → QER, map_congr_left → QES, drop_append → QET
open Nat renaming le_refl → QCP, lt_of_lt_of_le → QCX, mod_eq_of_lt → QC1, le_trans → QDm, mul_comm → QDD, pow_succ → QDF, min_eq_left → QDK, sub_self → QDL, le_mul_of_pos_right → QDO, add_comm → QEB, pow_zero → QEW, sub_zero → QE0
open Option renaming toList_some → QCG, map_some → QEd
open UInt32 renaming ofNat → QDg, ofInt → QEl
open UInt64 renaming ofNat → QC7, toNat_ofNat' → QDb
open UInt8 renaming ofNat → QDe, ofInt → QDh, toNat_inj → QDr, toNat_ofNat' → QDB, lt_iff_toNat_lt → QEu
set_option linter.all false
namespace Go.Proofs.YticcbmhcgmhohaaGreat
open Go.RowKit
open Go.BigFrame
def bigB:Nat→Nat→List UInt8
 | 0,_=>[]
 | w+1,n=>bigB w (n/256)++[QDe n]
theorem Qap:∀w n,(bigB w n).length=w
 | 0,_=>rfl
 | w+1,n=>by rw[bigB,QCM,Qap w];rfl
theorem Qfk:∀w n,beN (bigB w n) 0=n%256^w
 | 0,n=>by rw[bigB,beN,QEW,Nat.mod_one]
 | w+1,n=>by
   rw[bigB,Qfw,Qfk w]
   show n/256%256^w*256+(QDe n).toNat=_
   rw[QDB,show 2^8=256 from rfl,QDF,QDD (256^w),Nat.mod_mul]
   omega
def encB (c:Cmd):List UInt8:=[c.kd,c.fl]++(bigB 4 c.dl.toNat++(bigB 8 c.nx.toNat++(c.ma.val++[0,0])))
theorem QcE (c:Cmd):(encB c).length=32:=by simp[encB,Qap,c.ma.2]
theorem Qxz {a b:Cmd} (h1:a.kd=b.kd) (h2:a.fl=b.fl) (h3:a.dl=b.dl) (h4:a.nx=b.nx) (h5:a.ma.val=b.ma.val):a=b:=by
 cases a
 cases b
 simp only at h1 h2 h3 h4
 subst h1 h2 h3 h4
 congr
 exact Subtype.ext h5
theorem Qlx (c:Cmd):QfL (encB c)=c:=by
 have hm:=c.ma.2
 refine Qxz rfl rfl ?_ ?_ ?_
 ·show QDg (beN (subB (encB c) 2 4) 0)=c.dl
  rw[encB,QbQ _ _ _ 2 4 rfl (Qap _ _),Qfk,QC1 (by have:=c.dl.toNat_lt;omega),UInt32.ofNat_toNat]
 ·show QC7 (beN (subB (encB c) 6 8) 0)=c.nx
  rw[encB,←QCU,QbQ _ _ _ 6 8 (by rw[QCM,Qap];rfl) (Qap _ _),Qfk,QC1 (by have:=c.nx.toNat_lt;omega),UInt64.ofNat_toNat]
 ·rw[QjQ _ (QcE c),encB,←QCU,←QCU,QbQ _ _ _ 14 16 (by rw[QCM,QCM,Qap,Qap];rfl) hm]
theorem QlE (c:Cmd):(encB c).getD 30 0=0∧(encB c).getD 31 0=0:=by
 have h:encB c=([c.kd,c.fl]++bigB 4 c.dl.toNat++bigB 8 c.nx.toNat++c.ma.val)++[0,0]:=by simp[encB]
 have hl:([c.kd,c.fl]++bigB 4 c.dl.toNat++bigB 8 c.nx.toNat++c.ma.val).length=30:=by simp[Qap,c.ma.2]
 rw[h]
 constructor
 ·rw[QCK,QCR (by omega),hl];rfl
 ·rw[QCK,QCR (by omega),hl];rfl
theorem Qn2 (c:Cmd):decE (encB c)=cmdE c:=by
 rw[decE,Qlx,(QlE c).1,(QlE c).2,if_neg (fun h=>by have:=h.2;simp at this)]
theorem Qu1 (c:Cmd) (h:cmdE c=0):decC (encB c)=c:=by rw[decC,Qn2,if_pos h,Qlx]
theorem Qka (key:List UInt8) (n:Nat) (h:n≤288):chaS key n=(chaS key 288).take n:=by
 rw[Qih key n 5 (by omega),Qih key 288 5 (by omega),List.take_take,QDK h]
theorem QmF {p q s t:List UInt8} (h:p.length=s.length):xorB (p++q) (s++t)=xorB p s++xorB q t:=List.zipWith_append h
theorem Qll (p q:List UInt8) (k:Nat):(xorB p q).drop k=xorB (p.drop k) (q.drop k):=List.drop_zipWith
theorem QhJ (p q:List UInt8) (k:Nat):(xorB p q).take k=xorB (p.take k) (q.take k):=List.take_zipWith
def QeS (st:Nat→List UInt8):Nat→List UInt8
 | 0=>[]
 | k+1=>xorB (QeS st k++QCC 48 0) ((chaS (kStr (st k)) 288).drop (288-48*(k+1)))
theorem Qc9 (st:Nat→List UInt8):∀k,k≤5→(QeS st k).length=48*k
 | 0,_=>rfl
 | k+1,h=>by
   have ih:=Qc9 st k (by omega)
   rw[QeS,QaX (by simp[ih,Qaz];omega),QC6,Qaz]
   omega
def betA (n:Nat) (sl st:Nat→List UInt8):Nat→List UInt8
 | 0=>xorB (sl (n-1)++QCC (208-48*(n-1)) 0) (chaS (kStr (st (n-1))) (240-48*(n-1)))++QeS st (n-1)
 | j+1=>xorB (sl (n-2-j)++(tagB (kMac (st (n-1-j))) (kAlp (st (n-1-j))) (betA n sl st j)++(betA n sl st j).take 192)) (chaS (kStr (st (n-2-j))) 240)
def tagA (n:Nat) (sl st:Nat→List UInt8) (j:Nat):List UInt8:=tagB (kMac (st (n-1-j))) (kAlp (st (n-1-j))) (betA n sl st j)
def hdrA (n:Nat) (sl st:Nat→List UInt8) (j:Nat):List UInt8:=kAlp (st (n-1-j))++(tagA n sl st j++betA n sl st j)
theorem Qbw (k al be:List UInt8):(tagB k al be).length=16:=by rw[tagB,QC5,QaK];rfl
section
variable {n:Nat} {sl st:Nat→List UInt8} (hn1:1≤n) (hn5:n≤5) (hsl:∀k,(sl k).length=32)
include hn1 hn5 hsl
theorem Qby:∀j,(betA n sl st j).length=240
 | 0=>by
   have:=Qc9 st (n-1) (by omega)
   rw[betA,QCM,QaX (by rw[QCM,hsl,QCS,Qaz];omega),Qaz,this]
   omega
 | j+1=>by
   have ih:=Qby j
   rw[betA,QaX (by rw[QCM,hsl,QCM,Qbw,QC5,ih,Qaz];omega),Qaz]
theorem Qo5 (j:Nat):xorB (betA n sl st (j+1)) (chaS (kStr (st (n-2-j))) 240)=sl (n-2-j)++(tagA n sl st j++(betA n sl st j).take 192):=by
 have ih:=Qby (st:=st) hn1 hn5 hsl j
 rw[betA,Qee (by rw[QCM,hsl,QCM,Qbw,QC5,ih,Qaz];omega)]
 rfl
theorem Ql2:∀j,j+1≤n→(betA n sl st j).drop (240-48*(n-1-j))=QeS st (n-1-j)
 | 0,_=>by
   rw[betA,QE0,QDj (by rw[QaX (by rw[QCM,hsl,QCS,Qaz];omega),Qaz])]
 | j+1,hj=>by
   have ih:=Ql2 j (by omega)
   have hbl:=Qby (st:=st) hn1 hn5 hsl j
   obtain⟨i,hi⟩:∃i,i=n-2-j:=⟨_,rfl⟩
   have hi1:n-1-j=i+1:=by omega
   have hi2:n-1-(j+1)=i:=by omega
   have hfl:=Qc9 st i (by omega)
   rw[hi1]at ih
   have hX:(chaS (kStr (st i)) 240).drop (240-48*i)=((chaS (kStr (st i)) 288).drop (240-48*i)).take (48*i):=by
    rw[Qka _ 240 (by omega),List.drop_take,show 240-(240-48*i)=48*i by omega]
   have hB:((betA n sl st j).take 192).drop (192-48*i)=xorB (QeS st i) (((chaS (kStr (st i)) 288).drop (240-48*i)).take (48*i)):=by
    rw[List.drop_take,show 192-(192-48*i)=48*i by omega,show 192-48*i=240-48*(i+1) by omega,ih,QeS,QhJ,QDx hfl,show 288-48*(i+1)=240-48*i by omega]
   have hcut:(sl i++(tagB (kMac (st (n-1-j))) (kAlp (st (n-1-j))) (betA n sl st j)++(betA n sl st j).take 192)).drop (240-48*i)=((betA n sl st j).take 192).drop (192-48*i):=by
    rw[←QCU,QET,QEc (by rw[QCM,hsl,Qbw];omega),QCH,QCM,hsl,Qbw,show 240-48*i-(32+16)=192-48*i by omega]
   rw[hi2,betA,←hi,Qll,hcut,hB,hX,Qee (by rw[hfl,QC5,QC6,Qaz];omega)]
theorem Qj9 (j:Nat) (ha:(kAlp (st (n-1-j))).length=32):subB (hdrA n sl st j) 0 32=kAlp (st (n-1-j))∧subB (hdrA n sl st j) 32 16=tagA n sl st j∧subB (hdrA n sl st j) 48 240=betA n sl st j:=by
 have ht:(tagA n sl st j).length=16:=Qbw _ _ _
 have hb:=Qby (st:=st) hn1 hn5 hsl j
 refine⟨Qjf _ _ _ ha,QbQ _ _ _ _ _ ha ht,?_⟩
 rw[hdrA,←QCU,Ql4 _ _ _ _ (by rw[QCM,ha,ht]) hb]
theorem Qnl (j:Nat) (ha:(kAlp (st (n-1-j))).length=32):(hdrA n sl st j).length=288:=by
 have hb:=Qby (st:=st) hn1 hn5 hsl j
 rw[hdrA,QCM,QCM,ha,hb,tagA,Qbw]
theorem Qx4 (j:Nat) (ha:(kAlp (st (n-1-j))).length=32):Qme (hdrA n sl st j) (st (n-1-j))=true:=by
 obtain⟨h1,h2,h3⟩:=Qj9 (sl:=sl) hn1 hn5 hsl j ha
 rw[Qme,h1,h2,h3]
 exact decide_eq_true rfl
theorem QtH (ha:(kAlp (st (n-1))).length=32):(Qcm (hdrA n sl st 0) (st (n-1))).take 32=sl (n-1):=by
 have h3:=(Qj9 (sl:=sl) hn1 hn5 hsl 0 (by rw[QE0];exact ha)).2.2
 have hb:=Qby (st:=st) hn1 hn5 hsl 0
 rw[Qcm,h3,QhJ,QDo (by omega),betA]
 have h1:(xorB (sl (n-1)++QCC (208-48*(n-1)) 0) (chaS (kStr (st (n-1))) (240-48*(n-1)))).length=240-48*(n-1):=by
  rw[QaX (by rw[QCM,hsl,QCS,Qaz];omega),Qaz]
 rw[QDo (by rw[h1];omega),QhJ,QDx (hsl _),Qka _ (240-48*(n-1)) (by omega),List.take_take,QDK (by omega)]
 exact Qee (by rw[hsl,QC5,Qaz];omega)
theorem QuL (j:Nat) (hj:j+1<n) (ha:(kAlp (st (n-1-(j+1)))).length=32):Qcm (hdrA n sl st (j+1)) (st (n-1-(j+1)))=sl (n-1-(j+1))++(tagA n sl st j++betA n sl st j):=by
 have h3:=(Qj9 (sl:=sl) hn1 hn5 hsl (j+1) ha).2.2
 have hb:=Qby (st:=st) hn1 hn5 hsl j
 have hb1:=Qby (st:=st) hn1 hn5 hsl (j+1)
 have hf:=Ql2 (st:=st) hn1 hn5 hsl j (by omega)
 obtain⟨i,hi⟩:∃i,i=n-2-j:=⟨_,rfl⟩
 have hi1:n-1-j=i+1:=by omega
 have hi2:n-1-(j+1)=i:=by omega
 have hfl:=Qc9 st i (by omega)
 have hpl:=Qo5 (st:=st) hn1 hn5 hsl j
 rw[hi1]at hf
 rw[←hi]at hpl
 rw[hi2]
 rw[Qcm,h3]
 have hS:chaS (kStr (st i)) 288=chaS (kStr (st i)) 240++(chaS (kStr (st i)) 288).drop 240:=by rw[Qka _ 240 (by omega),QDa]
 have hd:(betA n sl st j).drop 192=(chaS (kStr (st i)) 288).drop 240:=by
  have h4:(betA n sl st j).drop 192=(QeS st (i+1)).drop (48*i):=by rw[←hf,QD5,show 240-48*(i+1)+48*i=192 by omega]
  rw[h4,QeS,Qll,QDj hfl,QD5,show 288-48*(i+1)+48*i=240 by omega,QgG _ _ (by rw[QC6,Qaz])]
 rw[hS,QmF (by rw[hb1,Qaz]),hpl,QgG _ _ (by rw[QC6,Qaz]),QCU,QCU,←hd,QDa]
end
theorem Qku (d:Int) (h0:0≤d) (h1:d<4294967296):((QEl d).toNat:Int)=d:=by
 rw[Qk2]
 omega
theorem QeQ (d:Int) (h0:0≤d) (h1:d<256):((QDh d).toNat:Int)=d:=by
 rw[QoP]
 omega
def Qbr (p:Prt):List UInt8:=QCC 16 0++([p.kd,QDh p.ix,QDh p.ct,0]++(bigB 8 p.id.toNat++(bigB 2 p.da.length++(p.da++QCC (450-p.da.length) 0))))
theorem Qe9 (p:Prt) (h:p.da.length≤450):(Qbr p).length=480:=by
 simp[Qbr,Qap]
 omega
theorem QoW:∀(l:List UInt8) (k:Nat),l.length=k→bigB k (beN l 0)=l:=by
 intro l k h
 induction k generalizing l with
 | zero=>rw[QDk h];rfl
 | succ k ih=>
   have hne:l≠[]:=by rintro rfl;cases h
   obtain⟨q,b,rfl⟩:∃q b,l=q++[b]:=⟨l.dropLast,l.getLast hne,(List.dropLast_concat_getLast hne).symm⟩
   have hq:q.length=k:=by simpa using h
   have hb:=b.toNat_lt
   have e:beN (q++[b]) 0=beN q 0*256+b.toNat:=by rw[Qfw];rfl
   rw[bigB,e,show (beN q 0*256+b.toNat)/256=beN q 0 by omega,ih q hq]
   congr 2
   apply QDr.1
   rw[QDB]
   show (beN q 0*256+b.toNat)%256=_
   omega
theorem Qr6 (b:List UInt8) (hb:b.length=480) (n:Nat) (_hn:n≤450):
 b=b.take 16++([b.getD 16 0,b.getD 17 0,b.getD 18 0,b.getD 19 0]++(subB b 20 8++(subB b 28 2++(subB b 30 n++b.drop (30+n))))):=by
 have h1:subB b 30 n++b.drop (30+n)=b.drop 30:=by rw[subB,←QD5,QDa]
 have h2:subB b 28 2++b.drop 30=b.drop 28:=by rw[subB,show b.drop 30=(b.drop 28).drop 2 by rw[QD5],QDa]
 have h3:subB b 20 8++b.drop 28=b.drop 20:=by rw[subB,show b.drop 28=(b.drop 20).drop 8 by rw[QD5],QDa]
 have g:∀i (h:i<b.length),b.getD i 0=b[i]:=fun i h=>by rw[QCK,QCJ h];rfl
 have h4:[b.getD 16 0,b.getD 17 0,b.getD 18 0,b.getD 19 0]++b.drop 20=b.drop 16:=by
  rw[g 16 (by omega),g 17 (by omega),g 18 (by omega),g 19 (by omega),QDP (i:=16) (by omega),QDP (i:=17) (by omega),QDP (i:=18) (by omega),QDP (i:=19) (by omega)]
  rfl
 rw[h1,h2,h3,h4,QDa]
theorem QuJ (b:List UInt8) (hb:b.length=480):Qcp b<65536:=by
 have:=Qtx (subB b 28 2) 0 1 (by omega)
 rw[Qaq (by omega)]at this
 unfold Qcp
 omega
theorem QjM (b:UInt8):QDh (b.toNat:Int)=b:=by
 apply QDr.1
 have:=b.toNat_lt
 have:=QeQ (b.toNat:Int) (by omega) (by omega)
 omega
theorem Qli (b:List UInt8) (hb:b.length=480) (hs:Qcp b≤450):(QgZ b).da.length=Qcp b:=Qaq (by omega)
theorem Qny (b:List UInt8) (hb:b.length=480) (h16:b.take 16=QCC 16 0) (hs:Qcp b≤450):
 Qbr (QgZ b)=b↔b.getD 19 0=0∧b.drop (30+Qcp b)=QCC (450-Qcp b) 0:=by
 have hc:=Qr6 b hb (Qcp b) hs
 have hl:=Qli b hb hs
 have e1:bigB 8 (QgZ b).id.toNat=subB b 20 8:=by
  show bigB 8 (QC7 (beN (subB b 20 8) 0)).toNat=_
  have h8:(subB b 20 8).length=8:=Qaq (by omega)
  have:=Qtx (subB b 20 8) 0 1 (by omega)
  rw[h8]at this
  rw[QDb,QC1 (by omega)]
  exact QoW _ _ h8
 have e2:bigB 2 (QgZ b).da.length=subB b 28 2:=by
  rw[hl]
  exact QoW _ _ (Qaq (by omega))
 have e3:Qbr (QgZ b)=b.take 16++([b.getD 16 0,b.getD 17 0,b.getD 18 0,0]++(subB b 20 8++(subB b 28 2++(subB b 30 (Qcp b)++QCC (450-Qcp b) 0)))):=by
  rw[Qbr,e1,e2,hl,h16]
  show _++([b.getD 16 0,QDh ((b.getD 17 0).toNat:Int),QDh ((b.getD 18 0).toNat:Int),0]++_)=_
  rw[QjM,QjM]
  rfl
 constructor
 ·intro h
  have h':Qbr (QgZ b)=b.take 16++([b.getD 16 0,b.getD 17 0,b.getD 18 0,b.getD 19 0]++(subB b 20 8++(subB b 28 2++(subB b 30 (Qcp b)++b.drop (30+Qcp b))))):=h.trans hc
  rw[e3]at h'
  have h2:=List.append_cancel_left h'
  have h3:=List.append_inj h2 rfl
  have h4:=List.append_cancel_left h3.2
  have h5:=List.append_cancel_left (List.append_cancel_left h4)
  refine⟨?_,h5.symm⟩
  have:=h3.1
  simp only[List.cons.injEq,and_true,true_and]at this
  exact this.symm
 ·rintro⟨h1,h2⟩
  rw[e3]
  conv=>rhs;rw[hc]
  rw[h1,h2]
theorem QxQ {a b:Prt} (h1:a.kd=b.kd) (h2:a.id=b.id) (h3:a.ix=b.ix) (h4:a.ct=b.ct) (h5:a.da=b.da):a=b:=by
 cases a
 cases b
 simp only at h1 h2 h3 h4 h5
 subst h1 h2 h3 h4 h5
 rfl
theorem Qlu {p:Prt} (h:prtE p=0): ¬(p.kd<1∨3<p.kd)∧p.da.length≤450∧1≤p.ct∧p.ct≤16∧0≤p.ix∧p.ix<p.ct:=by
 unfold prtE at h
 split at h
 ·cases h
 ·rename_i h1
  split at h
  ·cases h
  ·rename_i h2
   split at h
   ·cases h
   ·rename_i h3
    exact⟨h1,by omega,by omega,by omega,by omega,by omega⟩
theorem QmL (p:Prt) (h:prtE p=0):parE (Qbr p)=0∧parP (Qbr p)=p:=by
 obtain⟨h1,h2,h3,h4,h5,h6⟩:=Qlu h
 have hl:=Qe9 p h2
 have g:∀i x,(Qbr p)[i]?=some x→(Qbr p).getD i 0=x:=fun i x h=>by rw[QCK,h];rfl
 have t16:(Qbr p).take 16=QCC 16 0:=QDx (by simp)
 have d16:(Qbr p).drop 16=[p.kd,QDh p.ix,QDh p.ct,0]++(bigB 8 p.id.toNat++(bigB 2 p.da.length++(p.da++QCC (450-p.da.length) 0))):=QDj (by simp)
 have a16:(Qbr p).getD 16 0=p.kd∧(Qbr p).getD 17 0=QDh p.ix∧(Qbr p).getD 18 0=QDh p.ct∧(Qbr p).getD 19 0=0:=by
  have e:∀i,(Qbr p)[16+i]?=((Qbr p).drop 16)[i]?:=fun i=>by rw[QDE]
  exact⟨g 16 _ (by rw[show 16=16+0 from rfl,e,d16];rfl),g 17 _ (by rw[show 17=16+1 from rfl,e,d16];rfl),g 18 _ (by rw[show 18=16+2 from rfl,e,d16];rfl),g 19 _ (by rw[show 19=16+3 from rfl,e,d16];rfl)⟩
 have s20:subB (Qbr p) 20 8=bigB 8 p.id.toNat:=by
  rw[Qbr,←QCU,QbQ _ _ _ 20 8 (by simp) (Qap _ _)]
 have s28:subB (Qbr p) 28 2=bigB 2 p.da.length:=by
  rw[Qbr,←QCU,←QCU,QbQ _ _ _ 28 2 (by simp[Qap]) (Qap _ _)]
 have hs:Qcp (Qbr p)=p.da.length:=by
  rw[Qcp,s28,Qfk]
  omega
 have s30:subB (Qbr p) 30 p.da.length=p.da:=by
  rw[Qbr,←QCU,←QCU,←QCU,QbQ _ _ _ 30 _ (by simp[Qap]) rfl]
 have hof:QgZ (Qbr p)=p:=by
  refine QxQ a16.1 ?_ ?_ ?_ ?_
  ·show QC7 (beN (subB (Qbr p) 20 8) 0)=p.id
   rw[s20,Qfk,QC1 (by have:=p.id.toNat_lt;omega),UInt64.ofNat_toNat]
  ·show (((Qbr p).getD 17 0).toNat:Int)=p.ix
   rw[a16.2.1,QeQ _ (by omega) (by omega)]
  ·show (((Qbr p).getD 18 0).toNat:Int)=p.ct
   rw[a16.2.2.1,QeQ _ (by omega) (by omega)]
  ·show subB (Qbr p) 30 (Qcp (Qbr p))=p.da
   rw[hs,s30]
 have hag:=(Qny (Qbr p) hl t16 (by omega)).1 (by rw[hof])
 have hE:parE (Qbr p)=0:=by
  rw[parE,if_neg (by omega),if_neg (fun f=>f t16),a16.1,if_neg h1,if_neg (by rw[hag.1,hs];simp;omega),hof,h,if_neg (by rw[hag.2];simp)]
 exact⟨hE,by rw[parP,if_pos hE,hof]⟩
theorem QqI (b:List UInt8) (hb:b.length=480):parE b=if allZ (b.take 16)=false then 7 else if b.getD 16 0<1∨3<b.getD 16 0 then 1 else if b.getD 19 0≠0∨450<Qcp b then 3 else if prtE (QgZ b)≠0∨allZ (b.drop (30+Qcp b))=false then 3 else 0:=by
 have h1:(b.take 16≠QCC 16 0)=(allZ (b.take 16)=false):=by
  have:=QkJ (b.take 16)
  rw[show (b.take 16).length=16 by rw[QC5];omega]at this
  rw[Ne,←this,Bool.not_eq_true]
 rw[parE,if_neg (by omega)]
 simp only[h1]
 by_cases hs:450<Qcp b
 ·rw[if_pos (show b.getD 19 0≠0∨450<Qcp b from .inr hs),if_pos (show b.getD 19 0≠0∨450<Qcp b from .inr hs)]
 ·have h2:(b.drop (30+Qcp b)≠QCC (450-Qcp b) 0)=(allZ (b.drop (30+Qcp b))=false):=by
   have:=QkJ (b.drop (30+Qcp b))
   rw[show (b.drop (30+Qcp b)).length=450-Qcp b by rw[QC6];omega]at this
   rw[Ne,←this,Bool.not_eq_true]
  simp only[h2]
set_option maxRecDepth 100000 in
set_option maxHeartbeats 4000000 in
theorem Qo7 (A:Option Addr) (c:Nat) (b:List UInt8) (w:World) (hb:RdB w A 480 b) (hc:480≤c):
 Calls Tryz.prog 77 #[.slice A 480 c] w fun e w'=>∃A' c',e= .returned (.tuple #[.agg (PaC (parP b) (.slice A' (parP b).da.length c')).toArray,.int .i64 (parE b:Nat)])∧OwnB w' w.heap.size A' (parP b).da.length c' (parP b).da∧Later w w':=by
 have hbl:=hb.len
 obtain⟨b0,o,rfl,hb00,_⟩:=hb.2 (by omega)
 have hE:=hid (QqI b hbl)
 have hP:Hid (parP b=if parE b=0 then QgZ b else prt0):=hid rfl
 have hOf:Hid (QgZ b=⟨b.getD 16 0,QC7 (beN (subB b 20 8) 0),((b.getD 17 0).toNat:Int),((b.getD 18 0).toNat:Int),subB b 30 (Qcp b)⟩):=hid rfl
 have hsp:Hid (Qcp b=beN (subB b 28 2) 0):=hid rfl
 have hs6:=QuJ b hbl
 have hZ1:=hid (fun (w:World) (h:RdB w (some ⟨b0,o,none⟩) 480 b)=>QoB (some ⟨b0,o,none⟩) 16 c (b.take 16) w (h.take (by omega)) (by omega))
 have hG1:=hid (fun (w:World) (h:RdB w (some ⟨b0,o,none⟩) 480 b)=>Qgt (some ⟨b0,o,none⟩) 480 c 20 8 b w h (by omega) (by omega) (by omega) (by omega))
 have hG2:=hid (fun (w:World) (h:RdB w (some ⟨b0,o,none⟩) 480 b)=>Qgt (some ⟨b0,o,none⟩) 480 c 28 2 b w h (by omega) (by omega) (by omega) (by omega))
 rw[←hsp.out]at hG2
 have hcl:=hid (fun (w:World) (h:RdB w (some ⟨b0,o,none⟩) 480 b)=>(⟨Qc8 h 16 (by omega),Qc8 h 17 (by omega),Qc8 h 18 (by omega),Qc8 h 19 (by omega)⟩:w.cell? ⟨b0,o+16,none⟩=some (W8 (b.getD 16 0))∧w.cell? ⟨b0,o+17,none⟩=some (W8 (b.getD 17 0))∧w.cell? ⟨b0,o+18,none⟩=some (W8 (b.getD 18 0))∧w.cell? ⟨b0,o+19,none⟩=some (W8 (b.getD 19 0))))
 have hsl:=hid (fun hs=>Qli b hbl hs)
 generalize parE b=E at *
 generalize parP b=PP at *
 generalize QgZ b=P at *
 generalize hS:Qcp b=S at *
 generalize QC7 (beN (subB b 20 8) 0)=ID at *
 generalize b.getD 16 0=x16 at *
 generalize b.getD 17 0=x17 at *
 generalize b.getD 18 0=x18 at *
 generalize b.getD 19 0=x19 at *
 clear hsp hS
 have C1:=QaW w 110 pz0
 have hb0:=Qru
 generalize allZ (b.take 16)=F1 at *
 go_enter Tryz.func77,Tryz.ntmps77
 go_wp2_with fail
 (refine (hZ1.out _ (hb.later C1.lat)).mono ?_);rintro e w2 ⟨rfl,j2⟩
 have C2:=C1.later j2
 clear hZ1 j2 C1
 cases F1
 ·have HE:E=7:=hE.out.trans (if_pos rfl)
  have HP:PP=prt0:=by rw[hP.out,if_neg (by rw[HE];decide)]
  replace HE:=hid HE
  replace HP:=hid HP
  clear hP hE hcl hG1 hG2
  go_wp2_with (first
   | (refine Qaj rfl 110 _ rfl (PaC prt0 (.slice none 0 0)) (by simp only[QCT,QC3];exact hb0) ?_)
   | (refine Qdq rfl rfl _ _ rfl (C2.nth 0 rfl) rfl rfl rfl rfl ?_;intro e7 eb7 eo7
      have E7:=C2.write 0 rfl eo7 eb7)
   | fail)
  exact bodyPost_ret (Qai rfl _ _ _ _ _ _ (E7.nth 0 rfl) rfl Tryz.underlying110 rfl (by rw[Qb4];exact Qgg)) rfl ⟨none,0,by rw[HE.out,HP.out];rfl,by rw[HP.out];exact Qcq _ _ _,E7.lat⟩
 replace hE:=hid (hE.out.trans (if_neg (by decide)))
 obtain⟨k16,k17,k18,k19⟩:=hcl.out _ (hb.later C2.lat)
 have hb0lt:b0<w2.heap.size:=QCX hb00 C2.lat.size
 by_cases h1:x16<1∨3<x16
 ·have h13:(decide (x16<1)||decide (3<x16))=true:=by simpa using h1
  by_cases h11:x16<1
  all_goals
   have h33:x16<1∨3<x16:=h1
   simp only[h11,true_or,false_or]at h33
   have HE:E=1:=hE.out.trans (if_pos h1)
   have HP:PP=prt0:=by rw[hP.out,if_neg (by rw[HE];decide)]
   replace HE:=hid HE
   replace HP:=hid HP
   clear hP hE hcl hG1 hG2
   go_wp2_with (first
    | (refine Qaj rfl 110 _ rfl (PaC prt0 (.slice none 0 0)) (by simp only[QCT,QC3];exact hb0) ?_)
    | (refine Qdq rfl rfl _ _ rfl (C2.nth 0 rfl) rfl rfl rfl rfl ?_;intro e7 eb7 eo7
       have E7:=C2.write 0 rfl eo7 eb7)
    | fail)
   exact bodyPost_ret (Qai rfl _ _ _ _ _ _ (E7.nth 0 rfl) rfl Tryz.underlying110 rfl (by rw[Qb4];exact Qgg)) rfl ⟨none,0,by rw[HE.out,HP.out];rfl,by rw[HP.out];exact Qcq _ _ _,E7.lat⟩
 have h11: ¬x16<1:=fun h=>h1 (.inl h)
 have h13: ¬ 3<x16:=fun h=>h1 (.inr h)
 replace hE:=hid (hE.out.trans (if_neg h1))
 clear h1
 go_wp2_with fail
 (refine (hG1.out _ (hb.later C2.lat)).mono ?_);rintro e w3 ⟨rfl,j3⟩
 go_wp2_with fail
 (refine (hG2.out _ (hb.later (C2.lat.trans j3))).mono ?_);rintro e w4 ⟨rfl,j4⟩
 have C4:=(C2.later j3).later j4
 clear k16 k17 k18 k19 j3 j4 C2 hb0lt
 obtain⟨k16,k17,k18,k19⟩:=hcl.out _ (hb.later C4.lat)
 have hb0lt:b0<w4.heap.size:=QCX hb00 C4.lat.size
 obtain⟨z,hz⟩:∃z,z=QC7 S:=⟨_,rfl⟩
 have hzS:z.toNat=S:=by rw[hz,QDb,QC1 (by omega)]
 rw[←hz]
 clear hz
 have hlt450:(450:UInt64)<z↔450<S:=by rw[UInt64.lt_iff_toNat_lt,hzS];rfl
 by_cases hx:x19≠0∨450<S
 ·by_cases h19:x19=0
  ·have n1:(x19 != 0)=false:=by simpa using h19
   have n2:(450:UInt64)<z:=hlt450.2 (hx.resolve_left (fun f=>f h19))
   clear h19 hlt450
   have HE:E=3:=hE.out.trans (if_pos hx)
   have HP:PP=prt0:=by rw[hP.out,if_neg (by rw[HE];decide)]
   replace HE:=hid HE
   replace HP:=hid HP
   clear hP hE hcl hG1 hG2
   go_wp2_with (first
    | (refine Qaj rfl 110 _ rfl (PaC prt0 (.slice none 0 0)) (by simp only[QCT,QC3];exact hb0) ?_)
    | (refine Qdq rfl rfl _ _ rfl (C4.nth 0 rfl) rfl rfl rfl rfl ?_;intro e7 eb7 eo7
       have E7:=C4.write 0 rfl eo7 eb7)
    | fail)
   exact bodyPost_ret (Qai rfl _ _ _ _ _ _ (E7.nth 0 rfl) rfl Tryz.underlying110 rfl (by rw[Qb4];exact Qgg)) rfl ⟨none,0,by rw[HE.out,HP.out];rfl,by rw[HP.out];exact Qcq _ _ _,E7.lat⟩
  ·have n1:(x19 != 0)=true:=by simpa using h19
   clear h19 hlt450
   have HE:E=3:=hE.out.trans (if_pos hx)
   have HP:PP=prt0:=by rw[hP.out,if_neg (by rw[HE];decide)]
   replace HE:=hid HE
   replace HP:=hid HP
   clear hP hE hcl hG1 hG2
   go_wp2_with (first
    | (refine Qaj rfl 110 _ rfl (PaC prt0 (.slice none 0 0)) (by simp only[QCT,QC3];exact hb0) ?_)
    | (refine Qdq rfl rfl _ _ rfl (C4.nth 0 rfl) rfl rfl rfl rfl ?_;intro e7 eb7 eo7
       have E7:=C4.write 0 rfl eo7 eb7)
    | fail)
   exact bodyPost_ret (Qai rfl _ _ _ _ _ _ (E7.nth 0 rfl) rfl Tryz.underlying110 rfl (by rw[Qb4];exact Qgg)) rfl ⟨none,0,by rw[HE.out,HP.out];rfl,by rw[HP.out];exact Qcq _ _ _,E7.lat⟩
 have n1:(x19 != 0)=false:=by
  cases e:(x19 != 0)
  ·rfl
  ·exact absurd (.inl (by simpa using e)) hx
 have hS4:S≤450:=by omega
 have n2: ¬(450:UInt64)<z:=fun h=>by have:=hlt450.1 h;omega
 replace hE:=hid (hE.out.trans (if_neg hx))
 clear hx hlt450
 have w17:IntKind.i64.wrap (x17.toNat:Int)=(x17.toNat:Int):=by have:=x17.toNat_lt;rw[IntKind.wrap_i64];omega
 have w18:IntKind.i64.wrap (x18.toNat:Int)=(x18.toNat:Int):=by have:=x18.toNat_lt;rw[IntKind.wrap_i64];omega
 have wz:IntKind.i64.wrap (z.toNat:Int)=(S:Int):=by rw[hzS,IntKind.wrap_i64];omega
 clear hzS
 have hP0:P=⟨x16,ID,(x17.toNat:Int),(x18.toNat:Int),subB b 30 S⟩:=hOf.out
 have hdl:=hsl.out hS4
 have hCk:=hid (fun (w:World) A' c'=>Qjk P A' S c' hdl w)
 have hZ2:=hid (fun (w:World) A' c' (h:RdB w A' (480-(30+S)) (b.drop (30+S)))=>QoB A' (480-(30+S)) c' (b.drop (30+S)) w h (by omega))
 have hR2:=hid (fun (w:World) (h:RdB w (some ⟨b0,o,none⟩) 480 b)=>(⟨fun hne:c≠30+S=>by
  have:=h.cut (k:=30+S) (c:=c) (by omega) hc
  rw[cutA,if_neg hne]at this
  rw[show some (⟨b0,o+(30+S),none⟩:Addr)=(some (⟨b0,o,none⟩:Addr)).map (·.add (30+S)) by rw[QEd,QcK]]
  exact this,fun he:c=30+S=>⟨by rw[QCF,QC6];omega,fun h=>absurd h (by omega)⟩⟩:(c≠30+S→RdB w (some ⟨b0,o+(30+S),none⟩) (480-(30+S)) (b.drop (30+S)))∧(c=30+S→RdB w (some ⟨b0,o,none⟩) (480-(30+S)) (b.drop (30+S)))))
 have hCp:=hid (fun (w:World) (h:RdB w (some ⟨b0,o,none⟩) 480 b)=>Qp3 (some ⟨b0,o+30,none⟩) S (c-30) (subB b 30 S) w (by
  by_cases h0:S=0
  ·rw[h0]
   exact⟨rfl,fun h=>absurd h (by omega)⟩
  ·exact QmW h 30 S (by omega) (by omega)) (by omega))
 have hda:Hid (P.da=subB b 30 S):=hid (by rw[hP0])
 generalize hD:subB b 30 S=D at *
 clear hOf hD
 generalize allZ (b.drop (30+S))=F2 at *
 generalize prtE P=CE at *
 have f0:(0:Int)≤(S:Int):=by omega
 have f1:(S:Int)≤450:=by omega
 have f2:((30:Int)+(S:Int)).toNat=30+S:=by omega
 go_wp2_with fail
 have C5:=C4.drew
 have m0:=hb.later C5.lat
 refine Qag [([0,1,2,3,4,5,6,7,8,9,10,11,12],13)] [] [14] (by as_aux_lemma=>kernel_rfl) (by as_aux_lemma=>kernel_rfl) (by intro _ _ d _ _ h;cases d<;>exact h) ?_
 simp only[Qah,pick,QCD,QCE,QCG,QCI,QCH]
 repeat (first|go_big_quiet_skip|(go_big_quiet_want;(refine Qcc _ _ rfl (PaC ⟨x16,ID,(x17.toNat:Int),(x18.toNat:Int),[]⟩ (.slice none 0 0)) (by simp only[QCT,QC9,QC3];exact Qso _ _ _ _) ?_);simp only[Act.put,QCL,QCO,QCN];go_big_quiet_on)|(go_big_quiet_step (fail)))
 refine wpQuiet_nil ?_
 go_wp2_with fail
 try refine⟨by first|assumption|exact Qab _|exact Qaa _ _|exact Later.refl _,?_⟩
 try simp only[Qah,pick,QCD,QCE,QCG,QCI,QCH]
 repeat (go_big_quiet_step (fail))
 refine wpQuiet_nil ?_
 go_wp2_with (first
  | (refine Qdq rfl rfl _ _ rfl (Blk.new w4.drew _ pz0) rfl rfl rfl rfl ?_;intro w6 hb6 ho6
     have C6:=C5.push (Qaa _ _) (QCP _) ho6 hb6)
  | fail)
 (refine (hCp.out _ (hb.later C6.lat)).mono ?_);rintro e w7 ⟨rfl,hb7,j7⟩
 have C7:=C6.fresh j7 (QCP _) hb7
 have hset:Hid ((PaC ⟨x16,ID,(x17.toNat:Int),(x18.toNat:Int),[]⟩ (.slice none 0 0)).set 4 (.slice (some ⟨w6.heap.size,0,none⟩) S S)=PaC P (.slice (some ⟨w6.heap.size,0,none⟩) S S)):=hid (by rw[hP0];rfl)
 clear hb7 j7 hb6 ho6 C4 C5 hCp m0 hP0
 by_cases hc0:CE=0
 ·subst hc0
  go_wp2_with (first
   | (refine Qad rfl rfl _ _ _ rfl w4.drew.heap.size 4 _ _ (C7.nth 1 rfl) rfl (by rw[Qb4];omega) rfl (by kernel_rfl) ?_;intro v8 w8 hv8 hb8 ho8;simp[go_sem]at hv8;subst hv8;rw[hset.out]at hb8
      have C8:=C7.write 1 rfl ho8 hb8)
   | (refine Qj6 rfl _ rfl (C8.nth 1 rfl) rfl ?_)
   | fail)
  (refine (hCk.out _ _ _).mono ?_);rintro e w9 ⟨rfl,j9⟩
  have C9:=C8.later j9
  have hR9:=hid (hR2.out _ (hb.later C9.lat))
  by_cases hcs:c=30+S
  all_goals
   have hR10:=hid (by first|exact hR9.out.2 hcs|exact hR9.out.1 hcs)
   go_wp2_with fail
   (with_reducible refine (hZ2.out _ _ _ hR10.out).mono ?_);rintro e w10 ⟨rfl,j10⟩
   have C10:=C9.later j10
   cases F2
   ·replace hE:=hid (hE.out.trans (if_pos (.inr rfl)))
    have HE:E=3:=hE.out
    have HP:PP=prt0:=by rw[hP.out,if_neg (by rw[HE];decide)]
    replace HE:=hid HE
    replace HP:=hid HP
    clear hP hE
    go_wp2_with (first
     | (refine Qaj rfl 110 _ rfl (PaC prt0 (.slice none 0 0)) (by simp only[QCT,QC3];exact hb0) ?_)
     | (refine Qdq rfl rfl _ _ rfl (C10.nth 2 rfl) rfl rfl rfl rfl ?_;intro e7 eb7 eo7
        have E7:=C10.write 2 rfl eo7 eb7)
     | fail)
    exact bodyPost_ret (Qai rfl _ _ _ _ _ _ eb7 rfl Tryz.underlying110 rfl (by rw[Qb4];exact Qgg)) rfl ⟨none,0,by rw[HE.out,HP.out];rfl,by rw[HP.out];exact Qcq _ _ _,E7.lat⟩
   ·replace hE:=hid (hE.out.trans (if_neg (by simp)))
    have HP:PP=P:=by rw[hP.out,if_pos hE.out]
    replace HP:=hid HP
    go_wp2_with (first
     | (refine Qj6 rfl _ rfl (C10.nth 1 rfl) rfl ?_)
     | (refine Qdq rfl rfl _ _ rfl (C10.nth 2 rfl) rfl rfl rfl rfl ?_;intro e7 eb7 eo7
        have E7:=C10.write 2 rfl eo7 eb7)
     | fail)
    refine bodyPost_ret (Qai rfl _ _ _ _ _ _ eb7 rfl Tryz.underlying110 rfl (by rw[Qb4];exact Qgg)) rfl ⟨some ⟨w6.heap.size,0,none⟩,S,by rw[hE.out,HP.out,hdl];rfl,?_,E7.lat⟩
    rw[HP.out,hda.out]
    have hDl:D.length=S:=by rw[←hda.out];exact hdl
    have:=Qdt (E7.nth 0 rfl) (E7.at_low 0 rfl) (by rw[QCF,hDl];omega)
    rw[QCF,hDl]at this
    rw[hDl]
    exact this
 ·have hne:((CE:Int) != 0)=true:=by simp;omega
  replace hE:=hid (hE.out.trans (if_pos (.inl hc0)))
  clear hc0
  have HE:E=3:=hE.out
  have HP:PP=prt0:=by rw[hP.out,if_neg (by rw[HE];decide)]
  replace HE:=hid HE
  replace HP:=hid HP
  clear hP hE
  go_wp2_with (first
   | (refine Qad rfl rfl _ _ _ rfl w4.drew.heap.size 4 _ _ (C7.nth 1 rfl) rfl (by rw[Qb4];omega) rfl (by kernel_rfl) ?_;intro v8 w8 hv8 hb8 ho8;simp[go_sem]at hv8;subst hv8;rw[hset.out]at hb8
      have C8:=C7.write 1 rfl ho8 hb8)
   | (refine Qj6 rfl _ rfl (C8.nth 1 rfl) rfl ?_)
   | fail)
  (refine (hCk.out _ _ _).mono ?_);rintro e w9 ⟨rfl,j9⟩
  have C9:=C8.later j9
  go_wp2_with (first
   | (refine Qaj rfl 110 _ rfl (PaC prt0 (.slice none 0 0)) (by simp only[QCT,QC3];exact hb0) ?_)
   | (refine Qdq rfl rfl _ _ rfl (C9.nth 2 rfl) rfl rfl rfl rfl ?_;intro e7 eb7 eo7
      have E7:=C9.write 2 rfl eo7 eb7)
   | fail)
  exact bodyPost_ret (Qai rfl _ _ _ _ _ _ eb7 rfl Tryz.underlying110 rfl (by rw[Qb4];exact Qgg)) rfl ⟨none,0,by rw[HE.out,HP.out];rfl,by rw[HP.out];exact Qcq _ _ _,E7.lat⟩
def stA (x:List UInt8) (ps:List (List UInt8)):Nat→List UInt8×List (List UInt8)
 | 0=>(Qbe x (nb 9),[x])
 | k+1=>(Qbe (derB (Qcw (ps.getD k []) (stA x ps k).2).1 Qb8) (stA x ps k).1,(stA x ps k).2++[derB (Qcw (ps.getD k []) (stA x ps k).2).1 Qb8])
def secA (x:List UInt8) (ps:List (List UInt8)) (k:Nat):List UInt8:=(Qcw (ps.getD k []) (stA x ps k).2).1
def errA (x:List UInt8) (ps:List (List UInt8)) (k:Nat):Nat:=(Qcw (ps.getD k []) (stA x ps k).2).2
def Qcv (x:List UInt8) (ps:List (List UInt8)) (k:Nat):List UInt8:=Qks (stA x ps k).1 (secA x ps k)
def goE (x:List UInt8) (ps:List (List UInt8)):Nat→Nat→Nat
 | 0,_=>0
 | r+1,k=>if errA x ps k=0 then goE x ps r (k+1) else errA x ps k
def fitS (x:List UInt8) (ps:List (List UInt8)):Prop:=x.length=32∧1≤ps.length∧ps.length≤5∧∀p∈ps,p.length=32
open Classical in
noncomputable def QcR (x:List UInt8) (ps:List (List UInt8)):Nat:=if fitS x ps then goE x ps ps.length 0 else 2
def Qdk (x:List UInt8) (ps:List (List UInt8)) (k:Nat):List (List UInt8):=(QDu k).map (Qcv x ps)
theorem Qd1 (x:List UInt8) (ps:List (List UInt8)) (k:Nat):(stA x ps k).1.length=32:=by
 cases k<;>exact QaT _ _
theorem Qiy (x:List UInt8) (ps:List (List UInt8)) (k:Nat):(secA x ps k).length=32:=Qj5 _ _
theorem Qbj (x:List UInt8) (ps:List (List UInt8)) (k:Nat):(Qcv x ps k).length=192:=Qha _ _ (Qd1 x ps k) (Qiy x ps k)
theorem QfI (x:List UInt8) (ps:List (List UInt8)):∀k,(stA x ps k).2.length=k+1
 | 0=>rfl
 | k+1=>by
   rw[stA]
   simp[QfI x ps k]
theorem Qfv (x:List UInt8) (hx:x.length=32) (ps:List (List UInt8)):∀k,∀p∈(stA x ps k).2,p.length=32
 | 0,p,h=>by
   rw[stA,QEK]at h
   rw[h,hx]
 | k+1,p,h=>by
   rw[stA]at h
   rcases QD3.1 h with h|h
   ·exact Qfv x hx ps k p h
   ·rw[QEK.1 h,QaB]
theorem QoO (x:List UInt8) (hx:x.length=32) (ps:List (List UInt8)):∀k,∃q,Ed.From9 q∧(stA x ps k).1=nb q
 | 0=>⟨_,Ed.from9_step Ed.from9_nine x hx,(Qfq x 9 hx QvO).1⟩
 | k+1=>by
   obtain⟨q,hq,e⟩:=QoO x hx ps k
   refine⟨_,Ed.from9_step hq (derB (Qcw (ps.getD k []) (stA x ps k).2).1 Qb8) (QaB _ _),?_⟩
   rw[stA,e]
   exact (Qfq _ q (QaB _ _) hq.1).1
theorem Qom (x:List UInt8) (hx:x.length=32) (ps:List (List UInt8)) (k:Nat) (b:List UInt8) (hb:b.length=32):Qbf b (stA x ps k).1=0:=by
 obtain⟨q,hq,e⟩:=QoO x hx ps k
 rw[e,(Qfq b q hb hq.1).2,if_neg (Ed.from9_ne (Ed.from9_step hq b hb))]
theorem Qng (x:List UInt8) (ps:List (List UInt8)) (k:Nat):Qdk x ps (k+1)=Qdk x ps k++[Qcv x ps k]:=by
 rw[Qdk,QER,QDq]
 rfl
theorem Qgj (x:List UInt8) (ps:List (List UInt8)) (k:Nat):(Qdk x ps k).length=k:=by simp[Qdk]
theorem QgX (x:List UInt8) (ps:List (List UInt8)) (k:Nat):∀s∈Qdk x ps k,s.length=192:=by
 intro s hs
 obtain⟨j,_,rfl⟩:=QDs.1 hs
 exact Qbj x ps j
theorem Qm4 (x:List UInt8) (ps:List (List UInt8)) (k:Nat):(Qdk x ps (k+1)).flatten.map W8=(Qdk x ps k).flatten.map W8++(Qcv x ps k).map W8:=by
 rw[Qng,List.flatten_append,QDq]
 simp
theorem QhO (x:List UInt8) (ps:List (List UInt8)) (k:Nat):subB (Qcv x ps k) 96 32=derB (secA x ps k) Qb8:=Qm6 _ _
theorem QeH (x:List UInt8) (ps:List (List UInt8)) (k:Nat):subB (Qcv x ps k) 128 32=(stA x ps k).1:=QmI _ _ (Qd1 x ps k)
def ScP (w0:World) (g8:Nat) (w:World) (v:Value) (p:List UInt8):Prop:=
 (∃ A c,v= .slice A 32 c∧32≤c∧RdB w0 A 32 p)∨(∃ b,v= .slice (some ⟨b,0,none⟩) 32 32∧b≠g8∧p.length=32∧Blk w b 25 (p.map W8))∨(∃ A c base,v= .slice A 32 c∧OwnB w base A 32 c p)
structure ScRow (w0:World) (g8:Nat) (w:World) (v:Value) (sc:List (List UInt8)) (vs:List Value):Prop where
 own:w.ownsRow w0.heap.size 22 1 v sc.length vs
 len:vs.length=sc.length
 each:∀(j:Nat) u p,vs[j]?=some u→sc[j]?=some p→ScP w0 g8 w u p
theorem Qus:(25:TypeId)≠22:=by decide
theorem ne8L:(5:TypeId)≠22:=by decide
theorem QBE:(5:TypeId)≠25:=by decide
theorem ScP.later {w0 w w':World} {g8:Nat} {v:Value} {p:List UInt8} (h:ScP w0 g8 w v p) (j:Later w w'):ScP w0 g8 w' v p:=by
 rcases h with h|⟨b,h1,h2,h3,h4⟩|⟨A,c,base,h1,h2⟩
 ·exact .inl h
 ·exact .inr (.inl ⟨b,h1,h2,h3,h4.later j⟩)
 ·exact .inr (.inr ⟨A,c,base,h1,Qa5 h2 j⟩)
theorem ScP.part {w0 w:World} {g8:Nat} {v:Value} {p:List UInt8} (h:ScP w0 g8 w v p) (j:Later w0 w):Part w (fun _=>False) v p:=by
 rcases h with ⟨A,c,rfl,hc,h⟩|⟨b,rfl,_,h3,h4⟩|⟨A,c,base,rfl,h2⟩
 ·exact QaM (h.later j) hc
 ·exact QaM (Qcr h4 h3) (QCP _)
 ·exact QaM h2.rd h2.cap
theorem ScP.only {w0 w w':World} {g8:Nat} {v:Value} {p:List UInt8} {l:List Value} (h:ScP w0 g8 w v p) (hg:Blk w g8 25 l) (ho:Only g8 w w'):ScP w0 g8 w' v p:=by
 rcases h with h|⟨b,h1,h2,h3,h4⟩|⟨A,c,base,h1,h2⟩
 ·exact .inl h
 ·exact .inr (.inl ⟨b,h1,h2,h3,h4.only ho h2⟩)
 ·exact .inr (.inr ⟨A,c,base,h1,QdA h2 hg (fun e=>QBE e.symm) ho⟩)
theorem ScP.grown {w0 w w':World} {g8 base sz:Nat} {v v2:Value} {p:List UInt8} {e:TypeId} {n:Nat} {vs:List Value} (h:ScP w0 g8 w v p) (hown:w.ownsRow base e sz v2 n vs) (h1:25≠e) (h2:5≠e) (hg:w.grownBy w' v2.ownBlock):ScP w0 g8 w' v p:=by
 rcases h with h|⟨b,k1,k2,k3,k4⟩|⟨A,c,base',k1,k2⟩
 ·exact .inl h
 ·exact .inr (.inl ⟨b,k1,k2,k3,Qek k4 hown h1 hg⟩)
 ·exact .inr (.inr ⟨A,c,base',k1,QgQ k2 hown h2 hg⟩)
theorem ScRow.later {w0 w w':World} {g8:Nat} {v:Value} {sc:List (List UInt8)} {vs:List Value} (h:ScRow w0 g8 w v sc vs) (j:Later w w'):ScRow w0 g8 w' v sc vs:=
 ⟨Qa5 h.own j,h.len,fun k u p hu hp=>(h.each k u p hu hp).later j⟩
theorem ScRow.only {w0 w w':World} {g8:Nat} {v:Value} {sc:List (List UInt8)} {vs:List Value} {l:List Value} (h:ScRow w0 g8 w v sc vs) (hg:Blk w g8 25 l) (ho:Only g8 w w'):ScRow w0 g8 w' v sc vs:=
 ⟨QdA h.own hg Qus ho,h.len,fun k u p hu hp=>(h.each k u p hu hp).only hg ho⟩
theorem ScRow.grown {w0 w w':World} {g8 base sz:Nat} {v v2:Value} {sc:List (List UInt8)} {us vs:List Value} {e:TypeId} {n:Nat} (h:ScRow w0 g8 w v sc us) (hown:w.ownsRow base e sz v2 n vs) (h0:22≠e) (h1:25≠e) (h2:5≠e) (hg:w.grownBy w' v2.ownBlock):ScRow w0 g8 w' v sc us:=
 ⟨QgQ h.own hown h0 hg,h.len,fun k u p hu hp=>(h.each k u p hu hp).grown hown h1 h2 hg⟩
theorem ScRow.snoc {w0 w w':World} {g8:Nat} {v v' u:Value} {sc:List (List UInt8)} {vs:List Value} {p:List UInt8} (h:ScRow w0 g8 w v sc vs) (hu:ScP w0 g8 w u p) (hg:w.grownBy w' v.ownBlock) (hown:w'.ownsRow w0.heap.size 22 1 v' (sc.length+1) (vs++[u])):ScRow w0 g8 w' v' (sc++[p]) (vs++[u]):=by
 refine⟨by rw[QCM];exact hown,by simp[h.len],fun j x q hx hq=>?_⟩
 by_cases hj:j<vs.length
 ·rw[QCW hj]at hx
  rw[QCW (by rw[←h.len];exact hj)]at hq
  exact (h.each j x q hx hq).grown h.own Qus ne8L hg
 ·rw[QCR (by omega)]at hx
  rw[QCR (by rw[←h.len];omega),←h.len]at hq
  have h0:j-vs.length=0:=by
   have:=(QCV.1 hx).1
   simp at this
   omega
  rw[h0]at hx hq
  cases hx
  cases hq
  exact hu.grown h.own Qus ne8L hg
theorem ScRow.parts {w0 w:World} {g8:Nat} {A:Option Addr} {n c:Nat} {sc:List (List UInt8)} {vs:List Value} (h:ScRow w0 g8 w (.slice A n c) sc vs) (hn:sc.length=n) (j:Later w0 w):Parts w (fun _=>False) A n sc:=by
 have ho:=h.own
 rw[hn]at ho
 exact⟨vs,Qid ho,fun _ _ _ h=>h,h.len,fun k u p hu hp=>(h.each k u p hu hp).part j⟩
section
variable {P:Program} {ops:Array Oper} {rest:List Oper} {o:Oper} {a:Act} {w:World} {Q:Exit→Act→World→Prop}
theorem Qhr (hgd:o.guard=none) (l c:Operand) (t:TypeId) (ho:o.op=Op.makeSlice t l c) (e:TypeId) (v:Value) (m bytes:Nat) (ht:P.underlying t=some (.slice e))
 (hinfo:(P.info? e).map (fun i=>(i.zero,i.size,i.bytes))=some (some (.agg (QCC m v).toArray),m,bytes)) (hm:0<m) (kl kc:IntKind) (C:Int) (n:Nat) (hl:a.eval l= .int kl 0) (hc:a.eval c= .int kc C) (hC:C=(n:Int))
 (hby:0<bytes) (hsz:n*bytes≤140737488355328) (h:∀w',Blk w' w.heap.size e (QCC (n*m) v)→Later w w'→wpList P ops Q rest (a.put o.dst (.slice (some ⟨w.heap.size,0,none⟩) 0 n)) w'):
 wpList P ops Q (o :: rest) a w:=by
 cases hq:P.info? e with
 | none=>simp[hq]at hinfo
 | some i=>
   simp only[hq,QEd,Option.some.injEq,Prod.mk.injEq]at hinfo
   obtain⟨hz,hsize,hbytes⟩:=hinfo
   have hn:n≤140737488355328:=QDm (QDO _ hby) hsz
   refine wpList_plain hgd fun K hK=>?_
   have hb:((i.bytes:Int)*(n:Int))≤281474976710656:=by
    rw[hbytes,←QEp,QDD]
    omega
   have hr:=run_make (P:=P) w t e i _ ht hq hz kl kc 0 n (by omega) (by omega) hb (by omega)
   have hcells:(Value.agg (QCC m v).toArray).cells=(QCC m v).toArray:=rfl
   simp only[QEv,Int.toNat_zero,hsize,hcells,Qog m _ v hm]at hr
   subst hC
   unfold Oper.wp
   simp only[execOp,ho,hl,hc,Sem.run_bind,hr,Result.andThen_ok,Sem.run_pure]
   exact hK _ _ (h _ (Blk.new w e _) (Qaa _ _))
end
theorem QjR {x:List UInt8} {ps:List (List UInt8)} (h: ¬fitS x ps):QcR x ps=2:=by rw[QcR,if_neg h]
theorem Qpd {x:List UInt8} {ps:List (List UInt8)} (h:fitS x ps):QcR x ps=goE x ps ps.length 0:=by rw[QcR,if_pos h]
theorem Qrr:(Tryz.prog.info? 170).map (fun i=>(i.zero,i.size,i.bytes))=some (some (.agg (QCC 192 (W8 0)).toArray),192,192):=by kernel_rfl
theorem Qty:(Tryz.prog.info? 170).map (fun i=>(i.zero,i.size))=some (some (.agg (QCC 192 (W8 0)).toArray),192):=by kernel_rfl
theorem QmX {w:World} {base sz:Nat} {e:TypeId} {v:Value} {n:Nat} {vs:List Value} (h:w.ownsRow base e sz v n vs):∀b,v.ownBlock=some b→b<w.heap.size:=fun b hb=>(h.lt b hb).2
theorem Qqb:(25:TypeId)≠170:=by decide
theorem ne8S:(5:TypeId)≠170:=by decide
theorem neLS:(22:TypeId)≠170:=by decide
set_option maxRecDepth 100000 in
set_option maxHeartbeats 8000000 in
theorem QiQ (A B:Option Addr) (n c m d:Nat) (x:List UInt8) (ps:List (List UInt8)) (w:World) (hx:RdB w A n x) (hc:n≤c) (hp:Parts w (fun _=>False) B m ps) (hm:m≤140737488355328):
 Calls Tryz.prog 43 #[.slice A n c,.slice B m d] w fun e w'=>Later w w'∧((QcR x ps≠0∧e= .returned (.tuple #[.slice none 0 0,.int .i64 (QcR x ps:Nat)]))∨
  (QcR x ps=0∧∃A' c',e= .returned (.tuple #[.slice A' m c',.int .i64 0])∧m≤c'∧RdK 192 w' A' m (Qdk x ps m)∧∀b o,A'=some ⟨b,o,none⟩→w.heap.size≤b)):=by
 have hxl:=hx.len
 have hpsl:=hp.len
 by_cases hok:n=32∧1≤m∧m≤5
 ·obtain⟨rfl,hm1,hm5⟩:=hok
  have k1:decide ((m:Int)<1)=false:=decide_eq_false (by omega)
  have k2:decide ((5:Int)<(m:Int))=false:=decide_eq_false (by omega)
  have hF:=hid (fun (h:∀p∈ps,p.length=32)=>Qpd (x:=x) (ps:=ps) ⟨hxl,by omega,by omega,h⟩)
  have hB:=hid (fun (h: ¬ ∀p∈ps,p.length=32)=>QjR (x:=x) (ps:=ps) (fun f=>h f.2.2.2))
  have hbadk:=hid (fun k (h:k<ps.length) (hk:(ps.getD k []).length≠32) (ha:∀p∈ps,p.length=32)=>hk (ha _ (QdC ps k h)))
  have hPub:=hid (fun (w:World) h=>QpN A 32 c x w h (by omega))
  rw[Qzw x hxl]at hPub
  have h0l:=QaT x (nb 9)
  have hst0:Hid ((stA x ps 0).1=Qbe x (nb 9)∧(stA x ps 0).2=[x]):=hid ⟨rfl,rfl⟩
  generalize QcR x ps=E0 at *
  generalize Qbe x (nb 9)=al0 at *
  go_enter Tryz.func43,Tryz.ntmps43
  go_wp2_with fail
  go_loopw [33] (fun i wr=>∃k:Nat,k≤m∧i= .int .i64 k∧Hid (∀ j,j<k→(ps.getD j []).length=32)∧Later w wr) (fun i _=>m-(intOf i).toNat)
  case atStart=>exact⟨0,by omega,rfl,hid (fun j h=>by omega),Later.refl w⟩
  case round=>
   obtain⟨k,hk,rfl,hall,L⟩:=hrel
   by_cases hlt:k<m
   ·obtain⟨b,o,Ak,nk,ck,rfl,hb,hck,hcap,hrd,_⟩:=(hp.later L).at_ hlt
    have hlen:=hrd.len
    have hb2:=hid (fun h=>hB.out (hbadk.out k (by omega) h))
    rw[hlen]at hb2
    have hstep:Hid (nk=32→∀j,j<k+1→(ps.getD j []).length=32):=hid (fun h j hj=>by
     by_cases e:j=k
     ·rw[e,hlen,h]
     ·exact hall.out j (by omega))
    clear hrd hlen
    by_cases h32:nk=32
    ·have hne:((nk:Int) != 32)=false:=by simp;omega
     go_wp2_with fail
     go_roundw
     case rel=>exact⟨k+1,by omega,by go_num,hid (hstep.out h32),L⟩
     case measure=>simp[intOf];omega
    ·have hne:((nk:Int) != 32)=true:=by simp;omega
     go_wp2_with fail
     go_ret2
     exact⟨L,.inl (by rw[hb2.out h32];exact⟨by decide,rfl⟩)⟩
   ·have hall':=Qoc ps (fun j hj=>hall.out j (by omega))
    have hE:=hF.out hall'
    have HE:=hid hE
    have HA:=hid hall'
    clear hF hB hbadk hall hall' hE
    go_wp2_with fail
    (with_reducible refine (hPub.out _ (hx.later L)).mono ?_);rintro e w1 ⟨rfl,j1⟩
    go_wp2_with (first
     | (refine QaG rfl rfl _ _ rfl (Blk.new w1 _ (QCC 32 (.int .u8 0))) rfl rfl h0l rfl ?_;intro w2 hb2 ho2)
     | (refine Qhr rfl _ _ _ rfl 170 (W8 0) 192 192 Tryz.underlying161 Qrr (by omega) _ _ _ m rfl rfl rfl (by omega) (by omega) ?_;intro w3 hb3 hl3)
     | fail)
    have L1:=L.trans j1
    have hg8:w.heap.size≤w1.heap.size:=L1.size
    have L2:=(L1.trans (Qaa w1 (.cells (QCC 32 (Value.int .u8 0)).toArray 25))).only ho2 hg8
    have L3:=L2.trans hl3
    have hrow:=QcW (Qt9 hb3 L2.size (by rw[QCS]) (by unfold maxLen;omega)) (Qaa w3 (.cells #[.slice A 32 c] 22))
    have hal:=(hb2.later hl3).later (Qaa w3 (.cells #[.slice A 32 c] 22))
    have L4:=L3.trans (Qaa w3 (.cells #[.slice A 32 c] 22))
    have hsc:ScRow w w1.heap.size (w3.alloc (.cells #[.slice A 32 c] 22)) (.slice (some ⟨w3.heap.size,0,none⟩) 1 1) [x] [.slice A 32 c]:=
     ⟨Qc3 (Qre w3 22 [.slice A 32 c] (by simp)) L3.size,rfl,fun j u p hu hp=>by
       have hj:j=0:=by have:=(QCV.1 hu).1;simpa using this
       subst hj
       cases hu
       cases hp
       exact .inl ⟨A,c,rfl,hc,hx⟩⟩
    clear hb2 ho2 hb3 hl3 j1 L1 L2 L3 L hPub
    generalize w3.alloc _=w4 at *
    generalize w1.heap.size=g8 at *
    go_loopw [10,11,56] (fun v u i wr=>∃(k:Nat) (vs:List Value),k≤m∧i= .int .i64 k∧wr.ownsRow w.heap.size 170 192 v k ((Qdk x ps k).flatten.map W8)∧ScRow w g8 wr u (stA x ps k).2 vs∧Blk wr g8 25 ((stA x ps k).1.map W8)∧Later w wr∧Hid (E0=goE x ps (m-k) k)) (fun _ _ i _=>m-(intOf i).toNat)
    case atStart=>exact⟨0,_,by omega,rfl,hrow,hsc,by rw[hst0.out.1];exact hal,L4,hid (by rw[HE.out,hpsl];rfl)⟩
    case round=>
     clear hrow hsc hal L4
     obtain⟨k,vs,hk,rfl,hrow,hsc,hal,L,HG⟩:=hrel
     by_cases hlt:k<m
     ·obtain⟨b,o,Ak,nk,ck,rfl,hb,hck,hcap,hrd,_⟩:=(hp.later L).at_ hlt
      have hlen:=hrd.len
      obtain rfl:nk=32:=by rw[←hlen];exact HA.out _ (QdC ps k (by omega))
      have hscl:(stA x ps k).2.length=k+1:=QfI x ps k
      have hsc32:=hid (Qfv x hxl ps k)
      have hall:=Qd1 x ps k
      have cC:Hid (∀ (w:World) B d,RdB w Ak 32 (ps.getD k [])→Parts w (fun _=>False) B (k+1) (stA x ps k).2→
       Calls Tryz.prog 94 #[.slice Ak 32 ck,.slice B (k+1) d] w fun e w'=>e= .returned (.tuple #[.agg ((secA x ps k).map W8).toArray,.int .i64 (errA x ps k:Nat)])∧Later w w'):=
       hid (fun w B d h1 h2=>QsK Ak B 32 ck (k+1) d (ps.getD k []) (stA x ps k).2 w h1 h2 (by omega) (by omega))
      have hsl:=Qiy x ps k
      have hTl:=Qbj x ps k
      have F1:=hid (show Qcv x ps k=k4 (secA x ps k)++((stA x ps k).1++secA x ps k) from rfl)
      have F2:=hid (show (stA x ps (k+1)).1=Qbe (derB (secA x ps k) Qb8) (stA x ps k).1 from rfl)
      have F3:=hid (show (stA x ps (k+1)).2=(stA x ps k).2++[derB (secA x ps k) Qb8] from rfl)
      have F4:=QhO x ps k
      have F5:=QeH x ps k
      have F6:=Qom x hxl ps k (derB (secA x ps k) Qb8) (QaB _ _)
      have F7:=hid (Qm4 x ps k)
      have F8:=hid (show errA x ps k=0→E0=goE x ps (m-(k+1)) (k+1) by
       intro h
       have:=HG.out
       rw[show m-k=(m-(k+1))+1 by omega,goE,if_pos h]at this
       exact this)
      have F9:=hid (show errA x ps k≠0→E0=errA x ps k by
       intro h
       have:=HG.out
       rw[show m-k=(m-(k+1))+1 by omega,goE,if_neg h]at this
       exact this)
      have hbl:=QaB (secA x ps k) Qb8
      obtain⟨B1,d1,hu,hd1⟩:=Qg2 hsc.own
      rw[hscl]at hu hd1
      subst hu
      have hdone:=hid (QgX x ps (k+1))
      clear HG hlen
      generalize Qcv x ps k=T at *
      generalize derB (secA x ps k) Qb8=bl at *
      generalize hS:secA x ps k=S at *
      generalize errA x ps k=e1 at *
      generalize (stA x ps k).1=al at *
      generalize (stA x ps k).2=sc at *
      generalize ps.getD k []=p at *
      by_cases he:e1=0
      ·subst he
       have G1:=F8.out rfl
       have hSt:=hid (fun w=>Qje al S hall hsl w)
       rw[←F1.out]at hSt
       have hNx:=hid (fun w=>Qoi T bl al hTl F4 F5 w)
       rw[F6]at hNx
       have hNl:=QaT bl al
       rw[←F2.out]at hNx hNl
       clear F1 F2 F6 F8 F9 hS
       generalize ha2:(stA x ps (k+1)).1=al2 at *
       have HA2:=hid ha2
       clear ha2
       have hzc:=Qx8
       have H4:=hid F4
       have HG1:=hid G1
       clear F4 F5 G1
       go_wp2_with fail
       (with_reducible refine (cC.out _ B1 d1 hrd (hsc.parts hscl L)).mono ?_);rintro e w5 ⟨rfl,j5⟩
       go_wp2_with (first
        | (refine QaG rfl rfl _ _ rfl (Blk.new w5 _ (QCC 32 (.int .u8 0))) rfl rfl hsl rfl ?_;intro w6 hb6 ho6
           have J6:=(j5.trans (Qaa w5 (.cells (QCC 32 (Value.int .u8 0)).toArray 25))).only ho6 j5.size
           have hal6:=hal.later J6)
        | (refine QeM rfl _ rfl hal6 hall rfl ?_)
        | (refine QeM rfl _ rfl hb6 hsl rfl ?_)
        | fail)
       (with_reducible refine (hSt.out _).mono ?_);rintro e w7 ⟨rfl,j7⟩
       have hgr:∀b,u10.ownBlock=some b→b<w7.heap.size:=fun b hb=>QCX (QmX hrow b hb) (J6.trans j7).size
       have hcase:(((k:Int)+1==(m:Int))=true∧k+1=m)∨(((k:Int)+1==(m:Int))=false∧k+1<m):=by
        simp only[beq_iff_eq,beq_eq_false_iff_ne,ne_eq]
        omega
       rcases hcase with ⟨kl,hlast⟩|⟨kl,hlast⟩
       ·go_wp2_with (first
         | (refine QeC rfl rfl _ _ rfl (Blk.new w7 _ Tryz.zeroCells170.toList) rfl rfl hTl hzc ?_;intro w8 hb8 ho8
            have J8:=(J6.trans j7).trans ((Qaa w7 (.cells Tryz.zeroCells170 170)).only ho8 (QCP _))
            have J8':=J8.trans (Qaa w8 (.cells (T.map W8).toArray 170)))
         | (refine Qe8 rfl _ rfl hb8 hTl rfl ?_)
         | (refine QlW rfl 161 _ rfl 170 192 _ T Tryz.underlying161 Qty (by omega) (by omega) hTl rfl ?_)
         | (refine Qdz rfl _ _ _ rfl 170 _ 192 192 Tryz.underlying161 Qrr rfl (by omega) w _ k _ (QcW hrow J8') (L.trans J8') w8.heap.size 1 1 170 (T.map W8) (Blk.new _ _ _) (by rw[QCF,hTl]) (QaH T) rfl rfl (by omega) (by omega) ?_;intro v9 w9 hown9 hl9 hg9
            have hT9:Blk w9 w7.heap.size 170 (T.map W8):=by
             have h8:=hb8.later (Qaa w8 (.cells (T.map W8).toArray 170))
             refine (hg9.block _ h8.lt ?_).trans h8
             intro e
             exact absurd (hgr _ e.symm) (Nat.lt_irrefl _))
         | (refine Qe8 rfl _ rfl hT9 hTl rfl ?_)
         | fail)
        have hrow8:=QcW hrow J8'
        have hsc9:=(hsc.later J8').grown hrow8 neLS Qqb ne8S hg9
        have hal9:=Qek (hal.later J8') hrow8 Qqb hg9
        have hg8:w.heap.size≤g8∨True:=.inr trivial
        clear hrow hsc hal hb8 ho8 J8 J8' hg9 hrow8 hg8 hgr J6 hal6 hb6 ho6 j5 j7 L
        rw[←F7.out]at hown9
        obtain⟨A9,c9,rfl,hc9⟩:=Qg2 hown9
        have hrd9:=QrV hown9 (Qgj x ps (k+1)) hdone.out
        have hE0:E0=0:=by rw[HG1.out,hlast,QDL];rfl
        rw[hlast]at hrd9 hc9
        go_ret2
        exact⟨hl9,.inr ⟨hE0,A9,c9,by rw[hlast];rfl,hc9,hrd9,fun b o e=>by subst e;exact (hown9.lt b rfl).1⟩⟩
       ·go_wp2_with (first
         | (refine QeC rfl rfl _ _ rfl (Blk.new w7 _ Tryz.zeroCells170.toList) rfl rfl hTl hzc ?_;intro w8 hb8 ho8
            have J8:=(J6.trans j7).trans ((Qaa w7 (.cells Tryz.zeroCells170 170)).only ho8 (QCP _))
            have J8':=J8.trans (Qaa w8 (.cells (T.map W8).toArray 170)))
         | (refine Qe8 rfl _ rfl hb8 hTl rfl ?_)
         | (refine QlW rfl 161 _ rfl 170 192 _ T Tryz.underlying161 Qty (by omega) (by omega) hTl rfl ?_)
         | (refine Qdz rfl _ _ _ rfl 170 _ 192 192 Tryz.underlying161 Qrr rfl (by omega) w _ k _ (QcW hrow J8') (L.trans J8') w8.heap.size 1 1 170 (T.map W8) (Blk.new _ _ _) (by rw[QCF,hTl]) (QaH T) rfl rfl (by omega) (by omega) ?_;intro v9 w9 hown9 hl9 hg9
            have hT9:Blk w9 w7.heap.size 170 (T.map W8):=by
             have h8:=hb8.later (Qaa w8 (.cells (T.map W8).toArray 170))
             refine (hg9.block _ h8.lt ?_).trans h8
             intro e
             exact absurd (hgr _ e.symm) (Nat.lt_irrefl _))
         | (refine Qe8 rfl _ rfl hT9 hTl rfl ?_)
         | fail)
        have hrow8:=QcW hrow J8'
        have hsc9:=(hsc.later J8').grown hrow8 neLS Qqb ne8S hg9
        have hal9:=Qek (hal.later J8') hrow8 Qqb hg9
        have hg8:w.heap.size≤g8∨True:=.inr trivial
        clear hrow hsc hal hb8 ho8 J8 J8' hg9 hrow8 hg8 hgr J6 hal6 hb6 ho6 j5 j7 L
        rw[←F7.out]at hown9
        (with_reducible refine (hNx.out _).mono ?_);rintro e w10 ⟨rfl,j10⟩
        have hT10:=hT9.later j10
        have hal10:=hal9.later j10
        have hsc10:=hsc9.later j10
        have hrow10:=QcW hown9 j10
        have L10:=hl9.trans j10
        have hne:w7.heap.size≠g8:=hT10.ne_type hal10 (fun e=>Qqb e.symm)
        clear hT9 hal9 hsc9 hown9 hl9 j10 hSt hNx cC
        go_wp2_with (first
         | (refine QaG rfl rfl _ _ rfl hal10 rfl rfl hNl (by rw[QCF,hall]) ?_;intro w11 hb11 ho11
            have hT11:=hT10.only ho11 hne)
         | (refine QoL 96 32 rfl _ rfl hT11 rfl Tryz.underlying25 rfl Qfa H4.out hbl ?_)
         | (refine QaG rfl rfl _ _ rfl (Blk.new w11 _ (QCC 32 (.int .u8 0))) rfl rfl hbl rfl ?_;intro w12 hb12 ho12
            have hsc11:=hsc10.only hal10 ho11
            have hrow11:=QdA hrow10 hal10 Qqb ho11
            have L11:=L10.only ho11 hg8
            have J12:Later w11 (w12.alloc (.cells #[.slice (some ⟨w11.heap.size,0,none⟩) 32 32] 22)):=((Qaa w11 (.cells (QCC 32 (Value.int .u8 0)).toArray 25)).only ho12 (QCP _)).trans (Qaa _ _)
            have hsc12:=hsc11.later J12
            have hrow12:=QcW hrow11 J12
            have hal12:=hb11.later J12
            have hbl12:=hb12.later (Qaa w12 (.cells #[.slice (some ⟨w11.heap.size,0,none⟩) 32 32] 22))
            have L12:=L11.trans J12
            have hsco:=hsc12.own
            rw[hscl]at hsco)
         | (refine Qdz rfl _ _ _ rfl 22 _ 1 24 Tryz.underlying74 Quz rfl (by omega) w _ (k+1) vs hsco L12 w12.heap.size 1 1 22 [.slice (some ⟨w11.heap.size,0,none⟩) 32 32] (Blk.new _ _ _) rfl (by intro u hu;rw[QEK.1 hu];rfl) rfl rfl (by omega) (by omega) ?_;intro v13 w13 hown13 hl13 hg13)
         | fail)
        have hsc13:=hsc12.snoc (p:=bl) (.inr (.inl ⟨w11.heap.size,rfl,by have:=hb11.lt;omega,hbl,hbl12⟩)) hg13 (by rw[hscl];exact hown13)
        rw[←F3.out]at hsc13
        have hrow13:=QgQ hrow12 hsco (fun e=>neLS e.symm) hg13
        have hal13:=Qek hal12 hsco Qus hg13
        go_roundw
        case rel=>exact⟨k+1,_,by omega,by go_num,hrow13,hsc13,by rw[HA2.out];exact hal13,hl13,HG1⟩
        case measure=>simp[intOf];omega
      ·have hE0:=F9.out he
       have hne:((e1:Int) != 0)=true:=by simp;omega
       go_wp2_with fail
       (with_reducible refine (cC.out _ B1 d1 hrd (hsc.parts hscl L)).mono ?_);rintro e w5 ⟨rfl,j5⟩
       go_wp2_with (first
        | (refine QaG rfl rfl _ _ rfl (Blk.new w5 _ (QCC 32 (.int .u8 0))) rfl rfl hsl rfl ?_;intro w6 hb6 ho6)
        | fail)
       go_ret2
       exact⟨(L.trans (j5.trans (Qaa w5 _))).only ho6 (L.trans j5).size,.inl ⟨by rw[hE0];exact he,by rw[hE0];rfl⟩⟩
     ·have hkm:k=m:=by omega
      subst hkm
      have hE0:E0=0:=by rw[HG.out,QDL];rfl
      obtain⟨A9,c9,rfl,hc9⟩:=Qg2 hrow
      have hrd9:=QrV hrow (Qgj x ps k) (QgX x ps k)
      go_wp2_with fail
      go_ret2
      exact⟨L,.inr ⟨hE0,A9,c9,rfl,hc9,hrd9,fun b o e=>by subst e;exact (hrow.lt b rfl).1⟩⟩
 ·have hE:=QjR (x:=x) (ps:=ps) (fun f=>hok ⟨by have:=f.1;omega,by have:=f.2.1;omega,by have:=f.2.2.1;omega⟩)
  rw[hE]
  clear hE
  have key:((n:Int) != 32)=true∨(((n:Int) != 32)=false∧decide ((m:Int)<1)=true)∨(((n:Int) != 32)=false∧decide ((m:Int)<1)=false∧decide ((5:Int)<(m:Int))=true):=by
   simp only[bne_iff_ne,bne_eq_false_iff_eq,ne_eq,decide_eq_true_eq,decide_eq_false_iff_not]
   omega
  rcases key with h1|⟨h1,h2⟩|⟨h1,h2,h3⟩
  all_goals
   go_enter Tryz.func43,Tryz.ntmps43
   go_wp2_with fail
   go_ret2
   exact⟨Later.refl w,.inl ⟨by decide,rfl⟩⟩
theorem QjW (A B:Option Addr) (n c m d:Nat) (x:List UInt8) (ps:List (List UInt8)) (w:World) (hx:RdB w A n x) (hc:n≤c) (hp:Parts w (fun _=>False) B m ps) (hm:m≤140737488355328):
 Calls Tryz.prog 43 #[.slice A n c,.slice B m d] w fun e w'=>Later w w'∧((QcR x ps≠0∧e= .returned (.tuple #[.slice none 0 0,.int .i64 (QcR x ps:Nat)]))∨
  (QcR x ps=0∧∃A' c',e= .returned (.tuple #[.slice A' m c',.int .i64 0])∧m≤c'∧RdK 192 w' A' m (Qdk x ps m))):=
 (QiQ A B n c m d x ps w hx hc hp hm).mono fun _ _ h=>⟨h.1,h.2.imp id fun h=>⟨h.1,by obtain⟨A',c',e,h1,h2,_⟩:=h.2;exact⟨A',c',e,h1,h2⟩⟩⟩
end Go.Proofs.YticcbmhcgmhohaaGreat
namespace Go.Proofs.YticcbmhcgmhohaaGreat
open Go.RowKit
def mulF (f:Nat→List UInt8→Nat):Nat→List (List UInt8)→Nat
 | q,[]=>q
 | q,s :: sc=>mulF f (f q s) sc
theorem QlU (f:Nat→List UInt8→Nat) (s:List UInt8):∀(sc:List (List UInt8)) (q:Nat),mulF f q (sc++[s])=f (mulF f q sc) s
 | [],_=>rfl
 | t :: sc,q=>QlU f s sc (f q t)
theorem QlL (f:Nat→List UInt8→Nat) (hf:∀q a b,f (f q a) b=f (f q b) a) (p:List UInt8):∀(sc:List (List UInt8)) (q:Nat),mulF f (f q p) sc=f (mulF f q sc) p
 | [],_=>rfl
 | s :: sc,q=>by
   rw[mulF,mulF,hf,QlL f hf p sc]
theorem Qkc (f:Nat→List UInt8→Nat) (P:Nat→Prop) (hP:∀q s,P q→s.length=32→P (f q s)):∀(sc:List (List UInt8)) (q:Nat),P q→(∀ s∈sc,s.length=32)→P (mulF f q sc)
 | [],_,h,_=>h
 | s :: sc,q,h,hs=>Qkc f P hP sc _ (hP q s h (hs s (by simp))) (fun t ht=>hs t (by simp[ht]))
theorem QlQ (f:Nat→List UInt8→Nat) (P:Nat→Prop) (hP:∀q s,P q→s.length=32→P (f q s)) (hB:∀q s,P q→s.length=32→Qbe s (nb q)=nb (f q s)) (hE:∀q s,P q→s.length=32→Qbf s (nb q)=0):
 ∀(sc:List (List UInt8)) (q:Nat),P q→(∀ s∈sc,s.length=32)→Qd5 sc (nb q)=(nb (mulF f q sc),0)
 | [],_,_,_=>rfl
 | s :: sc,q,hq,hs=>by
   have h32:=hs s (by simp)
   rw[Qd5,hE q s hq h32,hB q s hq h32,if_pos rfl,QlQ f P hP hB hE sc _ (hP q s hq h32) (fun t ht=>hs t (by simp[ht])),mulF]
def mS (q:Nat) (s:List UInt8):Nat:=Ed.multN q (QaL s)
theorem Qw2 (q:Nat) (a b:List UInt8):mS (mS q a) b=mS (mS q b) a:=Ed.multN_comm q (QaL a) (QaL b)
theorem Qj3 (q:Nat) (s:List UInt8) (h:Ed.From9 q) (hs:s.length=32):Ed.From9 (mS q s):=Ed.from9_step h s hs
theorem mS_B (q:Nat) (s:List UInt8) (h:Ed.From9 q) (hs:s.length=32):Qbe s (nb q)=nb (mS q s):=(Qfq s q hs h.1).1
theorem mS_E (q:Nat) (s:List UInt8) (h:Ed.From9 q) (hs:s.length=32):Qbf s (nb q)=0:=by
 rw[(Qfq s q hs h.1).2,if_neg (Ed.from9_ne (Ed.from9_step h s hs))]
theorem QnJ (q:Nat) (sc:List (List UInt8)) (hq:Ed.From9 q) (hs:∀s∈sc,s.length=32):Qcw (nb q) sc=(nb (mulF mS q sc),0):=by
 have h:=QlQ mS Ed.From9 Qj3 mS_B mS_E sc q hq hs
 have h2:=Qn3 q hq.1
 rw[Qcw,if_pos ⟨QbS _,hs⟩,h2,h]
theorem QoK (x:List UInt8) (hx:x.length=32) (ps:List (List UInt8)):∀k,(stA x ps k).1=nb (mulF mS 9 (stA x ps k).2)
 | 0=>by
   have e1:(stA x ps 0).1=Qbe x (nb 9):=rfl
   have e2:(stA x ps 0).2=[x]:=rfl
   have e3:mulF mS 9 [x]=mS 9 x:=by rw[mulF,mulF]
   rw[e1,e2,e3]
   exact mS_B 9 x Ed.from9_nine hx
 | k+1=>by
   have h9:=Qkc mS Ed.From9 Qj3 (stA x ps k).2 9 Ed.from9_nine (Qfv x hx ps k)
   have ih:=QoK x hx ps k
   have e1:(stA x ps (k+1)).1=Qbe (derB (secA x ps k) Qb8) (stA x ps k).1:=rfl
   have e2:(stA x ps (k+1)).2=(stA x ps k).2++[derB (secA x ps k) Qb8]:=rfl
   have hl:=QaB (secA x ps k) Qb8
   rw[e1,e2]
   clear e1 e2
   generalize derB (secA x ps k) Qb8=bl at *
   generalize (stA x ps k).1=al at *
   generalize (stA x ps k).2=sc at *
   rw[ih,QlU,mS_B _ bl h9 hl]
def Qcg (ks:List (List UInt8)):List (List UInt8):=ks.map fun p=>Qbe p (nb 9)
theorem Qmq (ks:List (List UInt8)) (k:Nat) (h:k<ks.length):(Qcg ks).getD k []=Qbe (ks.getD k []) (nb 9):=by
 rw[Qcg,QCK,QCY,QCK,QCJ h]
 rfl
theorem Qof (x:List UInt8) (hx:x.length=32) (ks:List (List UInt8)) (hk:∀p∈ks,p.length=32) (k:Nat) (h:k<ks.length):
 errA x (Qcg ks) k=0∧secA x (Qcg ks) k=Qbe (ks.getD k []) (stA x (Qcg ks) k).1∧Qbf (ks.getD k []) (stA x (Qcg ks) k).1=0:=by
 have hp:(ks.getD k []).length=32:=hk _ (QdC ks k h)
 have hs:=Qfv x hx (Qcg ks) k
 have ha:=QoK x hx (Qcg ks) k
 have hpub:=Qmq ks k h
 have e1:errA x (Qcg ks) k=(Qcw ((Qcg ks).getD k []) (stA x (Qcg ks) k).2).2:=rfl
 have e2:secA x (Qcg ks) k=(Qcw ((Qcg ks).getD k []) (stA x (Qcg ks) k).2).1:=rfl
 rw[e1,e2,hpub]
 clear e1 e2 hpub
 generalize (stA x (Qcg ks) k).1=al at *
 generalize (stA x (Qcg ks) k).2=sc at *
 generalize ks.getD k []=p at *
 have h9a:=Qkc mS Ed.From9 Qj3 sc 9 Ed.from9_nine hs
 have hc:=QnJ (mS 9 p) sc (Qj3 9 p Ed.from9_nine hp) hs
 have hm:=QlL mS Qw2 p sc 9
 rw[mS_B 9 p Ed.from9_nine hp,hc,ha,mS_B _ p h9a hp,mS_E _ p h9a hp,hm]
 exact⟨rfl,rfl,rfl⟩
theorem QsX (x:List UInt8) (hx:x.length=32) (ks:List (List UInt8)) (hk:∀p∈ks,p.length=32) (k:Nat) (h:k<ks.length):
 Qc6 (ks.getD k []) (stA x (Qcg ks) k).1=Qcv x (Qcg ks) k:=by
 obtain⟨_,h2,h3⟩:=Qof x hx ks hk k h
 rw[Qc6,if_pos h3,Qcv,h2]
end Go.Proofs.YticcbmhcgmhohaaGreat
namespace Go.Proofs.YticcbmhcgmhohaaGreat
open Go.RowKit
open Go.BigFrame
def badH (h:Hp):Bool:=decide (h.delay<0)||decide (1000000<h.delay)||decide (h.flags<0)||decide (255<h.flags)
def Qrf (c:Cmd):Bool:=decide (c.kd<2)||decide (4<c.kd)
def Qd9 (c:Cmd) (hs:List Hp):Nat:=
 if Qrf c=true then 1 else if hs.any badH=true then 1 else if hs.length<1∨5<hs.length then 2 else if Qcs c=false then 3 else if (hs.drop 1).any (fun h=>h.nod.id==0)=true then 3 else 0
def Qcu (c:Cmd) (hs:List Hp) (i:Nat):Cmd:=
 if i+1<hs.length then ⟨1,QDh (hs.getD i hp0).flags,QEl (hs.getD i hp0).delay,(hs.getD (i+1) hp0).nod.id,Qa3⟩
 else ⟨c.kd,QDh (hs.getD i hp0).flags,QEl (hs.getD i hp0).delay,0,c.ma⟩
theorem QxY {h:Hp} (e:badH h=false):0≤h.delay∧h.delay≤1000000∧0≤h.flags∧h.flags≤255:=by
 simp only[badH,Bool.or_eq_false_iff,decide_eq_false_iff_not]at e
 omega
theorem QBD {hs:List Hp} {p:Hp→Bool} (h:hs.any p=false) {i:Nat} (hi:i<hs.length):p (hs.getD i hp0)=false:=by
 rw[List.any_eq_false]at h
 rw[QCK,QCJ hi]
 simpa using h _ (QD0 hi)
theorem QcX {c:Cmd} {hs:List Hp} (h:Qd9 c hs=0):Qrf c=false∧hs.any badH=false∧1≤hs.length∧hs.length≤5∧Qcs c=true∧(hs.drop 1).any (fun h=>h.nod.id==0)=false:=by
 unfold Qd9 at h
 split at h
 ·cases h
 ·split at h
  ·cases h
  ·split at h
   ·cases h
   ·split at h
    ·cases h
    ·split at h
     ·cases h
     ·rename_i h1 h2 h3 h4 h5
      exact⟨by simpa using h1,by simpa using h2,by omega,by omega,by simpa using h4,by simpa using h5⟩
theorem QmM {c:Cmd} {hs:List Hp} (h:Qd9 c hs=0) {i:Nat} (hi:i<hs.length):cmdE (Qcu c hs i)=0∧((Qcu c hs i).kd=1↔i+1<hs.length):=by
 obtain⟨h1,h2,_,_,h5,h6⟩:=QcX h
 have hb:=QxY (QBD h2 hi)
 have hd: ¬(1000000:UInt32)<QEl (hs.getD i hp0).delay:=by
  rw[UInt32.lt_iff_toNat_lt]
  have:=Qku (hs.getD i hp0).delay hb.1 (by omega)
  show ¬(1000000<(QEl (hs.getD i hp0).delay).toNat)
  omega
 have hkd:c.kd≠1∧ ¬(c.kd<1∨4<c.kd):=by
  simp only[Qrf,Bool.or_eq_false_iff,decide_eq_false_iff_not,QEu]at h1
  rw[QEu,QEu,Ne,←QDr]
  have e1:(1:UInt8).toNat=1:=rfl
  have e2:(2:UInt8).toNat=2:=rfl
  have e4:(4:UInt8).toNat=4:=rfl
  omega
 unfold Qcu
 by_cases hlt:i+1<hs.length
 ·rw[if_pos hlt]
  refine⟨?_,fun _=>hlt,fun _=>rfl⟩
  have hid:(hs.getD (i+1) hp0).nod.id≠0:=by
   rw[List.any_eq_false]at h6
   have:=h6 (hs.getD (i+1) hp0) (by
    rw[QCK,QCJ hlt]
    rw[List.mem_iff_getElem?]
    exact⟨i,by rw[QDE,QEB 1 i,QCJ hlt];rfl⟩)
   simpa using this
  unfold cmdE
  rw[if_neg (by
   show ¬((1:UInt8)<1∨4<(1:UInt8))
   decide),if_neg (by
   have h0:((hs.getD (i+1) hp0).nod.id != 0)=true:=by simpa using hid
   simp only[Qcs,h0,Qa3]
   decide),if_neg hd]
 ·rw[if_neg hlt]
  refine⟨?_,fun e=>absurd e hkd.1,fun e=>absurd e hlt⟩
  have hs2:Qcs ⟨c.kd,QDh (hs.getD i hp0).flags,QEl (hs.getD i hp0).delay,0,c.ma⟩=true:=by
   have hk:=hkd.1
   simp only[Qcs]at h5 ⊢
   have e1:(c.kd==1)=false:=by simpa using hk
   rw[e1]at h5 ⊢
   cases hx:(c.nx != 0)
   ·rw[hx]at h5
    simpa using h5
   ·rw[hx]at h5
    simp at h5
  unfold cmdE
  rw[if_neg hkd.2,if_neg (by rw[hs2];decide),if_neg hd]
def seaA (n:Nat) (st:Nat→List UInt8) (body:List UInt8):Nat→List UInt8
 | 0=>body
 | j+1=>Qb9 (kPay (st (n-1-j))) (seaA n st body j) rsS
def pktA (n:Nat) (sl st:Nat→List UInt8) (body:List UInt8) (i:Nat):List UInt8:=hdrA n sl st (n-1-i)++seaA n st body (n-i)
theorem Qmb {st:Nat→List UInt8} (hst:∀k,(st k).length=192) (k:Nat) {bs:List UInt8} (hb:bs.length=480):QdF (kPay (st k)) bs rsS=0:=
 Qeg okS ⟨Qaq (by have:=hst k;omega),by omega,by omega⟩
theorem QeF {n:Nat} {st:Nat→List UInt8} {body:List UInt8} (hst:∀k,(st k).length=192) (hb:body.length=480):∀j,(seaA n st body j).length=480
 | 0=>hb
 | j+1=>by
   have ih:=QeF (n:=n) hst hb j
   rw[seaA,(Qge (Qmb hst _ ih)).1,ih]
theorem Qrq {n:Nat} {st:Nat→List UInt8} {body:List UInt8} (hst:∀k,(st k).length=192) (hb:body.length=480) (j:Nat):Qb9 (kPay (st (n-1-j))) (seaA n st body (j+1)) rsO=seaA n st body j:=by
 have ih:=QeF (n:=n) hst hb j
 have:=(Qge (Qmb hst (n-1-j) ih)).2.2
 rw[show rsS.reverse=rsO by decide]at this
 rw[seaA]
 exact this
theorem Qc5 {s:List UInt8} (h:s.length=192):(kAlp s).length=32:=Qaq (by omega)
section
variable {n:Nat} {sl st:Nat→List UInt8} (hn1:1≤n) (hn5:n≤5) (hsl:∀k,(sl k).length=32) (hst:∀k,(st k).length=192) {body:List UInt8} (hb:body.length=480)
include hn1 hn5 hsl hst hb
theorem QoA (i:Nat):(pktA n sl st body i).take 288=hdrA n sl st (n-1-i)∧(pktA n sl st body i).drop 288=seaA n st body (n-i)∧(pktA n sl st body i).length=768:=by
 have h1:=Qnl (st:=st) hn1 hn5 hsl (n-1-i) (Qc5 (hst _))
 have h2:=QeF (n:=n) hst hb (n-i)
 exact⟨QDx h1,QDj h1,by rw[pktA,QCM,h1,h2]⟩
theorem Qpf (i:Nat) (hi:i<n):(pktA n sl st body i).take 32=kAlp (st i):=by
 have _:=And.intro (hsl 0) hb
 rw[pktA,hdrA,QCU,QDx (Qc5 (hst _)),show n-1-(n-1-i)=i by omega]
theorem Qqv (cs:Nat→Cmd) (hcs:∀k,sl k=encB (cs k)) (k:List UInt8) (i:Nat) (hi:i<n) (hpe:Qbf k (kAlp (st i))=0) (hpb:Qc6 k (kAlp (st i))=st i) (hc:cmdE (cs i)=0) (hk:(cs i).kd=1↔i+1<n)
 (hnx:i+1<n→QnG (st i)=0∧QiZ (st i)=kAlp (st (i+1))):
 unwE k (pktA n sl st body i)=0∧unwC k (pktA n sl st body i)=cs i∧unwP k (pktA n sl st body i)=(if i+1<n then pktA n sl st body (i+1) else QCC 768 0)∧unwB k (pktA n sl st body i)=(if i+1<n then [] else body):=by
 obtain⟨c1,c2,_⟩:=QoA (sl:=sl) hn1 hn5 hsl hst hb i
 have ha:=Qpf (sl:=sl) hn1 hn5 hsl hst hb i hi
 have hj:n-1-(n-1-i)=i:=by omega
 have hfit:=Qx4 (st:=st) hn1 hn5 hsl (n-1-i) (Qc5 (hst _))
 rw[hj]at hfit
 have hpl:(Qcm (hdrA n sl st (n-1-i)) (st i)).take 32=encB (cs i)∧(i+1<n→(Qcm (hdrA n sl st (n-1-i)) (st i)).drop 32=tagA n sl st (n-1-(i+1))++betA n sl st (n-1-(i+1))):=by
  by_cases hlt:i+1<n
  ·have h:=QuL (st:=st) hn1 hn5 hsl (n-1-(i+1)) (by omega) (Qc5 (hst _))
   rw[show n-1-(i+1)+1=n-1-i by omega,hj]at h
   rw[h]
   exact⟨by rw[QDx (hsl _),hcs],fun _=>QDj (hsl _)⟩
  ·have h:=QtH (st:=st) hn1 hn5 hsl (Qc5 (hst _))
   have hin:i=n-1:=by omega
   refine⟨?_,fun h=>absurd h hlt⟩
   rw[show n-1-i=0 by omega,hin,h,hcs]
 have hd:decE (encB (cs i))=0:=by rw[Qn2,hc]
 have hdc:=Qu1 (cs i) hc
 have hE:Qhp (hdrA n sl st (n-1-i)) (st i)=0:=by
  rw[Qhp,hfit,if_neg (by decide),hpl.1,hd,if_neg (by decide),hdc]
  split
  ·rename_i h1
   exact (hnx (hk.1 h1)).1
  ·rfl
 have hC:Qkr (hdrA n sl st (n-1-i)) (st i)=cs i:=by rw[Qkr,if_pos hE,hpl.1,hdc]
 have hrE:relE (st i) (pktA n sl st body i)=0:=by rw[relE,c1,hE]
 have hrC:relC (st i) (pktA n sl st body i)=cs i:=by rw[relC,c1,hC]
 have hrB:Qdh (st i) (pktA n sl st body i)=seaA n st body (n-1-i):=by
  have:=Qrq (n:=n) hst hb (n-1-i)
  rw[hj,show n-1-i+1=n-i by omega]at this
  rw[Qdh,c2,this]
 refine⟨by rw[unwE,ha,if_pos hpe,hpb,hrE],by rw[unwC,ha,if_pos hpe,hpb,hrC],?_,?_⟩
 ·rw[unwP,ha,if_pos hpe,hpb,relP,hrE,hrC]
  by_cases hlt:i+1<n
  ·rw[if_pos ⟨rfl,hk.2 hlt⟩,if_pos hlt,hrB,c1,QiS,if_pos ⟨hE,by rw[hpl.1,hdc];exact hk.2 hlt⟩,hpl.2 hlt,(hnx hlt).2,pktA,hdrA,show n-1-(n-1-(i+1))=i+1 by omega,show n-(i+1)=n-1-i by omega]
  ·rw[if_neg (fun h=>hlt (hk.1 h.2)),if_neg hlt]
 ·rw[unwB,ha,if_pos hpe,hpb,relB,hrE,hrC]
  by_cases hlt:i+1<n
  ·rw[if_neg (fun h=>h.2 (hk.2 hlt)),if_pos hlt]
  ·rw[if_pos ⟨rfl,fun h=>hlt (hk.1 h)⟩,if_neg hlt,hrB,show n-1-i=0 by omega,seaA]
end
def QbV (l:List Nat):Nat:=l.foldl (fun a e=>if e≠0∧(a=0∨e<a) then e else a) 0
theorem Qe0:∀(l:List Nat) (a:Nat),l.foldl (fun a e=>if e≠0∧(a=0∨e<a) then e else a) a=0↔a=0∧∀e∈l,e=0
 | [],a=>by simp
 | e :: l,a=>by
   rw[List.foldl_cons,Qe0 l]
   constructor
   ·rintro⟨h1,h2⟩
    split at h1
    ·rename_i h
     exact absurd h1 h.1
    ·rename_i h
     refine⟨h1,?_⟩
     intro e' he
     rcases QCZ.1 he with rfl|he
     ·by_cases hz:e'=0
      ·exact hz
      ·exact absurd ⟨hz,.inl h1⟩ h
     ·exact h2 _ he
   ·rintro⟨rfl,h2⟩
    have he:=h2 e (by simp)
    exact⟨by rw[if_neg (fun h=>h.1 he)],fun e' h'=>h2 _ (by simp[h'])⟩
theorem QfZ (l:List Nat):QbV l=0↔∀e∈l,e=0:=by
 rw[QbV,Qe0]
 simp
def pubH (hs:List Hp):List (List UInt8):=hs.map fun h=>h.nod.pub.val
noncomputable def QrB (x:List UInt8) (c:Cmd) (body:List UInt8) (hs:List Hp):Nat:=QbV [Qd9 c hs,QcR x (pubH hs),if body.length=480 then 0 else 2]
theorem Qpw (x:List UInt8) (hx:x.length=32) (ps:List (List UInt8)) (k:Nat):QnG (Qcv x ps k)=0∧QiZ (Qcv x ps k)=kAlp (Qcv x ps (k+1)):=by
 have h1:kBli (Qcv x ps k)=derB (secA x ps k) Qb8:=QhO x ps k
 have h2:kAlp (Qcv x ps k)=(stA x ps k).1:=QeH x ps k
 have h3:kAlp (Qcv x ps (k+1))=(stA x ps (k+1)).1:=QeH x ps (k+1)
 rw[QnG,QiZ,h1,h2,h3]
 exact⟨Qom x hx ps k _ (QaB _ _),rfl⟩
theorem Qx2 {hs:List Hp} (h:∀i,i<hs.length→Qbe (hs.getD i hp0).nod.priv.val (nb 9)=(hs.getD i hp0).nod.pub.val):pubH hs=Qcg (hs.map fun h=>h.nod.priv.val):=by
 rw[pubH,Qcg,List.map_map]
 refine QES fun h' hm=>?_
 obtain⟨i,hi,rfl⟩:=QEQ hm
 have:=h i hi
 rw[QCK,QCJ hi]at this
 exact this.symm
theorem QlN (x:List UInt8) (c:Cmd) (body:List UInt8) (hs:List Hp) (he:QrB x c body hs=0) (hfit:∀i,i<hs.length→Qbe (hs.getD i hp0).nod.priv.val (nb 9)=(hs.getD i hp0).nod.pub.val) (i:Nat) (hi:i<hs.length):
 unwE (hs.getD i hp0).nod.priv.val (pktA hs.length (fun i=>encB (Qcu c hs i)) (Qcv x (pubH hs)) body i)=0∧unwC (hs.getD i hp0).nod.priv.val (pktA hs.length (fun i=>encB (Qcu c hs i)) (Qcv x (pubH hs)) body i)=Qcu c hs i∧
 unwP (hs.getD i hp0).nod.priv.val (pktA hs.length (fun i=>encB (Qcu c hs i)) (Qcv x (pubH hs)) body i)=(if i+1<hs.length then pktA hs.length (fun i=>encB (Qcu c hs i)) (Qcv x (pubH hs)) body (i+1) else QCC 768 0)∧
 unwB (hs.getD i hp0).nod.priv.val (pktA hs.length (fun i=>encB (Qcu c hs i)) (Qcv x (pubH hs)) body i)=(if i+1<hs.length then [] else body):=by
 rw[QrB,QfZ]at he
 have h1:Qd9 c hs=0:=he _ (by simp)
 have h2:QcR x (pubH hs)=0:=he _ (by simp)
 have h3:(if body.length=480 then 0 else 2)=0:=he _ (by simp)
 have hb:body.length=480:=by
  split at h3
  ·assumption
  ·cases h3
 obtain⟨_,_,h4,h5,_,_⟩:=QcX h1
 have hx:x.length=32:=by
  rw[QcR]at h2
  split at h2
  ·rename_i h;exact h.1
  ·cases h2
 obtain⟨ks,hks⟩:∃ks,ks=hs.map fun h=>h.nod.priv.val:=⟨_,rfl⟩
 have hp:pubH hs=Qcg ks:=by rw[hks];exact Qx2 hfit
 have hk32:∀p∈ks,p.length=32:=by
  intro p hpm
  rw[hks]at hpm
  obtain⟨h',_,rfl⟩:=QDs.1 hpm
  exact h'.nod.priv.2
 have hkl:ks.length=hs.length:=by rw[hks,QCF]
 have hkg:ks.getD i []=(hs.getD i hp0).nod.priv.val:=by
  rw[hks,QCK,QCY,QCK,QCJ hi]
  rfl
 have m1:=QsX x hx ks hk32 i (by omega)
 have m2:=(Qof x hx ks hk32 i (by omega)).2.2
 rw[hkg]at m1 m2
 rw[hp]
 have ha:kAlp (Qcv x (Qcg ks) i)=(stA x (Qcg ks) i).1:=QeH x _ i
 exact Qqv (sl:=fun i=>encB (Qcu c hs i)) h4 h5 (fun _=>QcE _) (fun _=>Qbj _ _ _) hb (Qcu c hs) (fun _=>rfl) _ i hi (by rw[ha];exact m2) (by rw[ha];exact m1) (QmM h1 hi).1 (QmM h1 hi).2 (fun _=>Qpw x hx _ i)
end Go.Proofs.YticcbmhcgmhohaaGreat
