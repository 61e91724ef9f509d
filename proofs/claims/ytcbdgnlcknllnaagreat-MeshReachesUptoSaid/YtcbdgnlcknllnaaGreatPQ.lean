/-
  Lemmas for the last text of this claim (part 17 of 20).
-/
import Derived.BigQuiet
import Derived.BigRegion
import Derived.ChangeOld
import Derived.Deep.RegionWith
import Derived.DeepKeys4
import Derived.JoinedCond
import Derived.LaidMore
import Derived.Laws.CopyOwn
import Derived.Laws.Externs
import Derived.Laws.IdiomStrings
import Derived.Laws.Tables
import Derived.Lib.AppendStr
import Derived.Lib.AppendZerosOnto
import Derived.Lib.Mul64
import Derived.Lib.SlBytesConst
import Derived.LoopN
import Derived.Maps.OwnSet
import Derived.OpenShut
import Derived.OrdersHeld
import Derived.ProofKit
import Derived.Shelf.Spec.BitsCarry
import Derived.ShutString
import Derived.Test.YtcbdgnlcknllnaaGreatProg
import Derived.Test.YtcbdgnlcknllnaaGreatRows
import Derived.WalkKit
import Derived.WalkLawsBesides
import Derived.WalkSpells
import Derived.Test.YtcbdgnlcknllnaaGreatPJ
import Derived.Test.YtcbdgnlcknllnaaGreatPO
import Derived.Test.YtcbdgnlcknllnaaGreatPP
open List renaming replicate → QFu, getElem?_cons_succ → QFv, getElem?_cons_zero → QFw, cons_append → QFy, nil_append → QFz, length_map → QFA, getElem?_eq_getElem → QFB, getD_eq_getElem?_getD → QFC, length_append → QFF, map_toArray → QFI, take_of_length_le → QFJ, getElem?_append_right → QFK, append_assoc → QFL, length_replicate → QFM, not_mem_nil → QFO, mem_cons → QFP, map_nil → QFR, getElem?_append_left → QFS, getElem?_eq_some_iff → QFU, map_cons → QFW, length_take → QFY, length_drop → QF0, take_append_drop → QF8, set_append_right → QF9, append_nil → QGb, eq_nil_of_length_eq_zero → QGc, drop_left' → QGe, mem_map → QGf, map_replicate → QGg, take_append_of_le_length → QGt, take_left' → QGv, drop_of_length_le → QGw, drop_eq_getElem_cons → QGA, mem_append → QGC, replicate_append_replicate → QGJ, mem_singleton → QGL, drop_append_of_le_length → QGQ, getElem?_drop → QGR, drop_drop → QGY, map_take → QG1, flatMap_cons → QHm, drop_eq_nil_of_le → QHs, take_zero → QHy, drop_append → QHI
open Nat renaming le_refl → QFE, mod_eq_of_lt → QFT, lt_of_lt_of_le → QFV, zero_add → QFX, pow_succ → QGs, mul_comm → QGF, min_eq_left → QGG, pow_zero → QHK, mod_one → QHP
open Option renaming toList_some → QFx
open UInt32 renaming ofNat → QF7, ofInt → QGr
open UInt64 renaming ofNat → QFZ, toNat_ofNat' → QF4
open UInt8 renaming ofInt → QF3, ofNat → QGa, toNat_inj → QGl, toNat_ofNat' → QGK
namespace Go.Proofs.YtcbdgnlcknllnaaGreat
open Go.RowKit
open Go.BigFrame
def bigB:Nat→Nat→List UInt8
 | 0,_=>[]
 | w+1,n=>bigB w (n/256)++[QGa n]
theorem QaL:∀w n,(bigB w n).length=w
 | 0,_=>rfl
 | w+1,n=>by rw[bigB,QFF,QaL w];rfl
theorem QgV:∀w n,beN (bigB w n) 0=n%256^w
 | 0,n=>by rw[bigB,beN,QHK,QHP]
 | w+1,n=>by
   rw[bigB,Qf4,QgV w]
   show n/256%256^w*256+(QGa n).toNat=_
   rw[QGK,show 2^8=256 from rfl,QGs,QGF (256^w),Nat.mod_mul]
   omega
def encB (c:Cmd):List UInt8:=[c.kd,c.fl]++(bigB 4 c.dl.toNat++(bigB 8 c.nx.toNat++(c.ma.val++[0,0])))
theorem Qdg (c:Cmd):(encB c).length=32:=by simp[encB,QaL,c.ma.2]
theorem QBj {a b:Cmd} (h1:a.kd=b.kd) (h2:a.fl=b.fl) (h3:a.dl=b.dl) (h4:a.nx=b.nx) (h5:a.ma.val=b.ma.val):a=b:=by
 cases a
 cases b
 simp only at h1 h2 h3 h4
 subst h1 h2 h3 h4
 congr
 exact Subtype.ext h5
theorem QnF (c:Cmd):QgK (encB c)=c:=by
 have hm:=c.ma.2
 refine QBj rfl rfl ?_ ?_ ?_
 ·show QF7 (beN (subB (encB c) 2 4) 0)=c.dl
  rw[encB,Qb8 _ _ _ 2 4 rfl (QaL _ _),QgV,QFT (by have:=c.dl.toNat_lt;omega),UInt32.ofNat_toNat]
 ·show QFZ (beN (subB (encB c) 6 8) 0)=c.nx
  rw[encB,←QFL,Qb8 _ _ _ 6 8 (by rw[QFF,QaL];rfl) (QaL _ _),QgV,QFT (by have:=c.nx.toNat_lt;omega),UInt64.ofNat_toNat]
 ·rw[Qj5 _ (Qdg c),encB,←QFL,←QFL,Qb8 _ _ _ 14 16 (by rw[QFF,QFF,QaL,QaL];rfl) hm]
theorem QmZ (c:Cmd):(encB c).getD 30 0=0∧(encB c).getD 31 0=0:=by
 have h:encB c=([c.kd,c.fl]++bigB 4 c.dl.toNat++bigB 8 c.nx.toNat++c.ma.val)++[0,0]:=by simp[encB]
 have hl:([c.kd,c.fl]++bigB 4 c.dl.toNat++bigB 8 c.nx.toNat++c.ma.val).length=30:=by simp[QaL,c.ma.2]
 rw[h]
 constructor
 ·rw[QFC,QFK (by omega),hl];rfl
 ·rw[QFC,QFK (by omega),hl];rfl
theorem QqL (c:Cmd):decE (encB c)=cmdE c:=by
 rw[decE,QnF,(QmZ c).1,(QmZ c).2,if_neg (fun h=>by have:=h.2;simp at this)]
theorem QwT (c:Cmd) (h:cmdE c=0):decC (encB c)=c:=by rw[decC,QqL,if_pos h,QnF]
theorem Qlr (key:List UInt8) (n:Nat) (h:n≤288):chaS key n=(chaS key 288).take n:=by
 rw[QfV key n 5 (by omega),QfV key 288 5 (by omega),List.take_take,QGG h]
theorem QoY {p q s t:List UInt8} (h:p.length=s.length):xorB (p++q) (s++t)=xorB p s++xorB q t:=List.zipWith_append h
theorem QmJ (p q:List UInt8) (k:Nat):(xorB p q).drop k=xorB (p.drop k) (q.drop k):=List.drop_zipWith
theorem Qja (p q:List UInt8) (k:Nat):(xorB p q).take k=xorB (p.take k) (q.take k):=List.take_zipWith
def Qgk (st:Nat→List UInt8):Nat→List UInt8
 | 0=>[]
 | k+1=>xorB (Qgk st k++QFu 48 0) ((chaS (kStr (st k)) 288).drop (288-48*(k+1)))
theorem Qdr (st:Nat→List UInt8):∀k,k≤5→(Qgk st k).length=48*k
 | 0,_=>rfl
 | k+1,h=>by
   have ih:=Qdr st k (by omega)
   rw[Qgk,Qa2 (by simp[ih,QaA];omega),QF0,QaA]
   omega
def betA (n:Nat) (sl st:Nat→List UInt8):Nat→List UInt8
 | 0=>xorB (sl (n-1)++QFu (208-48*(n-1)) 0) (chaS (kStr (st (n-1))) (240-48*(n-1)))++Qgk st (n-1)
 | j+1=>xorB (sl (n-2-j)++(tagB (kMac (st (n-1-j))) (kAlp (st (n-1-j))) (betA n sl st j)++(betA n sl st j).take 192)) (chaS (kStr (st (n-2-j))) 240)
def tagA (n:Nat) (sl st:Nat→List UInt8) (j:Nat):List UInt8:=tagB (kMac (st (n-1-j))) (kAlp (st (n-1-j))) (betA n sl st j)
def hdrA (n:Nat) (sl st:Nat→List UInt8) (j:Nat):List UInt8:=kAlp (st (n-1-j))++(tagA n sl st j++betA n sl st j)
theorem Qdo (k al be:List UInt8):(tagB k al be).length=16:=by rw[tagB,QFY,QaG];rfl
section
variable {n:Nat} {sl st:Nat→List UInt8} (hn1:1≤n) (hn5:n≤5) (hsl:∀k,(sl k).length=32)
include hn1 hn5 hsl
theorem Qcn:∀j,(betA n sl st j).length=240
 | 0=>by
   have:=Qdr st (n-1) (by omega)
   rw[betA,QFF,Qa2 (by rw[QFF,hsl,QFM,QaA];omega),QaA,this]
   omega
 | j+1=>by
   have ih:=Qcn j
   rw[betA,Qa2 (by rw[QFF,hsl,QFF,Qdo,QFY,ih,QaA];omega),QaA]
theorem Qrh (j:Nat):xorB (betA n sl st (j+1)) (chaS (kStr (st (n-2-j))) 240)=sl (n-2-j)++(tagA n sl st j++(betA n sl st j).take 192):=by
 have ih:=Qcn (st:=st) hn1 hn5 hsl j
 rw[betA,QeR (by rw[QFF,hsl,QFF,Qdo,QFY,ih,QaA];omega)]
 rfl
theorem QnL:∀j,j+1≤n→(betA n sl st j).drop (240-48*(n-1-j))=Qgk st (n-1-j)
 | 0,_=>by
   rw[betA,Nat.sub_zero,QGe (by rw[Qa2 (by rw[QFF,hsl,QFM,QaA];omega),QaA])]
 | j+1,hj=>by
   have ih:=QnL j (by omega)
   have hbl:=Qcn (st:=st) hn1 hn5 hsl j
   obtain⟨i,hi⟩:∃i,i=n-2-j:=⟨_,rfl⟩
   have hi1:n-1-j=i+1:=by omega
   have hi2:n-1-(j+1)=i:=by omega
   have hfl:=Qdr st i (by omega)
   rw[hi1]at ih
   have hX:(chaS (kStr (st i)) 240).drop (240-48*i)=((chaS (kStr (st i)) 288).drop (240-48*i)).take (48*i):=by
    rw[Qlr _ 240 (by omega),List.drop_take,show 240-(240-48*i)=48*i by omega]
   have hB:((betA n sl st j).take 192).drop (192-48*i)=xorB (Qgk st i) (((chaS (kStr (st i)) 288).drop (240-48*i)).take (48*i)):=by
    rw[List.drop_take,show 192-(192-48*i)=48*i by omega,show 192-48*i=240-48*(i+1) by omega,ih,Qgk,Qja,QGv hfl,show 288-48*(i+1)=240-48*i by omega]
   have hcut:(sl i++(tagB (kMac (st (n-1-j))) (kAlp (st (n-1-j))) (betA n sl st j)++(betA n sl st j).take 192)).drop (240-48*i)=((betA n sl st j).take 192).drop (192-48*i):=by
    rw[←QFL,QHI,QHs (by rw[QFF,hsl,Qdo];omega),QFz,QFF,hsl,Qdo,show 240-48*i-(32+16)=192-48*i by omega]
   rw[hi2,betA,←hi,QmJ,hcut,hB,hX,QeR (by rw[hfl,QFY,QF0,QaA];omega)]
theorem Qpd (j:Nat) (ha:(kAlp (st (n-1-j))).length=32):subB (hdrA n sl st j) 0 32=kAlp (st (n-1-j))∧subB (hdrA n sl st j) 32 16=tagA n sl st j∧subB (hdrA n sl st j) 48 240=betA n sl st j:=by
 have ht:(tagA n sl st j).length=16:=Qdo _ _ _
 have hb:=Qcn (st:=st) hn1 hn5 hsl j
 refine⟨QkG _ _ _ ha,Qb8 _ _ _ _ _ ha ht,?_⟩
 rw[hdrA,←QFL,QjF _ _ _ _ (by rw[QFF,ha,ht]) hb]
theorem Qpf (j:Nat) (ha:(kAlp (st (n-1-j))).length=32):(hdrA n sl st j).length=288:=by
 have hb:=Qcn (st:=st) hn1 hn5 hsl j
 rw[hdrA,QFF,QFF,ha,hb,tagA,Qdo]
theorem QAi (j:Nat) (ha:(kAlp (st (n-1-j))).length=32):QmX (hdrA n sl st j) (st (n-1-j))=true:=by
 obtain⟨h1,h2,h3⟩:=Qpd (sl:=sl) hn1 hn5 hsl j ha
 rw[QmX,h1,h2,h3]
 exact decide_eq_true rfl
theorem Qxw (ha:(kAlp (st (n-1))).length=32):(Qcz (hdrA n sl st 0) (st (n-1))).take 32=sl (n-1):=by
 have h3:=(Qpd (sl:=sl) hn1 hn5 hsl 0 (by rw[Nat.sub_zero];exact ha)).2.2
 have hb:=Qcn (st:=st) hn1 hn5 hsl 0
 rw[Qcz,h3,Qja,QGt (by omega),betA]
 have h1:(xorB (sl (n-1)++QFu (208-48*(n-1)) 0) (chaS (kStr (st (n-1))) (240-48*(n-1)))).length=240-48*(n-1):=by
  rw[Qa2 (by rw[QFF,hsl,QFM,QaA];omega),QaA]
 rw[QGt (by rw[h1];omega),Qja,QGv (hsl _),Qlr _ (240-48*(n-1)) (by omega),List.take_take,QGG (by omega)]
 exact QeR (by rw[hsl,QFY,QaA];omega)
theorem QwJ (j:Nat) (hj:j+1<n) (ha:(kAlp (st (n-1-(j+1)))).length=32):Qcz (hdrA n sl st (j+1)) (st (n-1-(j+1)))=sl (n-1-(j+1))++(tagA n sl st j++betA n sl st j):=by
 have h3:=(Qpd (sl:=sl) hn1 hn5 hsl (j+1) ha).2.2
 have hb:=Qcn (st:=st) hn1 hn5 hsl j
 have hb1:=Qcn (st:=st) hn1 hn5 hsl (j+1)
 have hf:=QnL (st:=st) hn1 hn5 hsl j (by omega)
 obtain⟨i,hi⟩:∃i,i=n-2-j:=⟨_,rfl⟩
 have hi1:n-1-j=i+1:=by omega
 have hi2:n-1-(j+1)=i:=by omega
 have hfl:=Qdr st i (by omega)
 have hpl:=Qrh (st:=st) hn1 hn5 hsl j
 rw[hi1]at hf
 rw[←hi]at hpl
 rw[hi2]
 rw[Qcz,h3]
 have hS:chaS (kStr (st i)) 288=chaS (kStr (st i)) 240++(chaS (kStr (st i)) 288).drop 240:=by rw[Qlr _ 240 (by omega),QF8]
 have hd:(betA n sl st j).drop 192=(chaS (kStr (st i)) 288).drop 240:=by
  have h4:(betA n sl st j).drop 192=(Qgk st (i+1)).drop (48*i):=by rw[←hf,QGY,show 240-48*(i+1)+48*i=192 by omega]
  rw[h4,Qgk,QmJ,QGe hfl,QGY,show 288-48*(i+1)+48*i=240 by omega,QhG _ _ (by rw[QF0,QaA])]
 rw[hS,QoY (by rw[hb1,QaA]),hpl,QhG _ _ (by rw[QF0,QaA]),QFL,QFL,←hd,QF8]
end
def QcD (b:List UInt8):Nat:=beN (subB b 28 2) 0
def Qhx (b:List UInt8):Prt:=⟨b.getD 16 0,QFZ (beN (subB b 20 8) 0),((b.getD 17 0).toNat:Int),((b.getD 18 0).toNat:Int),subB b 30 (QcD b)⟩
def parE (b:List UInt8):Nat:=
 if b.length≠480 then 2 else if b.take 16≠QFu 16 0 then 7 else if b.getD 16 0<1∨3<b.getD 16 0 then 1
 else if b.getD 19 0≠0∨450<QcD b then 3 else if prtE (Qhx b)≠0∨b.drop (30+QcD b)≠QFu (450-QcD b) 0 then 3 else 0
def parP (b:List UInt8):Prt:=if parE b=0 then Qhx b else prt0
theorem Qhq (d:Int) (h0:0≤d) (h1:d<4294967296):((QGr d).toNat:Int)=d:=by
 rw[QmS]
 omega
theorem Qev (d:Int) (h0:0≤d) (h1:d<256):((QF3 d).toNat:Int)=d:=by
 rw[Qpx]
 omega
def Qbg (p:Prt):List UInt8:=QFu 16 0++([p.kd,QF3 p.ix,QF3 p.ct,0]++(bigB 8 p.id.toNat++(bigB 2 p.da.length++(p.da++QFu (450-p.da.length) 0))))
theorem Qdt (p:Prt) (h:p.da.length≤450):(Qbg p).length=480:=by
 simp[Qbg,QaL]
 omega
theorem QpU:∀(l:List UInt8) (k:Nat),l.length=k→bigB k (beN l 0)=l:=by
 intro l k h
 induction k generalizing l with
 | zero=>rw[QGc h];rfl
 | succ k ih=>
   have hne:l≠[]:=by rintro rfl;cases h
   obtain⟨q,b,rfl⟩:∃q b,l=q++[b]:=⟨l.dropLast,l.getLast hne,(List.dropLast_concat_getLast hne).symm⟩
   have hq:q.length=k:=by simpa using h
   have hb:=b.toNat_lt
   have e:beN (q++[b]) 0=beN q 0*256+b.toNat:=by rw[Qf4];rfl
   rw[bigB,e,show (beN q 0*256+b.toNat)/256=beN q 0 by omega,ih q hq]
   congr 2
   apply QGl.1
   rw[QGK]
   show (beN q 0*256+b.toNat)%256=_
   omega
theorem QtL (b:List UInt8) (hb:b.length=480) (n:Nat) (_hn:n≤450):
 b=b.take 16++([b.getD 16 0,b.getD 17 0,b.getD 18 0,b.getD 19 0]++(subB b 20 8++(subB b 28 2++(subB b 30 n++b.drop (30+n))))):=by
 have h1:subB b 30 n++b.drop (30+n)=b.drop 30:=by rw[subB,←QGY,QF8]
 have h2:subB b 28 2++b.drop 30=b.drop 28:=by rw[subB,show b.drop 30=(b.drop 28).drop 2 by rw[QGY],QF8]
 have h3:subB b 20 8++b.drop 28=b.drop 20:=by rw[subB,show b.drop 28=(b.drop 20).drop 8 by rw[QGY],QF8]
 have g:∀i (h:i<b.length),b.getD i 0=b[i]:=fun i h=>by rw[QFC,QFB h];rfl
 have h4:[b.getD 16 0,b.getD 17 0,b.getD 18 0,b.getD 19 0]++b.drop 20=b.drop 16:=by
  rw[g 16 (by omega),g 17 (by omega),g 18 (by omega),g 19 (by omega),QGA (i:=16) (by omega),QGA (i:=17) (by omega),QGA (i:=18) (by omega),QGA (i:=19) (by omega)]
  rfl
 rw[h1,h2,h3,h4,QF8]
theorem Qwm (b:List UInt8) (hb:b.length=480):QcD b<65536:=by
 have:=Qu3 (subB b 28 2) 0 1 (by omega)
 rw[Qau (by omega)]at this
 unfold QcD
 omega
theorem Qk3 (b:UInt8):QF3 (b.toNat:Int)=b:=by
 apply QGl.1
 have:=b.toNat_lt
 have:=Qev (b.toNat:Int) (by omega) (by omega)
 omega
theorem QmG (b:List UInt8) (hb:b.length=480) (hs:QcD b≤450):(Qhx b).da.length=QcD b:=Qau (by omega)
theorem Qop (b:List UInt8) (hb:b.length=480) (h16:b.take 16=QFu 16 0) (hs:QcD b≤450):
 Qbg (Qhx b)=b↔b.getD 19 0=0∧b.drop (30+QcD b)=QFu (450-QcD b) 0:=by
 have hc:=QtL b hb (QcD b) hs
 have hl:=QmG b hb hs
 have e1:bigB 8 (Qhx b).id.toNat=subB b 20 8:=by
  show bigB 8 (QFZ (beN (subB b 20 8) 0)).toNat=_
  have h8:(subB b 20 8).length=8:=Qau (by omega)
  have:=Qu3 (subB b 20 8) 0 1 (by omega)
  rw[h8]at this
  rw[QF4,QFT (by omega)]
  exact QpU _ _ h8
 have e2:bigB 2 (Qhx b).da.length=subB b 28 2:=by
  rw[hl]
  exact QpU _ _ (Qau (by omega))
 have e3:Qbg (Qhx b)=b.take 16++([b.getD 16 0,b.getD 17 0,b.getD 18 0,0]++(subB b 20 8++(subB b 28 2++(subB b 30 (QcD b)++QFu (450-QcD b) 0)))):=by
  rw[Qbg,e1,e2,hl,h16]
  show _++([b.getD 16 0,QF3 ((b.getD 17 0).toNat:Int),QF3 ((b.getD 18 0).toNat:Int),0]++_)=_
  rw[Qk3,Qk3]
  rfl
 constructor
 ·intro h
  have h':Qbg (Qhx b)=b.take 16++([b.getD 16 0,b.getD 17 0,b.getD 18 0,b.getD 19 0]++(subB b 20 8++(subB b 28 2++(subB b 30 (QcD b)++b.drop (30+QcD b))))):=h.trans hc
  rw[e3]at h'
  have h2:=List.append_cancel_left h'
  have h3:=List.append_inj h2 rfl
  have h4:=List.append_cancel_left h3.2
  have h5:=List.append_cancel_left (List.append_cancel_left h4)
  refine⟨?_,h5.symm⟩
  have:=h3.1
  simp only[List.cons.injEq,and_true,true_and]at this
  exact this.symm
 ·rintro⟨h1,h2⟩
  rw[e3]
  conv=>rhs;rw[hc]
  rw[h1,h2]
theorem Qz0 {a b:Prt} (h1:a.kd=b.kd) (h2:a.id=b.id) (h3:a.ix=b.ix) (h4:a.ct=b.ct) (h5:a.da=b.da):a=b:=by
 cases a
 cases b
 simp only at h1 h2 h3 h4 h5
 subst h1 h2 h3 h4 h5
 rfl
theorem Qhm {p:Prt} (h:prtE p=0): ¬(p.kd<1∨3<p.kd)∧p.da.length≤450∧1≤p.ct∧p.ct≤16∧0≤p.ix∧p.ix<p.ct:=by
 unfold prtE at h
 split at h
 ·cases h
 ·rename_i h1
  split at h
  ·cases h
  ·rename_i h2
   split at h
   ·cases h
   ·rename_i h3
    exact⟨h1,by omega,by omega,by omega,by omega,by omega⟩
theorem Qpk (p:Prt) (h:prtE p=0):parE (Qbg p)=0∧parP (Qbg p)=p:=by
 obtain⟨h1,h2,h3,h4,h5,h6⟩:=Qhm h
 have hl:=Qdt p h2
 have g:∀i x,(Qbg p)[i]?=some x→(Qbg p).getD i 0=x:=fun i x h=>by rw[QFC,h];rfl
 have t16:(Qbg p).take 16=QFu 16 0:=QGv (by simp)
 have d16:(Qbg p).drop 16=[p.kd,QF3 p.ix,QF3 p.ct,0]++(bigB 8 p.id.toNat++(bigB 2 p.da.length++(p.da++QFu (450-p.da.length) 0))):=QGe (by simp)
 have a16:(Qbg p).getD 16 0=p.kd∧(Qbg p).getD 17 0=QF3 p.ix∧(Qbg p).getD 18 0=QF3 p.ct∧(Qbg p).getD 19 0=0:=by
  have e:∀i,(Qbg p)[16+i]?=((Qbg p).drop 16)[i]?:=fun i=>by rw[QGR]
  exact⟨g 16 _ (by rw[show 16=16+0 from rfl,e,d16];rfl),g 17 _ (by rw[show 17=16+1 from rfl,e,d16];rfl),g 18 _ (by rw[show 18=16+2 from rfl,e,d16];rfl),g 19 _ (by rw[show 19=16+3 from rfl,e,d16];rfl)⟩
 have s20:subB (Qbg p) 20 8=bigB 8 p.id.toNat:=by
  rw[Qbg,←QFL,Qb8 _ _ _ 20 8 (by simp) (QaL _ _)]
 have s28:subB (Qbg p) 28 2=bigB 2 p.da.length:=by
  rw[Qbg,←QFL,←QFL,Qb8 _ _ _ 28 2 (by simp[QaL]) (QaL _ _)]
 have hs:QcD (Qbg p)=p.da.length:=by
  rw[QcD,s28,QgV]
  omega
 have s30:subB (Qbg p) 30 p.da.length=p.da:=by
  rw[Qbg,←QFL,←QFL,←QFL,Qb8 _ _ _ 30 _ (by simp[QaL]) rfl]
 have hof:Qhx (Qbg p)=p:=by
  refine Qz0 a16.1 ?_ ?_ ?_ ?_
  ·show QFZ (beN (subB (Qbg p) 20 8) 0)=p.id
   rw[s20,QgV,QFT (by have:=p.id.toNat_lt;omega),UInt64.ofNat_toNat]
  ·show (((Qbg p).getD 17 0).toNat:Int)=p.ix
   rw[a16.2.1,Qev _ (by omega) (by omega)]
  ·show (((Qbg p).getD 18 0).toNat:Int)=p.ct
   rw[a16.2.2.1,Qev _ (by omega) (by omega)]
  ·show subB (Qbg p) 30 (QcD (Qbg p))=p.da
   rw[hs,s30]
 have hag:=(Qop (Qbg p) hl t16 (by omega)).1 (by rw[hof])
 have hE:parE (Qbg p)=0:=by
  rw[parE,if_neg (by omega),if_neg (fun f=>f t16),a16.1,if_neg h1,if_neg (by rw[hag.1,hs];simp;omega),hof,h,if_neg (by rw[hag.2];simp)]
 exact⟨hE,by rw[parP,if_pos hE,hof]⟩
theorem Qxq (b:List UInt8) (h:b.length=768):putB (b.take 288++QFu 480 0) 288 ((b.drop 288).take 480)=b:=by
 rw[Qe2 _ _ _ 288 (by rw[QFY];omega) (by rw[QFM,QFY,QF0];omega),QFJ (l:=b.drop 288) (by rw[QF0];omega),QF8]
set_option maxRecDepth 100000 in
set_option maxHeartbeats 4000000 in
theorem Qst (A:Option Addr) (c:Nat) (b:List UInt8) (w:World) (hb:RdB w A 768 b) (hc:768≤c):
 Calls Tryz.prog 30 #[.slice A 768 c] w fun e w'=>e= .returned (.tuple #[.agg (b.map W8).toArray,.int .i64 0])∧Later w w':=by
 have hbl:=hb.len
 obtain⟨b0,p,rfl,hb00,_⟩:=hb.2 (by omega)
 have HZ:=hid zcP
 have HH:=hid zcH
 have B0:Bag w (w.alloc (.cells Tryz.zeroCells100 100)) [(w.heap.size,100,(QFu 768 (0:UInt8)).map W8)]:=(Bag.none w).add (Qaa _ _) (by simp) (QFE _) ((Blk.new w _ Tryz.zeroCells100.toList).cast zcP)
 have l0:((QFu 768 (0:UInt8)).map W8).length=768:=by rw[QFA,QFM]
 have lh:((QFu 288 (0:UInt8)).map W8).length=288:=by rw[QFA,QFM]
 have hhl:(b.take 288).length=288:=by rw[QFY];omega
 have hH:=hid (fun (w:World) h=>Qsl (some ⟨b0,p,none⟩) c (b.take 288) w h (by omega))
 have hp1:=Qsf (b.take 288) hhl
 have hp1l:(b.take 288++QFu 480 (0:UInt8)).length=768:=by rw[QFF,hhl,QFM]
 have hput:=hid (Qxq b hbl)
 have h288:Hid (∀ w,RdB w (some ⟨b0,p,none⟩) 768 b→RdB w (some ⟨b0,p+288,none⟩) 480 (b.drop 288)):=hid (fun w h=>by
  have:=RdB.cut h (k:=288) (c:=769) (by omega) (by omega)
  rw[show cutA (some ⟨b0,p,none⟩) 288 769=some ⟨b0,p+288,none⟩ by rw[cutA,if_neg (by omega)];rfl]at this
  exact this)
 have hcc:cutA (some ⟨b0,p,none⟩) 288 c=some ⟨b0,p+288,none⟩:=by rw[cutA,if_neg (by omega)];rfl
 have HT:Hid (∀ w,RdB w (some ⟨b0,p,none⟩) 768 b→RdB w (some ⟨b0,p,none⟩) 288 (b.take 288)):=hid (fun w h=>RdB.take h (by omega))
 generalize QFu 768 (0:UInt8)=Z at *
 generalize QFu 288 (0:UInt8)=ZH at *
 generalize b.take 288++QFu 480 (0:UInt8)=P1 at *
 generalize b.take 288=hd at *
 go_enter Tryz.func30,Tryz.ntmps30
 go_wp2_with fail
 generalize hW:w.alloc _=w1
 replace B0:Bag w w1 [(w.heap.size,100,Z.map W8)]:=by rw[←hW];exact B0
 clear hW
 (with_reducible refine (hH.out _ (HT.out _ (hb.later B0.lat))).mono ?_);rintro e w2 ⟨rfl,l2⟩
 replace B0:=B0.later l2
 go_wp2_with (first
  | (refine Qfl rfl rfl _ _ rfl ((Blk.new w2 _ Tryz.zeroCells97.toList).cast HH.out) rfl rfl hhl lh ?_;intro w3 hb3 ho3
     have B1:=B0.push (Qaa _ _) (QFE _) ho3 hb3)
  | (refine QpO rfl _ rfl (B1.nth 0 rfl) hhl rfl ?_)
  | (refine Qak rfl 100 _ rfl (P1.map W8) (by simp only[QFI,QFW,QFR];exact hp1) ?_)
  | (refine Qg0 rfl rfl _ _ rfl ((Blk.new w3 _ Tryz.zeroCells100.toList).cast HZ.out) rfl rfl hp1l l0 ?_;intro w4 hb4 ho4
     have B2:=B1.push (Qaa _ _) (QFE _) ho4 hb4)
  | fail)
 have B3:=B2.drew
 have hlb:b0<w4.drew.heap.size:=QFV hb00 B3.lat.size
 refine Qad [] [0,1,2,3] [4] (by as_aux_lemma=>kernel_rfl) (by as_aux_lemma=>kernel_rfl) (by intro _ _ d _ _ h;cases d<;>exact h) ?_
 simp only[Qah,pick,QFv,QFw,QFx,QFy,QFz]
 repeat (go_big_quiet_step (fail))
 refine wpQuiet_nil ?_
 go_wp2_with (first
  | (refine Qax rfl _ _ _ _ rfl 5 Tryz.underlying25 Qb0 w3.heap.size 288 480 480 _ _ (B3.nth 0 rfl) (some ⟨b0,p+288,none⟩) 480 (c-288) ((b.drop 288).map W8) (h288.out _ (hb.later B3.lat)) (Qay _) rfl rfl (by rw[QFA];omega) ?_;intro w5 hb5 ho5;rw[←QG1,Qc5,hput.out]at hb5
     have B4:=B3.write 0 rfl ho5 hb5)
  | (refine QtE rfl _ rfl (B4.nth 0 rfl) hbl rfl ?_)
  | (refine Qg0 rfl rfl _ _ rfl (B4.nth 2 rfl) rfl rfl hbl l0 ?_;intro w6 hb6 ho6)
  | fail)
 exact bodyPost_ret (Qaf rfl _ _ _ _ _ _ hb6 rfl Tryz.underlying100 rfl (by rw[QFA,hbl];exact QhJ)) rfl ⟨rfl,(B4.write 2 rfl ho6 hb6).lat⟩
theorem Qi5:(Tryz.prog.info? 55).map (·.size)=some 20:=by kernel_rfl
theorem QFc:(Tryz.prog.info? 55).bind (·.zero)=some (.agg (CC cmd0).toArray):=by kernel_rfl
theorem Qsj (c:Cmd):Tryz.prog.built 55 [(0,.agg (CC c).toArray)]=some (CC c).toArray:=by
 rw[Qa0 (pl:=[(0,20)]) Tryz.underlying55 QFc (by kernel_rfl),QaR (vs:=CC c) (off:=0) rfl (by rw[Qan];rfl) (by rw[Qan,Qan];omega),Qb5,Qap _ _ (by rw[Qan,Qan])]
def PC (c:Cmd) (P:List UInt8) (v:Value):List Value:=CC c++(P.map W8++[v])
def nil8:Value:=.slice none 0 0
def z768:List UInt8:=QFu 768 0
theorem QaU:z768.length=768:=QFM
theorem QbW (c:Cmd) {P:List UInt8} (h:P.length=768) (v:Value):(PC c P v).length=789:=by
 rw[PC,QFF,QFF,Qan,QFA,h]
 rfl
theorem QCI (c:Cmd) (P:List UInt8) {v:Value} (h:v.oneCell'=true):∀u∈PC c P v,u.oneCell'=true:=by
 intro u hu
 rw[PC]at hu
 rcases QGC.1 hu with hu|hu
 ·exact Qqf c u hu
 ·rcases QGC.1 hu with hu|hu
  ·exact Qay P u hu
  ·rw[QGL.1 hu];exact h
theorem QgJ:(Tryz.prog.info? 110).map (·.size)=some 789:=by kernel_rfl
theorem Qym:(Tryz.prog.info? 110).bind (·.zero)=some (.agg (PC cmd0 z768 nil8).toArray):=by
 rw[PC,z768,QGg]
 kernel_rfl
theorem zcPe:Tryz.zeroCells110.toList=PC cmd0 z768 nil8:=by
 rw[PC,z768,QGg]
 kernel_rfl
theorem Qmk:Tryz.prog.built 110 []=some (PC cmd0 z768 nil8).toArray:=by
 rw[Qa0 (pl:=[(0,20),(20,768),(788,1)]) Tryz.underlying110 Qym (by kernel_rfl),Qb5]
theorem QtM {A B vs:List Value} (h:vs.length=A.length):Qat (A++B) 0 vs=vs++B:=by
 rw[Qat,QHy,QFz,QFX,h,List.drop_left]
theorem QsV (c:Cmd):Tryz.prog.built 110 [(0,.agg (CC c).toArray)]=some (PC c z768 nil8).toArray:=by
 rw[Qa0 (pl:=[(0,20),(20,768),(788,1)]) Tryz.underlying110 Qym (by kernel_rfl),QaR (vs:=CC c) (off:=0) rfl (by rw[Qan];rfl) (by rw[Qan,QbW _ QaU];omega),Qb5,PC,PC,QtM (by rw[Qan,Qan])]
theorem QnM (c:Cmd) (P:List UInt8) (v:Value):∀j u,(CC c)[j]?=some u→(PC c P v)[0+j]?=some u:=fun j u h=>by
 rw[QFX,PC,QFS (QFU.1 h).1]
 exact h
theorem QC3 (c:Cmd) (P:List UInt8) (v:Value):∀j u,(P.map W8)[j]?=some u→(PC c P v)[20+j]?=some u:=fun j u h=>by
 rw[PC,QFK (by rw[Qan];omega),Qan,Nat.add_sub_cancel_left,QFS (QFU.1 h).1]
 exact h
theorem QzH (c:Cmd) {P:List UInt8} (h:P.length=768) (v:Value):(PC c P v)[788]?=some v:=by
 rw[PC,QFK (by rw[Qan];omega),Qan,QFK (by rw[QFA,h];omega),QFA,h]
 rfl
theorem QzP (c:Cmd) {P:List UInt8} (h:P.length=768) (v v':Value):(PC c P v).set 788 v'=PC c P v':=by
 rw[PC,QF9 _ _ (by rw[Qan];omega),Qan,QF9 _ _ (by rw[QFA,h];omega),QFA,h]
 rfl
theorem Qt6 (c:Cmd) {P vs:List UInt8} (v:Value) (k:Nat) (h:k+vs.length≤P.length):Qat (PC c P v) (20+k) (vs.map W8)=PC c (putB P k vs) v:=by
 have hc:=Qan c
 rw[PC,PC,←Qc5,Qat,Qat,List.take_append,hc,QFJ (by omega),Nat.add_sub_cancel_left,QGt (by rw[QFA];omega),QHI,hc,QHs (by omega),QFz,QFA,show 20+k+vs.length-20=k+vs.length by omega,QGQ (by rw[QFA];omega)]
 simp only[QFL]
section
variable {ops:Array Oper} {rest:List Oper} {o:Oper} {a:Act} {w:World} {Q:Exit→Act→World→Prop}
theorem Qen (hgd:o.guard=none) (hd:o.dst=none) (x y:Operand) (ho:o.op= .store 110 x y) {g:Nat} {t:TypeId} {l:List Value} {c:Cmd} {P:List UInt8} {v:Value} (hg:Blk w g t l) (hx:a.eval x= .pointer (some ⟨g,0,none⟩)) (hy:a.eval y= .agg (PC c P v).toArray) (hP:P.length=768) (hv:v.oneCell'=true) (hl:l.length=789)
 (h:∀w',Blk w' g t (PC c P v)→Only g w w'→wpList Tryz.prog ops Q rest a w'):wpList Tryz.prog ops Q (o :: rest) a w:=
 Qaj hgd hd _ x y ho g t l _ hg hx hy 789 QgJ (QbW c hP v) hl (QCI c P hv) h
theorem Qus (hw:Region.wanted o (yielded ops a.tmps)=true) (x:Operand) (ho:o.op= .load 110 x) {g:Nat} {t:TypeId} {c:Cmd} {P:List UInt8} {v:Value} (hb:Blk w g t (PC c P v)) (hP:P.length=768) (hx:a.eval x= .pointer (some ⟨g,0,none⟩))
 (h:wpList Tryz.prog ops Q rest (a.put o.dst (.agg (PC c P v).toArray)) w):wpList Tryz.prog ops Q (o :: rest) a w:=
 Qar hw _ x ho g 0 _ (fun j v hv=>by rw[QFX];exact hb.cellD j hv) hx _ Tryz.underlying110 rfl (by rw[QbW c hP];exact QgJ) h
theorem QsD (hw:Region.wanted o (yielded ops a.tmps)=true) (x:Operand) (ho:o.op= .load 55 x) {g:Nat} {t:TypeId} {c:Cmd} {P:List UInt8} {v:Value} (hb:Blk w g t (PC c P v)) (hx:a.eval x= .pointer (some ⟨g,0,none⟩))
 (h:wpList Tryz.prog ops Q rest (a.put o.dst (.agg (CC c).toArray)) w):wpList Tryz.prog ops Q (o :: rest) a w:=
 Qar hw _ x ho g 0 _ (fun j v hv=>hb.cellD _ (QnM _ _ _ j v hv)) hx _ Tryz.underlying55 rfl (by rw[Qan];exact Qi5) h
end
set_option maxRecDepth 100000 in
theorem Qpv (c:Cmd) (w:World):Calls Tryz.prog 36 #[.agg (CC c).toArray] w fun e w'=>e= .returned (.bool (!(c.kd==1)))∧Later w w':=by
 have hb:Blk (w.alloc (.cells (CC c).toArray 55)) w.heap.size 55 (CC c):=Blk.new _ _ _
 have c0:=(QcS hb).1
 have n1:(c.kd != 1)= !(c.kd==1):=rfl
 go_enter Tryz.func36,Tryz.ntmps36
 go_wp2
 go_ret
 exact⟨rfl,Qaa _ _⟩
set_option maxRecDepth 100000 in
theorem Qqh (c:Cmd) (w:World):Calls Tryz.prog 12 #[.agg (CC c).toArray] w fun e w'=>e= .returned (.int .i64 (c.dl.toNat:Nat))∧Later w w':=by
 have hb:Blk (w.alloc (.cells (CC c).toArray 55)) w.heap.size 55 (CC c):=Blk.new _ _ _
 have c0:=(QcS hb).2.2.1
 have hw:IntKind.i64.wrap (c.dl.toNat:Int)=(c.dl.toNat:Int):=by
  have:=c.dl.toNat_lt
  simp only[IntKind.wrap,IntKind.bits,IntKind.signed]
  simp
  omega
 go_enter Tryz.func12,Tryz.ntmps12
 go_wp2
 go_ret
 exact⟨rfl,Qaa _ _⟩
theorem Qjo (s p:List UInt8) (hp:p.length=768) (hs:s.length=192):(relP s p).length=768:=by
 have h1:(p.take 288).length=288:=by rw[QFY];omega
 have hf:fitW (kPay s) (p.drop 288):=⟨Qau (by omega),by rw[QF0];omega,by rw[QF0];omega⟩
 unfold relP
 split
 ·rw[QFF,Qh1 _ _ h1,QdG,Qe5 okO hf,QcR _ _ _ hf.2.1,QF0,hp]
 ·exact QFM
theorem Qj4 (s p:List UInt8) (hp:p.length=768) (hs:s.length=192):(QdG s p).length=480:=by
 have hf:fitW (kPay s) (p.drop 288):=⟨Qau (by omega),by rw[QF0];omega,by rw[QF0];omega⟩
 rw[QdG,Qe5 okO hf,QcR _ _ _ hf.2.1,QF0,hp]
theorem QxX (p:List UInt8) (k n:Nat) (h:p.length=k+n):subB p k n=p.drop k:=by rw[subB,QFJ (by rw[QF0];omega)]
theorem QBb (hd bd:List UInt8) (h1:hd.length=288) (h2:bd.length=480):putB (putB z768 0 hd) 288 (bd.take 480)=hd++bd:=by
 rw[QFJ (by omega),z768,show QFu 768 (0:UInt8)=QFu 288 0++QFu 480 0 by rw[QGJ],QdT _ _ _ (by rw[QFM,h1]),Qe2 _ _ _ 288 h1 (by rw[QFM,h2])]
theorem QpZ {w:World} {base g n c:Nat} {bs:List UInt8} {rest:List Value} (h:Blk w g 5 (bs.map W8++rest)) (hb:base≤g) (hn:bs.length=n) (hc:c=(bs.map W8++rest).length) (hm:(bs.map W8++rest).length≤maxLen):OwnB w base (some ⟨g,0,none⟩) n c bs:=by
 subst hc
 have:=Qvs h hb hm
 rw[QFA,hn]at this
 exact this
theorem Qth {w:World} {base n c:Nat} {A:Option Addr} {bs:List UInt8} {l:List Value} (h:OwnB w base A n c bs) (hc:c=l.length):l.length≤maxLen:=by
 subst hc
 rcases h.2 with ⟨hv,_⟩|⟨g,cap,cur,hv,_,_,_,hm,_⟩
 ·injection hv with _ _ h3
  omega
 ·injection hv with _ _ h3
  omega
set_option maxRecDepth 100000 in
set_option maxHeartbeats 8000000 in
theorem QtP (s p:List UInt8) (hp:p.length=768) (hs:s.length=192) (w:World):
 Calls Tryz.prog 59 #[.agg (s.map W8).toArray,.agg (p.map W8).toArray] w fun e w'=>∃A' c',e= .returned (.tuple #[.agg (PC (relC s p) (relP s p) (.slice A' (relB s p).length c')).toArray,.int .i64 (relE s p:Nat)])∧OwnB w' w.heap.size A' (relB s p).length c' (relB s p)∧Later w w':=by
 have HZ:=hid zcPe
 have HH:=hid zcH
 have C1:=Qbb w 161 (s.map W8)
 have C2:=C1.add (Qaa _ (.cells (p.map W8).toArray 100)) (k:=w.heap.size+1) (by simp) (by omega) (Blk.new' _ _ _ (by simp))
 have C3:=C2.add (Qaa _ (.cells Tryz.zeroCells110 110)) (k:=w.heap.size+2) (by simp) (by omega) ((Blk.new' _ _ Tryz.zeroCells110.toList (by simp)).cast HZ.out)
 clear C1 C2
 have hdl:(p.take 288).length=288:=by rw[QFY];omega
 have k2:(kPay s).length=32:=Qau (by omega)
 have bl:(p.drop 288).length=480:=by rw[QF0];omega
 have hO:=hid (Qtd (p.take 288) s hdl hs)
 have hf:fitW (kPay s) (p.drop 288):=⟨k2,by omega,by omega⟩
 have hWi:=hid (fun A B c d (w:World) h1 hc h2 hd=>QsF A B 32 c 480 d (kPay s) (p.drop 288) w h1 hc h2 hd (by omega) (by omega))
 rw[QfP okO hf]at hWi
 have hBl:=Qj4 s p hp hs
 have hst:=hid (QxX p 288 480 hp)
 have hE:Hid (relE s p=Qil (p.take 288) s):=hid rfl
 have hC:Hid (relC s p=Qla (p.take 288) s):=hid rfl
 have hP:Hid (relP s p=if relE s p=0∧(relC s p).kd=1 then QjZ (p.take 288) s++QdG s p else z768):=hid rfl
 have hB:Hid (relB s p=if relE s p=0∧(relC s p).kd≠1 then QdG s p else []):=hid rfl
 have hON:=Qh1 (p.take 288) s hdl
 have hput:=hid (QBb (QjZ (p.take 288) s) (QdG s p) hON hBl)
 rw[show QcK (kPay s) (p.drop 288) rsO=QdG s p from rfl,hBl]at hWi
 have hcz:Hid (Qil (p.take 288) s≠0→Qla (p.take 288) s=cmd0):=hid (fun h=>by rw[Qla,if_neg h])
 rw[←hE.out]at hcz hO
 have hsh:Hid (subB p 0 288=p.take 288):=hid rfl
 generalize relP s p=RP at *
 generalize relB s p=RB at *
 generalize QdG s p=BD at *
 generalize QjZ (p.take 288) s=ON at *
 generalize relE s p=RE at *
 generalize hRC:relC s p=RC at *
 have HC:=hC.out
 rw[←HC]at hO hcz
 clear HC hC hE hRC
 generalize p.take 288=PH at *
 generalize p.drop 288=PD at *
 have hb0:=Qmk
 have hb1:=Qsj RC
 have hb2:=QsV RC
 have hzl:(PC cmd0 z768 nil8).length=789:=QbW _ QaU _
 have lh:((QFu 288 (0:UInt8)).map W8).length=288:=by rw[QFA,QFM]
 generalize QFu 288 (0:UInt8)=ZH at *
 go_enter Tryz.func59,Tryz.ntmps59
 go_wp2_with (first
  | (refine QuJ 0 288 rfl _ rfl (C3.nth 1 rfl) rfl Tryz.underlying97 rfl QdH hsh.out hdl ?_)
  | (refine Qld rfl _ rfl (C3.nth 2 rfl) hs rfl ?_)
  | fail)
 (with_reducible refine (hO.out _).mono ?_);rintro e w5 ⟨rfl,l5⟩
 replace C3:=C3.later l5
 clear l5 hO
 have Ca:=C3.fresh (Qaa _ (.cells cz0.toArray 53)) (QFE _) (Blk.new w5 53 cz0)
 have Cb:=Ca.add (Qaa _ (.cells Tryz.zeroCells97 97)) (k:=w5.heap.size+1) (fun q hq e=>by
  have:=(Ca.blk q hq).lt
  simp at this
  omega) (by have:=C3.lat.size;omega) ((Blk.new' _ 97 Tryz.zeroCells97.toList (by simp)).cast HH.out)
 clear Ca C3
 by_cases hr:RE=0
 ·subst hr
  replace hP:Hid (RP=if RC.kd=1 then ON++BD else z768):=hid (by rw[hP.out];simp)
  replace hB:Hid (RB=if RC.kd≠1 then BD else []):=hid (by rw[hB.out];simp)
  clear hcz
  go_wp2_with (first
   | (refine QbP rfl rfl _ _ rfl (Cb.nth 1 rfl) rfl rfl rfl ?_;intro w6 hb6 ho6
      have Cc:=Cb.write 1 rfl ho6 hb6)
   | (refine Qfl rfl rfl _ _ rfl (Cc.nth 0 rfl) rfl rfl hON lh ?_;intro w7 hb7 ho7
      have Cd:=Cc.write 0 rfl ho7 hb7)
   | fail)
  have Ce:=Cd.drew
  clear Cb Cc Cd hb6 ho6 hb7 ho7
  refine Qad [([0,1,2,3,4],5)] [6,7,8,9,10] [] (by as_aux_lemma=>kernel_rfl) (by as_aux_lemma=>kernel_rfl) (by intro _ _ d _ _ h;cases d<;>exact h) ?_
  simp only[Qah,pick,QFv,QFw,QFx,QFy,QFz]
  repeat (go_big_quiet_step (fail))
  refine wpQuiet_nil ?_
  go_wp2_with fail
  (refine (hWi.out _ _ _ _ _ (Qc3 (Ce.nth 4 rfl) rfl k2) (by omega) (Qc3 (Ce.nth 3 rfl) hst.out bl) (QFE _)).mono ?_);rintro e w8 ⟨l8,A8,c8,rfl,o8⟩
  go_wp2_with fail
  try refine⟨by first|assumption|exact Qab _|exact Qaa _ _|exact Later.refl _,?_⟩
  try simp only[Qah,pick,QFv,QFw,QFx,QFy,QFz]
  repeat (go_big_quiet_step (fail))
  refine wpQuiet_nil ?_
  obtain⟨g8,r8,rfl,hg8,hb8,hc8,hcc8⟩:=Qhe o8 (by omega)
  have hm8:(BD.map W8++r8).length≤maxLen:=Qth o8 hc8
  have Cf:=Ce.fresh l8 hg8 hb8
  replace hc8:=hid hc8
  clear o8 Ce hWi hb8 hg8
  go_wp2_with (first
   | (refine Qdc rfl _ rfl (Cf.nth 2 rfl) rfl ?_)
   | (refine Qak rfl 55 _ rfl (CC RC) (by simp only[QFI,QFW,QFR];exact hb1) ?_)
   | (refine Qak rfl 110 _ rfl (PC RC z768 nil8) (by simp only[QFI,QFW,QFR];exact hb2) ?_)
   | (refine Qen rfl rfl _ _ rfl ((Blk.new w8 _ Tryz.zeroCells110.toList).cast HZ.out) rfl rfl QaU rfl hzl ?_;intro w9 hb9 ho9
      have Cg:=Cf.push (Qaa _ _) (QFE _) ho9 hb9)
   | (refine QsD rfl _ rfl (Cg.nth 0 rfl) rfl ?_)
   | fail)
  (with_reducible refine (Qpv RC _).mono ?_);rintro e w10 ⟨rfl,l10⟩
  have Ch:=Cg.later l10
  clear hb9 ho9 Cg Cf
  cases hk:(RC.kd==1)
  ·have hkn:RC.kd≠1:=by simpa using hk
   have HP:RP=z768:=by rw[hP.out,if_neg hkn]
   have HB:RB=BD:=by rw[hB.out,if_pos hkn]
   replace HP:=hid HP
   replace HB:=hid HB
   go_wp2_with (first
    | (refine Qac rfl rfl _ _ _ rfl w8.heap.size 788 _ _ (Ch.nth 0 rfl) rfl (by rw[QbW _ QaU];omega) rfl (by kernel_rfl) ?_;intro v11 w11 hv11 hb11 ho11;simp[go_sem]at hv11;subst hv11;rw[QzP _ QaU]at hb11
       have Ci:=Ch.write 0 rfl ho11 hb11)
    | (refine Qus rfl _ rfl (Ci.nth 0 rfl) QaU rfl ?_)
    | (refine Qen rfl rfl _ _ rfl (Ci.nth 4 rfl) rfl rfl QaU rfl hzl ?_;intro w12 hb12 ho12
       have Cj:=Ci.write 4 rfl ho12 hb12)
    | fail)
   refine bodyPost_ret (Qaf rfl _ _ _ _ _ _ hb12 rfl Tryz.underlying110 rfl (by rw[QbW _ QaU];exact QgJ)) rfl ⟨some ⟨g8,0,none⟩,c8,by rw[HP.out,HB.out,hBl];rfl,?_,Cj.lat⟩
   rw[HB.out,hBl]
   exact QpZ (Cj.nth 1 rfl) (Cj.at_low 1 rfl) hBl hc8.out hm8
  ·have hky:RC.kd=1:=by simpa using hk
   have HP:RP=ON++BD:=by rw[hP.out,if_pos hky]
   have HB:RB=[]:=by rw[hB.out,if_neg (by simp[hky])]
   have hPl:(ON++BD).length=768:=by rw[QFF];omega
   have l1:(putB z768 0 ON).length=768:=by rw[QcL (by rw[QaU];omega)];exact QaU
   replace HP:=hid HP
   replace HB:=hid HB
   have r8:=hid (fun w (h:Blk w g8 5 (BD.map W8++r8))=>(show Rd w (some ⟨g8,0,none⟩) 480 (BD.map W8) from Qeo h hBl))
   generalize ON++BD=PK at *
   have hs1:=hid (Qt6 RC (P:=z768) (vs:=ON) nil8 0 (by rw[QaU];omega))
   have hs2:=hid (Qt6 RC (P:=putB z768 0 ON) (vs:=BD.take 480) nil8 288 (by rw[l1,QFY];omega))
   rw[hput.out]at hs2
   generalize putB z768 0 ON=P1 at *
   go_wp2_with (first
    | (refine QpO rfl _ rfl (Ch.nth 2 rfl) hON rfl ?_)
    | (refine Qai rfl rfl 97 _ _ rfl w8.heap.size 20 _ _ (ON.map W8) (Ch.nth 0 rfl) rfl rfl (by rw[QFA,hON];exact QdH) (by rw[QbW _ QaU,QFA];omega) (Qay _) ?_;intro w11 hb11 ho11;rw[hs1.out]at hb11
       have Ci:=Ch.write 0 rfl ho11 hb11)
    | (refine Qax rfl _ _ _ _ rfl 5 Tryz.underlying25 Qb0 w8.heap.size 308 480 480 _ _ (Ci.nth 0 rfl) (some ⟨g8,0,none⟩) 480 c8 (BD.map W8) (r8.out _ (Ci.nth 1 rfl)) (Qay _) rfl rfl (by rw[QbW _ l1];omega) ?_;intro w13 hb13 ho13;rw[←QG1,hs2.out]at hb13
       have Ck:=Ci.write 0 rfl ho13 hb13)
    | (refine Qus rfl _ rfl (Ck.nth 0 rfl) hPl rfl ?_)
    | (refine Qen rfl rfl _ _ rfl (Ck.nth 4 rfl) rfl rfl hPl rfl hzl ?_;intro w12 hb12 ho12
       have Cj:=Ck.write 4 rfl ho12 hb12)
    | fail)
   refine bodyPost_ret (Qaf rfl _ _ _ _ _ _ hb12 rfl Tryz.underlying110 rfl (by rw[QbW _ hPl];exact QgJ)) rfl ⟨none,0,by rw[HP.out,HB.out];rfl,?_,Cj.lat⟩
   rw[HB.out]
   exact Qa1 _ _ _
 ·have hne:((RE:Int) != 0)=true:=by simp;omega
  have HC:=hcz.out hr
  subst HC
  have HP:RP=z768:=by rw[hP.out,if_neg (fun h=>hr h.1)]
  have HB:RB=[]:=by rw[hB.out,if_neg (fun h=>hr h.1)]
  replace HP:=hid HP
  replace HB:=hid HB
  clear hP hB
  go_wp2_with (first
   | (refine QbP rfl rfl _ _ rfl (Cb.nth 1 rfl) rfl rfl rfl ?_;intro w6 hb6 ho6
      have Cc:=Cb.write 1 rfl ho6 hb6)
   | (refine Qfl rfl rfl _ _ rfl (Cc.nth 0 rfl) rfl rfl hON lh ?_;intro w7 hb7 ho7
      have Cd:=Cc.write 0 rfl ho7 hb7)
   | (refine Qak rfl 110 _ rfl (PC cmd0 z768 nil8) (by simp only[QFI,QFR];exact hb0) ?_)
   | (refine Qen rfl rfl _ _ rfl (Cd.nth 2 rfl) rfl rfl QaU rfl hzl ?_;intro w12 hb12 ho12
      have Cj:=Cd.write 2 rfl ho12 hb12)
   | fail)
  refine bodyPost_ret (Qaf rfl _ _ _ _ _ _ hb12 rfl Tryz.underlying110 rfl (by rw[QbW _ QaU];exact QgJ)) rfl ⟨none,0,by rw[HP.out,HB.out];rfl,?_,Cj.lat⟩
  rw[HB.out]
  exact Qa1 _ _ _
set_option maxRecDepth 100000 in
set_option maxHeartbeats 4000000 in
theorem QrF (A:Option Addr) (n c:Nat) (k p:List UInt8) (w:World) (hk:RdB w A n k) (hn:n≤140737488355328) (hp:p.length=768):
 Calls Tryz.prog 34 #[.slice A n c,.agg (p.map W8).toArray] w fun e w'=>∃A' c',e= .returned (.tuple #[.agg (PC (unwC k p) (unwP k p) (.slice A' (unwB k p).length c')).toArray,.int .i64 (unwE k p:Nat)])∧OwnB w' w.heap.size A' (unwB k p).length c' (unwB k p)∧Later w w':=by
 have HZ:=hid zcPe
 have C1:=Qbb w 100 (p.map W8)
 have C2:=C1.add (Qaa _ (.cells Tryz.zeroCells110 110)) (k:=w.heap.size+1) (by simp) (by omega) ((Blk.new' _ _ Tryz.zeroCells110.toList (by simp)).cast HZ.out)
 clear C1
 have hal:(p.take 32).length=32:=by rw[QFY];omega
 have hPe:=hid (fun (w:World) B d hk' hu=>Qw0 A B n c 32 d k (p.take 32) w hk' hu hn (by omega))
 have hsl:=QfH k (p.take 32)
 have hO:=hid (QtP (Qdz k (p.take 32)) p hp hsl)
 have hE:Hid (unwE k p=if Qbu k (p.take 32)=0 then relE (Qdz k (p.take 32)) p else Qbu k (p.take 32)):=hid rfl
 have hC:Hid (unwC k p=if Qbu k (p.take 32)=0 then relC (Qdz k (p.take 32)) p else cmd0):=hid rfl
 have hP:Hid (unwP k p=if Qbu k (p.take 32)=0 then relP (Qdz k (p.take 32)) p else z768):=hid rfl
 have hB:Hid (unwB k p=if Qbu k (p.take 32)=0 then relB (Qdz k (p.take 32)) p else []):=hid rfl
 have hRPl:=Qjo (Qdz k (p.take 32)) p hp hsl
 have hsh:Hid (subB p 0 32=p.take 32):=hid rfl
 generalize unwE k p=UE at *
 generalize unwC k p=UC at *
 generalize unwP k p=UP at *
 generalize unwB k p=UB at *
 generalize Qbu k (p.take 32)=ME at *
 generalize relP (Qdz k (p.take 32)) p=RP at *
 generalize relC (Qdz k (p.take 32)) p=RC at *
 generalize relB (Qdz k (p.take 32)) p=RB at *
 generalize relE (Qdz k (p.take 32)) p=RE at *
 generalize Qdz k (p.take 32)=S at *
 generalize p.take 32=al at *
 have hb0:=Qmk
 have hzl:(PC cmd0 z768 nil8).length=789:=QbW _ QaU _
 have hz1:=QCL
 go_enter Tryz.func34,Tryz.ntmps34
 go_wp2_with fail
 (refine (hPe.out _ _ _ (hk.later C2.lat) (Qc3 (C2.nth 1 rfl) hsh.out hal)).mono ?_);rintro e w3 ⟨rfl,l3⟩
 replace C2:=C2.later l3
 clear hPe l3
 by_cases h0:ME=0
 ·subst h0
  replace hE:=hid (hE.out.trans (if_pos rfl))
  replace hC:=hid (hC.out.trans (if_pos rfl))
  replace hP:=hid (hP.out.trans (if_pos rfl))
  replace hB:=hid (hB.out.trans (if_pos rfl))
  go_wp2_with (first
   | (refine Qhp rfl rfl _ _ rfl (Blk.new w3 _ Tryz.zeroCells161.toList) rfl rfl hsl hz1 ?_;intro w4 hb4 ho4
      have C3:=C2.push (Qaa _ _) (QFE _) ho4 hb4)
   | (refine Qld rfl _ rfl (C3.nth 0 rfl) hsl rfl ?_)
   | (refine QtE rfl _ rfl (C3.nth 2 rfl) hp rfl ?_)
   | fail)
  (with_reducible refine (hO.out _).mono ?_);rintro e w5 ⟨A5,c5,rfl,o5,l5⟩
  have hone:(Value.slice A5 RB.length c5).oneCell'=true:=rfl
  have C4:=C3.later l5
  have hlow:∀b,(Value.slice A5 RB.length c5).ownBlock=some b→b≠w.heap.size+1:=fun b hb e=>by
   have h1:=(World.ownsRow.lt o5 b hb).1
   have h2:=(C3.nth 1 rfl).lt
   omega
  go_wp2_with (first
   | (refine Qen rfl rfl _ _ rfl (C4.nth 1 rfl) rfl rfl hRPl hone hzl ?_;intro w6 hb6 ho6
      have C5:=C4.write 1 rfl ho6 hb6
      have o6:=Ql3 o5 ho6 hlow)
   | fail)
  refine bodyPost_ret (Qaf rfl _ _ _ _ _ _ hb6 rfl Tryz.underlying110 rfl (by rw[QbW _ hRPl];exact QgJ)) rfl ⟨A5,c5,by rw[hE.out,hC.out,hP.out,hB.out];rfl,?_,C5.lat⟩
  rw[hB.out]
  exact Qbc o6 C3.lat.size
 ·have hne:((ME:Int) != 0)=true:=by simp;omega
  replace hE:=hid (hE.out.trans (if_neg h0))
  replace hC:=hid (hC.out.trans (if_neg h0))
  replace hP:=hid (hP.out.trans (if_neg h0))
  replace hB:=hid (hB.out.trans (if_neg h0))
  go_wp2_with (first
   | (refine Qhp rfl rfl _ _ rfl (Blk.new w3 _ Tryz.zeroCells161.toList) rfl rfl hsl hz1 ?_;intro w4 hb4 ho4
      have C3:=C2.push (Qaa _ _) (QFE _) ho4 hb4)
   | (refine Qak rfl 110 _ rfl (PC cmd0 z768 nil8) (by simp only[QFI,QFR];exact hb0) ?_)
   | (refine Qen rfl rfl _ _ rfl (C3.nth 1 rfl) rfl rfl QaU rfl hzl ?_;intro w6 hb6 ho6
      have C5:=C3.write 1 rfl ho6 hb6)
   | fail)
  refine bodyPost_ret (Qaf rfl _ _ _ _ _ _ hb6 rfl Tryz.underlying110 rfl (by rw[QbW _ QaU];exact QgJ)) rfl ⟨none,0,by rw[hE.out,hC.out,hP.out,hB.out];rfl,?_,C5.lat⟩
  rw[hB.out]
  exact Qa1 _ _ _
end Go.Proofs.YtcbdgnlcknllnaaGreat
namespace Go.Proofs.YtcbdgnlcknllnaaGreat
open Go.RowKit
def QcH (vs:List Vst):Vst:=vs.getD (vs.length-1) vst0
def arr0:Arr:=⟨prt0,0,0,0,QaH⟩
def arvE (vs:List Vst) (b:List UInt8):Nat:=
 if vs.length=0∨b.length≠480 then 2 else if (QcH vs).cm.kd=4 then 0 else if (QcH vs).cm.kd≠2∧(QcH vs).cm.kd≠3 then 3
 else if parE b≠0 then parE b else if (parP b).kd≠(if (QcH vs).cm.kd=3 then 2 else 1) then 10 else 0
def arvA (vs:List Vst) (b:List UInt8) (tk:Int):Arr:=
 if arvE vs b≠0 then arr0 else if (QcH vs).cm.kd=4 then ⟨prt0,4,(QcH vs).id,tk,(QcH vs).cm.ma⟩ else ⟨parP b,(QcH vs).cm.kd,(QcH vs).id,tk,QaH⟩
theorem Qix {vs:List Vst} {b:List UInt8} {tk:Int} (h:arvE vs b≠0):arvA vs b tk=arr0:=if_pos h
section
variable {vs:List Vst} {b:List UInt8} (tk:Int)
theorem Qqe (h:vs.length=0∨b.length≠480):arvE vs b=2∧arvA vs b tk=arr0:=by
 have e:arvE vs b=2:=if_pos h
 exact⟨e,Qix (by rw[e];decide)⟩
theorem QuQ (h: ¬(vs.length=0∨b.length≠480)) (hk:(QcH vs).cm.kd=4):arvE vs b=0∧arvA vs b tk=⟨prt0,(QcH vs).cm.kd,(QcH vs).id,tk,(QcH vs).cm.ma⟩:=by
 have e:arvE vs b=0:=by rw[arvE,if_neg h,if_pos hk]
 exact⟨e,by rw[arvA,if_neg (by rw[e];decide),if_pos hk,hk]⟩
theorem Qxl (h: ¬(vs.length=0∨b.length≠480)) (h4:(QcH vs).cm.kd≠4) (h2:(QcH vs).cm.kd≠2) (h3:(QcH vs).cm.kd≠3):arvE vs b=3∧arvA vs b tk=arr0:=by
 have e:arvE vs b=3:=by rw[arvE,if_neg h,if_neg h4,if_pos ⟨h2,h3⟩]
 exact⟨e,Qix (by rw[e];decide)⟩
theorem Qzd (h: ¬(vs.length=0∨b.length≠480)) (h23:(QcH vs).cm.kd=2∨(QcH vs).cm.kd=3) (hp:parE b≠0):arvE vs b=parE b∧arvA vs b tk=arr0:=by
 have e:arvE vs b=parE b:=by
  rw[arvE,if_neg h,if_neg (by rcases h23 with h|h<;>rw[h]<;>decide),if_neg (by rcases h23 with h|h<;>rw[h]<;>decide),if_pos hp]
 exact⟨e,Qix (by rw[e];exact hp)⟩
theorem QwI (h: ¬(vs.length=0∨b.length≠480)) (h23:(QcH vs).cm.kd=2∨(QcH vs).cm.kd=3) (hp:parE b=0) (ht:(parP b).kd≠(if (QcH vs).cm.kd=3 then 2 else 1)):arvE vs b=10∧arvA vs b tk=arr0:=by
 have e:arvE vs b=10:=by
  rw[arvE,if_neg h,if_neg (by rcases h23 with h|h<;>rw[h]<;>decide),if_neg (by rcases h23 with h|h<;>rw[h]<;>decide),if_neg (not_not_intro hp),if_pos ht]
 exact⟨e,Qix (by rw[e];decide)⟩
theorem QpR (h: ¬(vs.length=0∨b.length≠480)) (h23:(QcH vs).cm.kd=2∨(QcH vs).cm.kd=3) (hp:parE b=0) (ht:(parP b).kd=(if (QcH vs).cm.kd=3 then 2 else 1)):arvE vs b=0∧arvA vs b tk=⟨parP b,(QcH vs).cm.kd,(QcH vs).id,tk,QaH⟩:=by
 have e:arvE vs b=0:=by
  rw[arvE,if_neg h,if_neg (by rcases h23 with h|h<;>rw[h]<;>decide),if_neg (by rcases h23 with h|h<;>rw[h]<;>decide),if_neg (not_not_intro hp),if_neg (not_not_intro ht)]
 exact⟨e,by rw[arvA,if_neg (by rw[e];decide),if_neg (by rcases h23 with h|h<;>rw[h]<;>decide)]⟩
end
theorem Qdw {w:World} {g:Nat} {t:TypeId} {v:Vst} (h:Blk w g t (VC v)):w.cell? ⟨g,0,none⟩=some (W8 v.cm.kd)∧w.cell? ⟨g,20,none⟩=some (W64 v.id)∧∀j u,(v.cm.ma.val.map W8)[j]?=some u→w.cell? ⟨g,4+j,none⟩=some u:=by
 have hc:=Qan v.cm
 refine⟨h.cellD 0 rfl,h.cellD 20 ?_,fun j u hu=>h.cellD (4+j) ?_⟩
 ·rw[VC,QFK (by omega),hc]
  rfl
 ·have hj:=(QFU.1 hu).1
  rw[QFA,v.cm.ma.2]at hj
  rw[VC,QFS (by omega),show (4+j)=j+1+1+1+1 by omega]
  exact hu
theorem QvF (p:Prt) (kd:UInt8) (to:UInt64) (tk:Int) (m m':Y16) (v:Value):Qat (AvC ⟨⟨p,kd,to,tk,m⟩,v⟩) 8 (m'.val.map W8)=AvC ⟨⟨p,kd,to,tk,m'⟩,v⟩:=by
 simp[AvC,PaC,Qat,m.2,m'.2]
theorem QqG (p p':Prt) (kd:UInt8) (to:UInt64) (tk:Int) (m:Y16) (v v':Value):Qat (AvC ⟨⟨p,kd,to,tk,m⟩,v⟩) 0 (PaC p' v')=AvC ⟨⟨p',kd,to,tk,m⟩,v'⟩:=by
 simp[AvC,PaC,Qat]
end Go.Proofs.YtcbdgnlcknllnaaGreat
namespace Go.Proofs.YtcbdgnlcknllnaaGreat
open Go.RowKit
open Go.BigFrame
structure Arw where
 ar:Arr
 va:Option Addr
 vn:Nat
 vc:Nat
abbrev az0:List Value:=[.int .u8 0,.int .u64 0,.int .i64 0,.int .i64 0,.slice none 0 0,.int .u8 0,.int .u64 0,.int .i64 0,.int .u8 0,.int .u8 0,.int .u8 0,.int .u8 0,.int .u8 0,.int .u8 0,.int .u8 0,.int .u8 0,.int .u8 0,.int .u8 0,.int .u8 0,.int .u8 0,.int .u8 0,.int .u8 0,.int .u8 0,.int .u8 0]
theorem Qeb {P:Program} {o:Oper} {a:Act} {J:Act→Prop} (ty:TypeId) (x:Operand) (ho:o.op= .load ty x) {w0:World} {g:Nat} {t:TypeId} {l:List Value} (off:Nat) (vs:List Value) (hb:Blk w0 g t l) (hx:a.eval x= .pointer (some ⟨g,off,none⟩))
 (hv:∀j v,vs[j]?=some v→l[off+j]?=some v) (d:TypeDesc) (hu:P.underlying ty=some d) (hd:QbY d=true) (hi:(P.info? ty).map (·.size)=some vs.length) (h:J (a.put o.dst (.agg vs.toArray))):o.quiet P a (fun w'=>∃x,w'=grow w0 x) J:=
 QaP _ x ho g off vs (fun _ hw j v hv'=>by obtain⟨y,rfl⟩:=hw;exact (hb.later ⟨y,rfl⟩).cellD _ (hv j v hv')) hx d hu hd hi h
theorem Qtp:(Tryz.prog.info? 51).map (·.size)=some 16:=by kernel_rfl
theorem Qbs:(Tryz.prog.info? 60).map (·.size)=some 24:=by kernel_rfl
theorem Qcf (ar:Arr) (A:Option Addr) (n c:Nat):∀u∈AvC ⟨ar,.slice A n c⟩,u.oneCell'=true:=by
 intro u hu
 rcases QGC.1 hu with hu|hu
 ·exact QiY _ rfl u hu
 ·simp only[QFP,QGf]at hu
  rcases hu with rfl|rfl|rfl|⟨b,_,rfl⟩<;>rfl
def ar9:Arr:=⟨⟨1,5,0,1,[9]⟩,2,3,7,QaH⟩
theorem QET:ltrs [ar9] 1=[⟨3,5,7,[9]⟩]:=by rfl
abbrev tz0:List Value:=[.slice none 0 0,.slice none 0 0,.int .i64 0]
abbrev em9:List Value:=[.int .i64 (-1),.int .u64 0,.slice none 0 0]
theorem QnD:Tryz.prog.built 41 []=some tz0.toArray:=by kernel_rfl
theorem QcP:(Tryz.prog.info? 41).map (·.size)=some 3:=by kernel_rfl
theorem QjA:∀u∈tz0,u.oneCell'=true:=by
 intro u hu
 simp only[QFP,QFO,or_false]at hu
 rcases hu with rfl|rfl|rfl<;>rfl
set_option maxRecDepth 100000 in
theorem QtH (w:World):Calls Tryz.prog 11 #[.slice none 0 0,.agg em9.toArray] w fun e w'=>e= .returned (.tuple #[.agg tz0.toArray,.int .i64 1])∧Later w w':=by
 have B1:=Qbb w 27 em9
 have B2:=B1.add (Qaa _ (.cells tz0.toArray 41)) (k:=w.heap.size+1) (by simp) (by omega) (Blk.new' _ _ tz0 (by simp))
 have e0:=(B2.nth 1 rfl).cellD 0 (u:=.int .i64 (-1)) rfl
 have hb:=hid QnD
 go_enter Tryz.func11,Tryz.ntmps11
 go_wp2_with (first
  | (refine Qak ?hw 41 _ rfl tz0 (by simp only[QFI,QFR];exact hb.out) ?_;(case hw=>rfl))
  | (refine Qaj rfl rfl _ _ _ rfl (w.heap.size+1) _ _ tz0 (B2.nth 0 rfl) rfl rfl 3 QcP rfl rfl QjA ?_;intro w5 hb5 ho5)
  | fail)
 exact bodyPost_ret (Qaf rfl _ _ _ _ _ _ hb5 rfl Tryz.underlying41 rfl QcP) rfl ⟨rfl,B2.lat.only ho5 (by omega)⟩
theorem QBu {w:World} {g:Nat} {t:TypeId} {x:Arv} (h:Blk w g t (AvC x)):RdF AvC 24 av0 w (some ⟨g,0,none⟩) 1 [x]:=
 QhN Qas (by rw[show [x].flatMap AvC=AvC x by simp];exact h) rfl
theorem QwV {α β:Type} (f:α→β) {l:List α} {b:β} (h:l.map f=[b]):∃y,l=[y]∧f y=b:=by
 rcases l with _|⟨y,_|⟨z,zs⟩⟩
 ·simp at h
 ·exact⟨y,rfl,by simpa using h⟩
 ·simp at h
abbrev aa9 (g:Nat):List Value:=[.int .u8 1,.int .u64 5,.int .i64 0,.int .i64 1,.slice (some ⟨g,0,none⟩) 1 1,.int .u8 2,.int .u64 3,.int .i64 7,.int .u8 0,.int .u8 0,.int .u8 0,.int .u8 0,.int .u8 0,.int .u8 0,.int .u8 0,.int .u8 0,.int .u8 0,.int .u8 0,.int .u8 0,.int .u8 0,.int .u8 0,.int .u8 0,.int .u8 0,.int .u8 0]
theorem QBZ (g:Nat):aa9 g=AvC ⟨ar9,.slice (some ⟨g,0,none⟩) 1 1⟩:=by rfl
set_option maxRecDepth 100000 in
set_option maxHeartbeats 4000000 in
theorem Qz8 (w:World):Calls Tryz.prog 6 #[] w fun e w'=>e= .returned (.bool true)∧Later w w':=by
 have B1:=Qbb w 5 [.int .u8 9]
 have B2:=B1.add (Qaa _ (.cells (aa9 w.heap.size).toArray 60)) (k:=w.heap.size+1) (by simp) (by omega) (Blk.new' _ _ (aa9 w.heap.size) (by simp))
 have hx:=QBu (x:=⟨ar9,.slice (some ⟨w.heap.size,0,none⟩) 1 1⟩) (QBZ w.heap.size ▸ (B2.nth 0 rfl))
 have hr9:=Qeo (bs:=[9]) (rest:=[]) (B2.nth 1 rfl) rfl
 have hok:∀x∈[(⟨ar9,.slice (some ⟨w.heap.size,0,none⟩) 1 1⟩:Arv)],AvOk ((w.alloc (.cells [.int .u8 9].toArray 5)).alloc (.cells (aa9 w.heap.size).toArray 60)) x:=by
  intro x hx
  obtain rfl:x=_:=by simpa using hx
  exact⟨_,1,1,rfl,QFE _,hr9⟩
 have HL:=hid (Qob (some ⟨w.heap.size+1,0,none⟩) 1 1 _ _ hx hok (by omega))
 have j2:=B2.lat
 clear hx hr9 hok B1 B2
 go_enter Tryz.func6,Tryz.ntmps6
 go_wp2_with fail
 refine HL.out.mono ?_
 clear HL
 rintro e w1 ⟨v,ys,rfl,⟨bm,k,f,K,S⟩,hys⟩
 obtain⟨y,rfl,hy⟩:∃y,ys=[y]∧y.lt=⟨3,5,7,[9]⟩:=by
  exact QwV _ (hys.trans QET)
 obtain⟨lt,va,vn,vc⟩:=y
 simp only at hy
 subst hy
 have htx:=S.txt _ (QGL.2 rfl)
 simp only at htx
 obtain rfl:1=vn:=htx.len
 have hown:=S.own
 simp only[QHm,List.flatMap_nil,QGb,List.length_singleton]at hown
 have j1:=S.lat
 clear S hys
 rcases hown.2 with ⟨_,h⟩|⟨g,cap,cur,rfl,_⟩
 ·omega
 go_wp2_with fail
 refine (QtH w1).mono ?_
 rintro e w2 ⟨rfl,l2⟩
 go_wp2_with (first
  | (refine Qaj rfl rfl _ _ _ rfl w2.heap.size _ _ tz0 (Blk.new w2 _ tz0) rfl rfl 3 QcP rfl rfl QjA ?_;intro w5 hb5 ho5
     have l5:Later w1 w5:=l2.trans ((Qaa w2 _).only ho5 (QFE _))
     have hown5:=Qa7 hown l5
     have q0:w5.cell? ⟨g,0,none⟩=some (W64 3):=hown5.cells (g:=g) rfl 0 _ rfl
     have q1:w5.cell? ⟨g,1,none⟩=some (W64 5):=hown5.cells (g:=g) rfl 1 _ rfl
     have q2:w5.cell? ⟨g,2,none⟩=some (.int .i64 7):=hown5.cells (g:=g) rfl 2 _ rfl
     have q3:w5.cell? ⟨g,3,none⟩=some (.slice va 1 vc):=hown5.cells (g:=g) rfl 3 _ rfl)
  | fail)
 refine (QmY va (some ⟨w5.heap.size,0,none⟩) 1 1 vc 1 [9] [9] _ ((htx.rd.later l5).later (Qaa w5 _)) (Qeo (bs:=[9]) (rest:=[]) (Blk.new w5 5 [.int .u8 9]) rfl) (by omega) (by omega)).mono ?_
 rintro e w6 ⟨rfl,l6⟩
 simp only[decide_true]
 go_wp2_with fail
 go_ret
 exact⟨rfl,((j2.trans j1).trans l5).trans ((Qaa w5 _).trans l6)⟩
abbrev tr1 (A:Option Addr) (n c:Nat) (B:Option Addr) (m d:Nat) (tk:Int):List Value:=[.slice A n c,.slice B m d,.int .i64 tk]
theorem Qjd (A:Option Addr) (n c:Nat) (B:Option Addr) (m d:Nat) (tk:Int):∀u∈tr1 A n c B m d tk,u.oneCell'=true:=by
 intro u hu
 simp only[QFP,QFO,or_false]at hu
 rcases hu with rfl|rfl|rfl<;>rfl
theorem QpX (v:Vst):∀u∈VC v,u.oneCell'=true:=by
 intro u hu
 simp only[VC,CC,QFy,QFP,QGC,QGf,QFO,or_false]at hu
 rcases hu with rfl|rfl|rfl|rfl|⟨b,_,rfl⟩|rfl|rfl<;>rfl
theorem QC0:(Tryz.prog.info? 57).bind (·.zero)=some (.agg (VC vst0).toArray):=by kernel_rfl
theorem QC7:(Tryz.prog.info? 57).map (fun i=>(i.zero,i.size,i.bytes))=some (some (.agg (VC vst0).toArray),22,48):=by kernel_rfl
theorem QAW:(Tryz.prog.info? 57).map (fun i=>(i.zero,i.size))=some (some (.agg (VC vst0).toArray),22):=by kernel_rfl
theorem Qu5 (v:Vst):Tryz.prog.built 57 [(0,.agg (CC v.cm).toArray),(1,W64 v.id),(2,.int .i64 v.tk)]=some (VC v).toArray:=by
 rw[Qa0 (pl:=[(0,20),(20,1),(21,1)]) Tryz.underlying57 QC0 (by kernel_rfl),QaR (vs:=CC v.cm) (off:=0) rfl (by rw[Qan];rfl) (by rw[QaN,Qan];omega),
  QaR (vs:=[W64 v.id]) (off:=20) rfl rfl (by rw[QaX _ _ _ (by rw[QaN,Qan];omega),QaN];simp),QaR (vs:=[.int .i64 v.tk]) (off:=21) rfl rfl (by rw[QaX _ _ _ (by rw[QaX _ _ _ (by rw[QaN,Qan];omega),QaN];simp),QaX _ _ _ (by rw[QaN,Qan];omega),QaN];simp),Qb5]
 congr 2
 have h1:(CC v.cm).length=20:=Qan _
 have h2:(CC vst0.cm).length=20:=Qan _
 rw[VC,VC]
 generalize CC v.cm=a at *
 generalize CC vst0.cm=z at *
 have e1:Qat (z++[W64 vst0.id,.int .i64 vst0.tk]) 0 a=a++[W64 vst0.id,.int .i64 vst0.tk]:=by
  rw[Qat,QHy,QFz,QFX,h1,QGe h2]
 rw[e1]
 have e2:Qat (a++[W64 vst0.id,.int .i64 vst0.tk]) 20 [W64 v.id]=a++[W64 v.id,.int .i64 vst0.tk]:=by
  rw[Qat,QGv h1,QFL,QHI,h1,QGw (by omega)]
  rfl
 rw[e2]
 rw[Qat,List.take_append,h1,QFJ (by omega),QFL,QHI,h1,QGw (by omega)]
 simp
end Go.Proofs.YtcbdgnlcknllnaaGreat
