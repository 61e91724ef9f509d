/-
  Lemmas for the last text of this claim (part 16 of 20).
-/
import Derived.ArgAppend
import Derived.BigQuiet
import Derived.BigRegion
import Derived.ChangeOld
import Derived.Deep.RegionWith
import Derived.DeepKeys4
import Derived.JoinedCond
import Derived.LaidMore
import Derived.Laws.BytesArg
import Derived.Laws.CopyOwn
import Derived.Laws.Externs
import Derived.Laws.IdiomStrings
import Derived.Laws.Tables
import Derived.Lib.AppendStr
import Derived.Lib.AppendZerosOnto
import Derived.Lib.Mul64
import Derived.Lib.SlBytesConst
import Derived.LoopN
import Derived.Maps.OwnSet
import Derived.OpenShut
import Derived.OrdersHeld
import Derived.ProofKit
import Derived.Shelf.Spec.BitsCarry
import Derived.ShutString
import Derived.Test.YtdhgpkdjdmlphaaGreatProg
import Derived.Test.YtdhgpkdjdmlphaaGreatRows
import Derived.WalkKit
import Derived.WalkLawsBesides
import Derived.WalkSpells
import Derived.Test.YtdhgpkdjdmlphaaGreatUD
import Derived.Test.YtdhgpkdjdmlphaaGreatUJ
import Derived.Test.YtdhgpkdjdmlphaaGreatUL
import Derived.Test.YtdhgpkdjdmlphaaGreatUM
import Derived.Test.YtdhgpkdjdmlphaaGreatUN
import Derived.Test.YtdhgpkdjdmlphaaGreatUO
open Bool renaming and_eq_true → QGM
open List renaming replicate → QGn, getElem?_cons_succ → QGo, getElem?_cons_zero → QGp, getD_eq_getElem?_getD → QGq, length_map → QGr, getElem?_eq_getElem → QGt, cons_append → QGu, nil_append → QGv, setIfInBounds_toArray → QGw, length_append → QGy, set_cons_zero → QGz, length_replicate → QGA, set_cons_succ → QGB, map_toArray → QGC, take_of_length_le → QGD, getElem?_append_right → QGE, getElem?_map → QGF, getElem?_append_left → QGG, map_nil → QGH, append_assoc → QGI, mem_cons → QGJ, length_take → QGP, length_drop → QGQ, map_cons → QGR, take_append_drop → QGX, take_succ_eq_append_getElem → QGY, range → QG0, set_append_right → QG1, mem_map → QG2, map_append → QG6, eq_nil_of_length_eq_zero → QG7, map_replicate → QG8, all_eq_true → QHa, drop_left' → QHc, length_cons → QHe, take_append_of_le_length → QHf, getElem_mem → QHi, drop_of_length_le → QHj, drop_eq_getElem_cons → QHw, getElem?_drop → QHA, getElem?_range → QHD, replicate_append_replicate → QHI, take_left' → QHK, getElem_of_mem → QHQ, any_eq_true → QHV, drop_drop → QHY, range_succ → QH5, drop_eq_nil_of_le → QIh, map_congr_left → QIB, length_singleton → QIE, drop_append → QIG, any_eq_false → QIK
open Nat renaming le_refl → QGx, lt_of_lt_of_le → QGN, mod_eq_of_lt → QGO, le_trans → QG9, div_div_eq_div_mul → QHk, mul_comm → QHp, pow_succ → QHq, min_eq_left → QHx, sub_self → QHG, mod_mod → QHX, add_comm → QID, pow_zero → QIR
open Option renaming toList_some → QGs, map_some → QH9, getD_some → QIl
open UInt32 renaming ofNat → QG5, ofInt → QIe
open UInt64 renaming ofNat → QGS, toNat_ofNat' → QGZ
open UInt8 renaming ofNat → QG3, ofInt → QG4, toNat_inj → QHl, toNat_ofNat' → QHy, lt_iff_toNat_lt → QIp
set_option linter.all false
namespace Go.Proofs.YtdhgpkdjdmlphaaGreat
open Go.RowKit
open Go.BigFrame
def bigB:Nat→Nat→List UInt8
 | 0,_=>[]
 | w+1,n=>bigB w (n/256)++[QG3 n]
theorem Qat:∀w n,(bigB w n).length=w
 | 0,_=>rfl
 | w+1,n=>by rw[bigB,QGy,Qat w];rfl
theorem Qha:∀w n,beN (bigB w n) 0=n%256^w
 | 0,n=>by rw[bigB,beN,QIR,Nat.mod_one]
 | w+1,n=>by
   rw[bigB,Qgg,Qha w]
   show n/256%256^w*256+(QG3 n).toNat=_
   rw[QHy,show 2^8=256 from rfl,QHq,QHp (256^w),Nat.mod_mul]
   omega
def encB (c:Cmd):List UInt8:=[c.kd,c.fl]++(bigB 4 c.dl.toNat++(bigB 8 c.nx.toNat++(c.ma.val++[0,0])))
theorem QcW (c:Cmd):(encB c).length=32:=by simp[encB,Qat,c.ma.2]
theorem QAg {a b:Cmd} (h1:a.kd=b.kd) (h2:a.fl=b.fl) (h3:a.dl=b.dl) (h4:a.nx=b.nx) (h5:a.ma.val=b.ma.val):a=b:=by
 cases a
 cases b
 simp only at h1 h2 h3 h4
 subst h1 h2 h3 h4
 congr
 exact Subtype.ext h5
theorem Qn7 (c:Cmd):QgH (encB c)=c:=by
 have hm:=c.ma.2
 refine QAg rfl rfl ?_ ?_ ?_
 ·show QG5 (beN (subB (encB c) 2 4) 0)=c.dl
  rw[encB,Qch _ _ _ 2 4 rfl (Qat _ _),Qha,QGO (by have:=c.dl.toNat_lt;omega),UInt32.ofNat_toNat]
 ·show QGS (beN (subB (encB c) 6 8) 0)=c.nx
  rw[encB,←QGI,Qch _ _ _ 6 8 (by rw[QGy,Qat];rfl) (Qat _ _),Qha,QGO (by have:=c.nx.toNat_lt;omega),UInt64.ofNat_toNat]
 ·rw[Qk7 _ (QcW c),encB,←QGI,←QGI,Qch _ _ _ 14 16 (by rw[QGy,QGy,Qat,Qat];rfl) hm]
theorem QmB (c:Cmd):(encB c).getD 30 0=0∧(encB c).getD 31 0=0:=by
 have h:encB c=([c.kd,c.fl]++bigB 4 c.dl.toNat++bigB 8 c.nx.toNat++c.ma.val)++[0,0]:=by simp[encB]
 have hl:([c.kd,c.fl]++bigB 4 c.dl.toNat++bigB 8 c.nx.toNat++c.ma.val).length=30:=by simp[Qat,c.ma.2]
 rw[h]
 constructor
 ·rw[QGq,QGE (by omega),hl];rfl
 ·rw[QGq,QGE (by omega),hl];rfl
theorem Qql (c:Cmd):decE (encB c)=cmdE c:=by
 rw[decE,Qn7,(QmB c).1,(QmB c).2,if_neg (fun h=>by have:=h.2;simp at this)]
theorem QxI (c:Cmd) (h:cmdE c=0):decC (encB c)=c:=by rw[decC,Qql,if_pos h,Qn7]
theorem Qlo (key:List UInt8) (n:Nat) (h:n≤288):chaS key n=(chaS key 288).take n:=by
 rw[Qi3 key n 5 (by omega),Qi3 key 288 5 (by omega),List.take_take,QHx h]
theorem Qor {p q s t:List UInt8} (h:p.length=s.length):xorB (p++q) (s++t)=xorB p s++xorB q t:=List.zipWith_append h
theorem Qn0 (p q:List UInt8) (k:Nat):(xorB p q).drop k=xorB (p.drop k) (q.drop k):=List.drop_zipWith
theorem Qjd (p q:List UInt8) (k:Nat):(xorB p q).take k=xorB (p.take k) (q.take k):=List.take_zipWith
def QfV (st:Nat→List UInt8):Nat→List UInt8
 | 0=>[]
 | k+1=>xorB (QfV st k++QGn 48 0) ((chaS (kStr (st k)) 288).drop (288-48*(k+1)))
theorem QdA (st:Nat→List UInt8):∀k,k≤5→(QfV st k).length=48*k
 | 0,_=>rfl
 | k+1,h=>by
   have ih:=QdA st k (by omega)
   rw[QfV,Qbc (by simp[ih,QaE];omega),QGQ,QaE]
   omega
def betA (n:Nat) (sl st:Nat→List UInt8):Nat→List UInt8
 | 0=>xorB (sl (n-1)++QGn (208-48*(n-1)) 0) (chaS (kStr (st (n-1))) (240-48*(n-1)))++QfV st (n-1)
 | j+1=>xorB (sl (n-2-j)++(tagB (kMac (st (n-1-j))) (kAlp (st (n-1-j))) (betA n sl st j)++(betA n sl st j).take 192)) (chaS (kStr (st (n-2-j))) 240)
def tagA (n:Nat) (sl st:Nat→List UInt8) (j:Nat):List UInt8:=tagB (kMac (st (n-1-j))) (kAlp (st (n-1-j))) (betA n sl st j)
def hdrA (n:Nat) (sl st:Nat→List UInt8) (j:Nat):List UInt8:=kAlp (st (n-1-j))++(tagA n sl st j++betA n sl st j)
theorem QbJ (k al be:List UInt8):(tagB k al be).length=16:=by rw[tagB,QGP,QaU];rfl
section
variable {n:Nat} {sl st:Nat→List UInt8} (hn1:1≤n) (hn5:n≤5) (hsl:∀k,(sl k).length=32)
include hn1 hn5 hsl
theorem QbL:∀j,(betA n sl st j).length=240
 | 0=>by
   have:=QdA st (n-1) (by omega)
   rw[betA,QGy,Qbc (by rw[QGy,hsl,QGA,QaE];omega),QaE,this]
   omega
 | j+1=>by
   have ih:=QbL j
   rw[betA,Qbc (by rw[QGy,hsl,QGy,QbJ,QGP,ih,QaE];omega),QaE]
theorem Qr7 (j:Nat):xorB (betA n sl st (j+1)) (chaS (kStr (st (n-2-j))) 240)=sl (n-2-j)++(tagA n sl st j++(betA n sl st j).take 192):=by
 have ih:=QbL (st:=st) hn1 hn5 hsl j
 rw[betA,QeU (by rw[QGy,hsl,QGy,QbJ,QGP,ih,QaE];omega)]
 rfl
theorem QmM:∀j,j+1≤n→(betA n sl st j).drop (240-48*(n-1-j))=QfV st (n-1-j)
 | 0,_=>by
   rw[betA,Nat.sub_zero,QHc (by rw[Qbc (by rw[QGy,hsl,QGA,QaE];omega),QaE])]
 | j+1,hj=>by
   have ih:=QmM j (by omega)
   have hbl:=QbL (st:=st) hn1 hn5 hsl j
   obtain⟨i,hi⟩:∃i,i=n-2-j:=⟨_,rfl⟩
   have hi1:n-1-j=i+1:=by omega
   have hi2:n-1-(j+1)=i:=by omega
   have hfl:=QdA st i (by omega)
   rw[hi1]at ih
   have hX:(chaS (kStr (st i)) 240).drop (240-48*i)=((chaS (kStr (st i)) 288).drop (240-48*i)).take (48*i):=by
    rw[Qlo _ 240 (by omega),List.drop_take,show 240-(240-48*i)=48*i by omega]
   have hB:((betA n sl st j).take 192).drop (192-48*i)=xorB (QfV st i) (((chaS (kStr (st i)) 288).drop (240-48*i)).take (48*i)):=by
    rw[List.drop_take,show 192-(192-48*i)=48*i by omega,show 192-48*i=240-48*(i+1) by omega,ih,QfV,Qjd,QHK hfl,show 288-48*(i+1)=240-48*i by omega]
   have hcut:(sl i++(tagB (kMac (st (n-1-j))) (kAlp (st (n-1-j))) (betA n sl st j)++(betA n sl st j).take 192)).drop (240-48*i)=((betA n sl st j).take 192).drop (192-48*i):=by
    rw[←QGI,QIG,QIh (by rw[QGy,hsl,QbJ];omega),QGv,QGy,hsl,QbJ,show 240-48*i-(32+16)=192-48*i by omega]
   rw[hi2,betA,←hi,Qn0,hcut,hB,hX,QeU (by rw[hfl,QGP,QGQ,QaE];omega)]
theorem Qln (j:Nat) (ha:(kAlp (st (n-1-j))).length=32):subB (hdrA n sl st j) 0 32=kAlp (st (n-1-j))∧subB (hdrA n sl st j) 32 16=tagA n sl st j∧subB (hdrA n sl st j) 48 240=betA n sl st j:=by
 have ht:(tagA n sl st j).length=16:=QbJ _ _ _
 have hb:=QbL (st:=st) hn1 hn5 hsl j
 refine⟨Qkv _ _ _ ha,Qch _ _ _ _ _ ha ht,?_⟩
 rw[hdrA,←QGI,Qnp _ _ _ _ (by rw[QGy,ha,ht]) hb]
theorem Qo3 (j:Nat) (ha:(kAlp (st (n-1-j))).length=32):(hdrA n sl st j).length=288:=by
 have hb:=QbL (st:=st) hn1 hn5 hsl j
 rw[hdrA,QGy,QGy,ha,hb,tagA,QbJ]
theorem QBk (j:Nat) (ha:(kAlp (st (n-1-j))).length=32):QmZ (hdrA n sl st j) (st (n-1-j))=true:=by
 obtain⟨h1,h2,h3⟩:=Qln (sl:=sl) hn1 hn5 hsl j ha
 rw[QmZ,h1,h2,h3]
 exact decide_eq_true rfl
theorem Qxz (ha:(kAlp (st (n-1))).length=32):(QcL (hdrA n sl st 0) (st (n-1))).take 32=sl (n-1):=by
 have h3:=(Qln (sl:=sl) hn1 hn5 hsl 0 (by rw[Nat.sub_zero];exact ha)).2.2
 have hb:=QbL (st:=st) hn1 hn5 hsl 0
 rw[QcL,h3,Qjd,QHf (by omega),betA]
 have h1:(xorB (sl (n-1)++QGn (208-48*(n-1)) 0) (chaS (kStr (st (n-1))) (240-48*(n-1)))).length=240-48*(n-1):=by
  rw[Qbc (by rw[QGy,hsl,QGA,QaE];omega),QaE]
 rw[QHf (by rw[h1];omega),Qjd,QHK (hsl _),Qlo _ (240-48*(n-1)) (by omega),List.take_take,QHx (by omega)]
 exact QeU (by rw[hsl,QGP,QaE];omega)
theorem QxM (j:Nat) (hj:j+1<n) (ha:(kAlp (st (n-1-(j+1)))).length=32):QcL (hdrA n sl st (j+1)) (st (n-1-(j+1)))=sl (n-1-(j+1))++(tagA n sl st j++betA n sl st j):=by
 have h3:=(Qln (sl:=sl) hn1 hn5 hsl (j+1) ha).2.2
 have hb:=QbL (st:=st) hn1 hn5 hsl j
 have hb1:=QbL (st:=st) hn1 hn5 hsl (j+1)
 have hf:=QmM (st:=st) hn1 hn5 hsl j (by omega)
 obtain⟨i,hi⟩:∃i,i=n-2-j:=⟨_,rfl⟩
 have hi1:n-1-j=i+1:=by omega
 have hi2:n-1-(j+1)=i:=by omega
 have hfl:=QdA st i (by omega)
 have hpl:=Qr7 (st:=st) hn1 hn5 hsl j
 rw[hi1]at hf
 rw[←hi]at hpl
 rw[hi2]
 rw[QcL,h3]
 have hS:chaS (kStr (st i)) 288=chaS (kStr (st i)) 240++(chaS (kStr (st i)) 288).drop 240:=by rw[Qlo _ 240 (by omega),QGX]
 have hd:(betA n sl st j).drop 192=(chaS (kStr (st i)) 288).drop 240:=by
  have h4:(betA n sl st j).drop 192=(QfV st (i+1)).drop (48*i):=by rw[←hf,QHY,show 240-48*(i+1)+48*i=192 by omega]
  rw[h4,QfV,Qn0,QHc hfl,QHY,show 288-48*(i+1)+48*i=240 by omega,Qhu _ _ (by rw[QGQ,QaE])]
 rw[hS,Qor (by rw[hb1,QaE]),hpl,Qhu _ _ (by rw[QGQ,QaE]),QGI,QGI,←hd,QGX]
end
theorem Qhn (d:Int) (h0:0≤d) (h1:d<4294967296):((QIe d).toNat:Int)=d:=by
 rw[Qob]
 omega
theorem Qes (d:Int) (h0:0≤d) (h1:d<256):((QG4 d).toNat:Int)=d:=by
 rw[Qqk]
 omega
def Qbo (p:Prt):List UInt8:=QGn 16 0++([p.kd,QG4 p.ix,QG4 p.ct,0]++(bigB 8 p.id.toNat++(bigB 2 p.da.length++(p.da++QGn (450-p.da.length) 0))))
theorem QdK (p:Prt) (h:p.da.length≤450):(Qbo p).length=480:=by
 simp[Qbo,Qat]
 omega
theorem QqH:∀(l:List UInt8) (k:Nat),l.length=k→bigB k (beN l 0)=l:=by
 intro l k h
 induction k generalizing l with
 | zero=>rw[QG7 h];rfl
 | succ k ih=>
   have hne:l≠[]:=by rintro rfl;cases h
   obtain⟨q,b,rfl⟩:∃q b,l=q++[b]:=⟨l.dropLast,l.getLast hne,(List.dropLast_concat_getLast hne).symm⟩
   have hq:q.length=k:=by simpa using h
   have hb:=b.toNat_lt
   have e:beN (q++[b]) 0=beN q 0*256+b.toNat:=by rw[Qgg];rfl
   rw[bigB,e,show (beN q 0*256+b.toNat)/256=beN q 0 by omega,ih q hq]
   congr 2
   apply QHl.1
   rw[QHy]
   show (beN q 0*256+b.toNat)%256=_
   omega
theorem Qtw (b:List UInt8) (hb:b.length=480) (n:Nat) (_hn:n≤450):
 b=b.take 16++([b.getD 16 0,b.getD 17 0,b.getD 18 0,b.getD 19 0]++(subB b 20 8++(subB b 28 2++(subB b 30 n++b.drop (30+n))))):=by
 have h1:subB b 30 n++b.drop (30+n)=b.drop 30:=by rw[subB,←QHY,QGX]
 have h2:subB b 28 2++b.drop 30=b.drop 28:=by rw[subB,show b.drop 30=(b.drop 28).drop 2 by rw[QHY],QGX]
 have h3:subB b 20 8++b.drop 28=b.drop 20:=by rw[subB,show b.drop 28=(b.drop 20).drop 8 by rw[QHY],QGX]
 have g:∀i (h:i<b.length),b.getD i 0=b[i]:=fun i h=>by rw[QGq,QGt h];rfl
 have h4:[b.getD 16 0,b.getD 17 0,b.getD 18 0,b.getD 19 0]++b.drop 20=b.drop 16:=by
  rw[g 16 (by omega),g 17 (by omega),g 18 (by omega),g 19 (by omega),QHw (i:=16) (by omega),QHw (i:=17) (by omega),QHw (i:=18) (by omega),QHw (i:=19) (by omega)]
  rfl
 rw[h1,h2,h3,h4,QGX]
theorem Qxu (b:List UInt8) (hb:b.length=480):QcO b<65536:=by
 have:=QtV (subB b 28 2) 0 1 (by omega)
 rw[Qaq (by omega)]at this
 unfold QcO
 omega
theorem Qkm (b:UInt8):QG4 (b.toNat:Int)=b:=by
 apply QHl.1
 have:=b.toNat_lt
 have:=Qes (b.toNat:Int) (by omega) (by omega)
 omega
theorem Qm3 (b:List UInt8) (hb:b.length=480) (hs:QcO b≤450):(QhH b).da.length=QcO b:=Qaq (by omega)
theorem Qoo (b:List UInt8) (hb:b.length=480) (h16:b.take 16=QGn 16 0) (hs:QcO b≤450):
 Qbo (QhH b)=b↔b.getD 19 0=0∧b.drop (30+QcO b)=QGn (450-QcO b) 0:=by
 have hc:=Qtw b hb (QcO b) hs
 have hl:=Qm3 b hb hs
 have e1:bigB 8 (QhH b).id.toNat=subB b 20 8:=by
  show bigB 8 (QGS (beN (subB b 20 8) 0)).toNat=_
  have h8:(subB b 20 8).length=8:=Qaq (by omega)
  have:=QtV (subB b 20 8) 0 1 (by omega)
  rw[h8]at this
  rw[QGZ,QGO (by omega)]
  exact QqH _ _ h8
 have e2:bigB 2 (QhH b).da.length=subB b 28 2:=by
  rw[hl]
  exact QqH _ _ (Qaq (by omega))
 have e3:Qbo (QhH b)=b.take 16++([b.getD 16 0,b.getD 17 0,b.getD 18 0,0]++(subB b 20 8++(subB b 28 2++(subB b 30 (QcO b)++QGn (450-QcO b) 0)))):=by
  rw[Qbo,e1,e2,hl,h16]
  show _++([b.getD 16 0,QG4 ((b.getD 17 0).toNat:Int),QG4 ((b.getD 18 0).toNat:Int),0]++_)=_
  rw[Qkm,Qkm]
  rfl
 constructor
 ·intro h
  have h':Qbo (QhH b)=b.take 16++([b.getD 16 0,b.getD 17 0,b.getD 18 0,b.getD 19 0]++(subB b 20 8++(subB b 28 2++(subB b 30 (QcO b)++b.drop (30+QcO b))))):=h.trans hc
  rw[e3]at h'
  have h2:=List.append_cancel_left h'
  have h3:=List.append_inj h2 rfl
  have h4:=List.append_cancel_left h3.2
  have h5:=List.append_cancel_left (List.append_cancel_left h4)
  refine⟨?_,h5.symm⟩
  have:=h3.1
  simp only[List.cons.injEq,and_true,true_and]at this
  exact this.symm
 ·rintro⟨h1,h2⟩
  rw[e3]
  conv=>rhs;rw[hc]
  rw[h1,h2]
theorem QAP {a b:Prt} (h1:a.kd=b.kd) (h2:a.id=b.id) (h3:a.ix=b.ix) (h4:a.ct=b.ct) (h5:a.da=b.da):a=b:=by
 cases a
 cases b
 simp only at h1 h2 h3 h4 h5
 subst h1 h2 h3 h4 h5
 rfl
theorem QfY {p:Prt} (h:prtE p=0): ¬(p.kd<1∨3<p.kd)∧p.da.length≤450∧1≤p.ct∧p.ct≤16∧0≤p.ix∧p.ix<p.ct:=by
 unfold prtE at h
 split at h
 ·cases h
 ·rename_i h1
  split at h
  ·cases h
  ·rename_i h2
   split at h
   ·cases h
   ·rename_i h3
    exact⟨h1,by omega,by omega,by omega,by omega,by omega⟩
theorem Qow (p:Prt) (h:prtE p=0):parE (Qbo p)=0∧parP (Qbo p)=p:=by
 obtain⟨h1,h2,h3,h4,h5,h6⟩:=QfY h
 have hl:=QdK p h2
 have g:∀i x,(Qbo p)[i]?=some x→(Qbo p).getD i 0=x:=fun i x h=>by rw[QGq,h];rfl
 have t16:(Qbo p).take 16=QGn 16 0:=QHK (by simp)
 have d16:(Qbo p).drop 16=[p.kd,QG4 p.ix,QG4 p.ct,0]++(bigB 8 p.id.toNat++(bigB 2 p.da.length++(p.da++QGn (450-p.da.length) 0))):=QHc (by simp)
 have a16:(Qbo p).getD 16 0=p.kd∧(Qbo p).getD 17 0=QG4 p.ix∧(Qbo p).getD 18 0=QG4 p.ct∧(Qbo p).getD 19 0=0:=by
  have e:∀i,(Qbo p)[16+i]?=((Qbo p).drop 16)[i]?:=fun i=>by rw[QHA]
  exact⟨g 16 _ (by rw[show 16=16+0 from rfl,e,d16];rfl),g 17 _ (by rw[show 17=16+1 from rfl,e,d16];rfl),g 18 _ (by rw[show 18=16+2 from rfl,e,d16];rfl),g 19 _ (by rw[show 19=16+3 from rfl,e,d16];rfl)⟩
 have s20:subB (Qbo p) 20 8=bigB 8 p.id.toNat:=by
  rw[Qbo,←QGI,Qch _ _ _ 20 8 (by simp) (Qat _ _)]
 have s28:subB (Qbo p) 28 2=bigB 2 p.da.length:=by
  rw[Qbo,←QGI,←QGI,Qch _ _ _ 28 2 (by simp[Qat]) (Qat _ _)]
 have hs:QcO (Qbo p)=p.da.length:=by
  rw[QcO,s28,Qha]
  omega
 have s30:subB (Qbo p) 30 p.da.length=p.da:=by
  rw[Qbo,←QGI,←QGI,←QGI,Qch _ _ _ 30 _ (by simp[Qat]) rfl]
 have hof:QhH (Qbo p)=p:=by
  refine QAP a16.1 ?_ ?_ ?_ ?_
  ·show QGS (beN (subB (Qbo p) 20 8) 0)=p.id
   rw[s20,Qha,QGO (by have:=p.id.toNat_lt;omega),UInt64.ofNat_toNat]
  ·show (((Qbo p).getD 17 0).toNat:Int)=p.ix
   rw[a16.2.1,Qes _ (by omega) (by omega)]
  ·show (((Qbo p).getD 18 0).toNat:Int)=p.ct
   rw[a16.2.2.1,Qes _ (by omega) (by omega)]
  ·show subB (Qbo p) 30 (QcO (Qbo p))=p.da
   rw[hs,s30]
 have hag:=(Qoo (Qbo p) hl t16 (by omega)).1 (by rw[hof])
 have hE:parE (Qbo p)=0:=by
  rw[parE,if_neg (by omega),if_neg (fun f=>f t16),a16.1,if_neg h1,if_neg (by rw[hag.1,hs];simp;omega),hof,h,if_neg (by rw[hag.2];simp)]
 exact⟨hE,by rw[parP,if_pos hE,hof]⟩
end Go.Proofs.YtdhgpkdjdmlphaaGreat
namespace Go.Proofs.YtdhgpkdjdmlphaaGreat
open Go.RowKit
def mulF (f:Nat→List UInt8→Nat):Nat→List (List UInt8)→Nat
 | q,[]=>q
 | q,s :: sc=>mulF f (f q s) sc
theorem QmK (f:Nat→List UInt8→Nat) (s:List UInt8):∀(sc:List (List UInt8)) (q:Nat),mulF f q (sc++[s])=f (mulF f q sc) s
 | [],_=>rfl
 | t :: sc,q=>QmK f s sc (f q t)
theorem QnX (f:Nat→List UInt8→Nat) (hf:∀q a b,f (f q a) b=f (f q b) a) (p:List UInt8):∀(sc:List (List UInt8)) (q:Nat),mulF f (f q p) sc=f (mulF f q sc) p
 | [],_=>rfl
 | s :: sc,q=>by
   rw[mulF,mulF,hf,QnX f hf p sc]
theorem Ql4 (f:Nat→List UInt8→Nat) (P:Nat→Prop) (hP:∀q s,P q→s.length=32→P (f q s)):∀(sc:List (List UInt8)) (q:Nat),P q→(∀ s∈sc,s.length=32)→P (mulF f q sc)
 | [],_,h,_=>h
 | s :: sc,q,h,hs=>Ql4 f P hP sc _ (hP q s h (hs s (by simp))) (fun t ht=>hs t (by simp[ht]))
theorem QmH (f:Nat→List UInt8→Nat) (P:Nat→Prop) (hP:∀q s,P q→s.length=32→P (f q s)) (hB:∀q s,P q→s.length=32→QbB s (nb q)=nb (f q s)) (hE:∀q s,P q→s.length=32→Qbt s (nb q)=0):
 ∀(sc:List (List UInt8)) (q:Nat),P q→(∀ s∈sc,s.length=32)→QeG sc (nb q)=(nb (mulF f q sc),0)
 | [],_,_,_=>rfl
 | s :: sc,q,hq,hs=>by
   have h32:=hs s (by simp)
   rw[QeG,hE q s hq h32,hB q s hq h32,if_pos rfl,QmH f P hP hB hE sc _ (hP q s hq h32) (fun t ht=>hs t (by simp[ht])),mulF]
def mS (q:Nat) (s:List UInt8):Nat:=Ed.multN q (QaZ s)
theorem QBz (q:Nat) (a b:List UInt8):mS (mS q a) b=mS (mS q b) a:=Ed.multN_comm q (QaZ a) (QaZ b)
theorem QlF (q:Nat) (s:List UInt8) (h:Ed.From9 q) (hs:s.length=32):Ed.From9 (mS q s):=Ed.from9_step h s hs
theorem mS_B (q:Nat) (s:List UInt8) (h:Ed.From9 q) (hs:s.length=32):QbB s (nb q)=nb (mS q s):=(Qf8 s q hs h.1).1
theorem mS_E (q:Nat) (s:List UInt8) (h:Ed.From9 q) (hs:s.length=32):Qbt s (nb q)=0:=by
 rw[(Qf8 s q hs h.1).2,if_neg (Ed.from9_ne (Ed.from9_step h s hs))]
theorem Qps (q:Nat) (sc:List (List UInt8)) (hq:Ed.From9 q) (hs:∀s∈sc,s.length=32):QcQ (nb q) sc=(nb (mulF mS q sc),0):=by
 have h:=QmH mS Ed.From9 QlF mS_B mS_E sc q hq hs
 have h2:=Qq2 q hq.1
 rw[QcQ,if_pos ⟨Qcj _,hs⟩,h2,h]
theorem Qp1 (x:List UInt8) (hx:x.length=32) (ps:List (List UInt8)):∀k,(stA x ps k).1=nb (mulF mS 9 (stA x ps k).2)
 | 0=>by
   have e1:(stA x ps 0).1=QbB x (nb 9):=rfl
   have e2:(stA x ps 0).2=[x]:=rfl
   have e3:mulF mS 9 [x]=mS 9 x:=by rw[mulF,mulF]
   rw[e1,e2,e3]
   exact mS_B 9 x Ed.from9_nine hx
 | k+1=>by
   have h9:=Ql4 mS Ed.From9 QlF (stA x ps k).2 9 Ed.from9_nine (Qgc x hx ps k)
   have ih:=Qp1 x hx ps k
   have e1:(stA x ps (k+1)).1=QbB (derB (secA x ps k) Qcw) (stA x ps k).1:=rfl
   have e2:(stA x ps (k+1)).2=(stA x ps k).2++[derB (secA x ps k) Qcw]:=rfl
   have hl:=QaK (secA x ps k) Qcw
   rw[e1,e2]
   clear e1 e2
   generalize derB (secA x ps k) Qcw=bl at *
   generalize (stA x ps k).1=al at *
   generalize (stA x ps k).2=sc at *
   rw[ih,QmK,mS_B _ bl h9 hl]
def Qcf (ks:List (List UInt8)):List (List UInt8):=ks.map fun p=>QbB p (nb 9)
theorem Qpn (ks:List (List UInt8)) (k:Nat) (h:k<ks.length):(Qcf ks).getD k []=QbB (ks.getD k []) (nb 9):=by
 rw[Qcf,QGq,QGF,QGq,QGt h]
 rfl
theorem QlT (x:List UInt8) (hx:x.length=32) (ks:List (List UInt8)) (hk:∀p∈ks,p.length=32) (k:Nat) (h:k<ks.length):
 errA x (Qcf ks) k=0∧secA x (Qcf ks) k=QbB (ks.getD k []) (stA x (Qcf ks) k).1∧Qbt (ks.getD k []) (stA x (Qcf ks) k).1=0:=by
 have hp:(ks.getD k []).length=32:=hk _ (Qd8 ks k h)
 have hs:=Qgc x hx (Qcf ks) k
 have ha:=Qp1 x hx (Qcf ks) k
 have hpub:=Qpn ks k h
 have e1:errA x (Qcf ks) k=(QcQ ((Qcf ks).getD k []) (stA x (Qcf ks) k).2).2:=rfl
 have e2:secA x (Qcf ks) k=(QcQ ((Qcf ks).getD k []) (stA x (Qcf ks) k).2).1:=rfl
 rw[e1,e2,hpub]
 clear e1 e2 hpub
 generalize (stA x (Qcf ks) k).1=al at *
 generalize (stA x (Qcf ks) k).2=sc at *
 generalize ks.getD k []=p at *
 have h9a:=Ql4 mS Ed.From9 QlF sc 9 Ed.from9_nine hs
 have hc:=Qps (mS 9 p) sc (QlF 9 p Ed.from9_nine hp) hs
 have hm:=QnX mS QBz p sc 9
 rw[mS_B 9 p Ed.from9_nine hp,hc,ha,mS_B _ p h9a hp,mS_E _ p h9a hp,hm]
 exact⟨rfl,rfl,rfl⟩
theorem Qwj (x:List UInt8) (hx:x.length=32) (ks:List (List UInt8)) (hk:∀p∈ks,p.length=32) (k:Nat) (h:k<ks.length):
 Qdx (ks.getD k []) (stA x (Qcf ks) k).1=Qcz x (Qcf ks) k:=by
 obtain⟨_,h2,h3⟩:=QlT x hx ks hk k h
 rw[Qdx,if_pos h3,Qcz,h2]
theorem Qst (x:List UInt8) (hx:x.length=32) (ks:List (List UInt8)) (hk:∀p∈ks,p.length=32) (h1:1≤ks.length) (h5:ks.length≤5):Qdg x (Qcf ks)=0:=by
 have hl:(Qcf ks).length=ks.length:=by simp[Qcf]
 have go:∀r k,k+r=ks.length→goE x (Qcf ks) r k=0:=by
  intro r
  induction r with
  | zero=>intro k _;rfl
  | succ r ih=>
    intro k hk2
    rw[goE,if_pos (QlT x hx ks hk k (by omega)).1]
    exact ih (k+1) (by omega)
 rw[Qkt ⟨hx,by omega,by omega,fun p hp=>by
  obtain⟨q,_,rfl⟩:=QG2.1 hp
  exact QaY _ _⟩,hl]
 exact go ks.length 0 (by omega)
end Go.Proofs.YtdhgpkdjdmlphaaGreat
namespace Go.Proofs.YtdhgpkdjdmlphaaGreat
open Go.RowKit
open Go.BigFrame
def badH (h:Hp):Bool:=decide (h.delay<0)||decide (1000000<h.delay)||decide (h.flags<0)||decide (255<h.flags)
def QyG (c:Cmd):Bool:=decide (c.kd<2)||decide (4<c.kd)
def QeI (c:Cmd) (hs:List Hp):Nat:=
 if QyG c=true then 1 else if hs.any badH=true then 1 else if hs.length<1∨5<hs.length then 2 else if QdT c=false then 3 else if (hs.drop 1).any (fun h=>h.nod.id==0)=true then 3 else 0
def QbS (c:Cmd) (hs:List Hp) (i:Nat):Cmd:=
 if i+1<hs.length then ⟨1,QG4 (hs.getD i hp0).flags,QIe (hs.getD i hp0).delay,(hs.getD (i+1) hp0).nod.id,QaH⟩
 else ⟨c.kd,QG4 (hs.getD i hp0).flags,QIe (hs.getD i hp0).delay,0,c.ma⟩
theorem Qtq {h:Hp} (e:badH h=false):0≤h.delay∧h.delay≤1000000∧0≤h.flags∧h.flags≤255:=by
 simp only[badH,Bool.or_eq_false_iff,decide_eq_false_iff_not]at e
 omega
theorem QDQ {hs:List Hp} {p:Hp→Bool} (h:hs.any p=false) {i:Nat} (hi:i<hs.length):p (hs.getD i hp0)=false:=by
 rw[QIK]at h
 rw[QGq,QGt hi]
 simpa using h _ (QHi hi)
theorem Qd3 {c:Cmd} {hs:List Hp} (h:QeI c hs=0):QyG c=false∧hs.any badH=false∧1≤hs.length∧hs.length≤5∧QdT c=true∧(hs.drop 1).any (fun h=>h.nod.id==0)=false:=by
 unfold QeI at h
 split at h
 ·cases h
 ·split at h
  ·cases h
  ·split at h
   ·cases h
   ·split at h
    ·cases h
    ·split at h
     ·cases h
     ·rename_i h1 h2 h3 h4 h5
      exact⟨by simpa using h1,by simpa using h2,by omega,by omega,by simpa using h4,by simpa using h5⟩
theorem Qml {c:Cmd} {hs:List Hp} (h:QeI c hs=0) {i:Nat} (hi:i<hs.length):cmdE (QbS c hs i)=0∧((QbS c hs i).kd=1↔i+1<hs.length):=by
 obtain⟨h1,h2,_,_,h5,h6⟩:=Qd3 h
 have hb:=Qtq (QDQ h2 hi)
 have hd: ¬(1000000:UInt32)<QIe (hs.getD i hp0).delay:=by
  rw[UInt32.lt_iff_toNat_lt]
  have:=Qhn (hs.getD i hp0).delay hb.1 (by omega)
  show ¬(1000000<(QIe (hs.getD i hp0).delay).toNat)
  omega
 have hkd:c.kd≠1∧ ¬(c.kd<1∨4<c.kd):=by
  simp only[QyG,Bool.or_eq_false_iff,decide_eq_false_iff_not,QIp]at h1
  rw[QIp,QIp,Ne,←QHl]
  have e1:(1:UInt8).toNat=1:=rfl
  have e2:(2:UInt8).toNat=2:=rfl
  have e4:(4:UInt8).toNat=4:=rfl
  omega
 unfold QbS
 by_cases hlt:i+1<hs.length
 ·rw[if_pos hlt]
  refine⟨?_,fun _=>hlt,fun _=>rfl⟩
  have hid:(hs.getD (i+1) hp0).nod.id≠0:=by
   rw[QIK]at h6
   have:=h6 (hs.getD (i+1) hp0) (by
    rw[QGq,QGt hlt]
    rw[List.mem_iff_getElem?]
    exact⟨i,by rw[QHA,QID 1 i,QGt hlt];rfl⟩)
   simpa using this
  unfold cmdE
  rw[if_neg (by
   show ¬((1:UInt8)<1∨4<(1:UInt8))
   decide),if_neg (by
   have h0:((hs.getD (i+1) hp0).nod.id != 0)=true:=by simpa using hid
   simp only[QdT,h0,QaH]
   decide),if_neg hd]
 ·rw[if_neg hlt]
  refine⟨?_,fun e=>absurd e hkd.1,fun e=>absurd e hlt⟩
  have hs2:QdT ⟨c.kd,QG4 (hs.getD i hp0).flags,QIe (hs.getD i hp0).delay,0,c.ma⟩=true:=by
   have hk:=hkd.1
   simp only[QdT]at h5 ⊢
   have e1:(c.kd==1)=false:=by simpa using hk
   rw[e1]at h5 ⊢
   cases hx:(c.nx != 0)
   ·rw[hx]at h5
    simpa using h5
   ·rw[hx]at h5
    simp at h5
  unfold cmdE
  rw[if_neg hkd.2,if_neg (by rw[hs2];decide),if_neg hd]
def seaA (n:Nat) (st:Nat→List UInt8) (body:List UInt8):Nat→List UInt8
 | 0=>body
 | j+1=>Qdk (kPay (st (n-1-j))) (seaA n st body j) rsS
def pktA (n:Nat) (sl st:Nat→List UInt8) (body:List UInt8) (i:Nat):List UInt8:=hdrA n sl st (n-1-i)++seaA n st body (n-i)
theorem QmF {st:Nat→List UInt8} (hst:∀k,(st k).length=192) (k:Nat) {bs:List UInt8} (hb:bs.length=480):Qfz (kPay (st k)) bs rsS=0:=
 QfW okS ⟨Qaq (by have:=hst k;omega),by omega,by omega⟩
theorem Qds {n:Nat} {st:Nat→List UInt8} {body:List UInt8} (hst:∀k,(st k).length=192) (hb:body.length=480):∀j,(seaA n st body j).length=480
 | 0=>hb
 | j+1=>by
   have ih:=Qds (n:=n) hst hb j
   rw[seaA,(QmJ (QmF hst _ ih)).1,ih]
theorem QtS {n:Nat} {st:Nat→List UInt8} {body:List UInt8} (hst:∀k,(st k).length=192) (hb:body.length=480) (j:Nat):Qdk (kPay (st (n-1-j))) (seaA n st body (j+1)) rsO=seaA n st body j:=by
 have ih:=Qds (n:=n) hst hb j
 have:=(QmJ (QmF hst (n-1-j) ih)).2.2
 rw[show rsS.reverse=rsO by decide]at this
 rw[seaA]
 exact this
theorem Qdu {s:List UInt8} (h:s.length=192):(kAlp s).length=32:=Qaq (by omega)
section
variable {n:Nat} {sl st:Nat→List UInt8} (hn1:1≤n) (hn5:n≤5) (hsl:∀k,(sl k).length=32) (hst:∀k,(st k).length=192) {body:List UInt8} (hb:body.length=480)
include hn1 hn5 hsl hst hb
theorem Qq1 (i:Nat):(pktA n sl st body i).take 288=hdrA n sl st (n-1-i)∧(pktA n sl st body i).drop 288=seaA n st body (n-i)∧(pktA n sl st body i).length=768:=by
 have h1:=Qo3 (st:=st) hn1 hn5 hsl (n-1-i) (Qdu (hst _))
 have h2:=Qds (n:=n) hst hb (n-i)
 exact⟨QHK h1,QHc h1,by rw[pktA,QGy,h1,h2]⟩
theorem Qr5 (i:Nat) (hi:i<n):(pktA n sl st body i).take 32=kAlp (st i):=by
 have _:=And.intro (hsl 0) hb
 rw[pktA,hdrA,QGI,QHK (Qdu (hst _)),show n-1-(n-1-i)=i by omega]
theorem QrO (cs:Nat→Cmd) (hcs:∀k,sl k=encB (cs k)) (k:List UInt8) (i:Nat) (hi:i<n) (hpe:Qbt k (kAlp (st i))=0) (hpb:Qdx k (kAlp (st i))=st i) (hc:cmdE (cs i)=0) (hk:(cs i).kd=1↔i+1<n)
 (hnx:i+1<n→Qoz (st i)=0∧Qkb (st i)=kAlp (st (i+1))):
 unwE k (pktA n sl st body i)=0∧unwC k (pktA n sl st body i)=cs i∧unwP k (pktA n sl st body i)=(if i+1<n then pktA n sl st body (i+1) else QGn 768 0)∧unwB k (pktA n sl st body i)=(if i+1<n then [] else body):=by
 obtain⟨c1,c2,_⟩:=Qq1 (sl:=sl) hn1 hn5 hsl hst hb i
 have ha:=Qr5 (sl:=sl) hn1 hn5 hsl hst hb i hi
 have hj:n-1-(n-1-i)=i:=by omega
 have hfit:=QBk (st:=st) hn1 hn5 hsl (n-1-i) (Qdu (hst _))
 rw[hj]at hfit
 have hpl:(QcL (hdrA n sl st (n-1-i)) (st i)).take 32=encB (cs i)∧(i+1<n→(QcL (hdrA n sl st (n-1-i)) (st i)).drop 32=tagA n sl st (n-1-(i+1))++betA n sl st (n-1-(i+1))):=by
  by_cases hlt:i+1<n
  ·have h:=QxM (st:=st) hn1 hn5 hsl (n-1-(i+1)) (by omega) (Qdu (hst _))
   rw[show n-1-(i+1)+1=n-1-i by omega,hj]at h
   rw[h]
   exact⟨by rw[QHK (hsl _),hcs],fun _=>QHc (hsl _)⟩
  ·have h:=Qxz (st:=st) hn1 hn5 hsl (Qdu (hst _))
   have hin:i=n-1:=by omega
   refine⟨?_,fun h=>absurd h hlt⟩
   rw[show n-1-i=0 by omega,hin,h,hcs]
 have hd:decE (encB (cs i))=0:=by rw[Qql,hc]
 have hdc:=QxI (cs i) hc
 have hE:Qim (hdrA n sl st (n-1-i)) (st i)=0:=by
  rw[Qim,hfit,if_neg (by decide),hpl.1,hd,if_neg (by decide),hdc]
  split
  ·rename_i h1
   exact (hnx (hk.1 h1)).1
  ·rfl
 have hC:QlV (hdrA n sl st (n-1-i)) (st i)=cs i:=by rw[QlV,if_pos hE,hpl.1,hdc]
 have hrE:relE (st i) (pktA n sl st body i)=0:=by rw[relE,c1,hE]
 have hrC:relC (st i) (pktA n sl st body i)=cs i:=by rw[relC,c1,hC]
 have hrB:QdS (st i) (pktA n sl st body i)=seaA n st body (n-1-i):=by
  have:=QtS (n:=n) hst hb (n-1-i)
  rw[hj,show n-1-i+1=n-i by omega]at this
  rw[QdS,c2,this]
 refine⟨by rw[unwE,ha,if_pos hpe,hpb,hrE],by rw[unwC,ha,if_pos hpe,hpb,hrC],?_,?_⟩
 ·rw[unwP,ha,if_pos hpe,hpb,relP,hrE,hrC]
  by_cases hlt:i+1<n
  ·rw[if_pos ⟨rfl,hk.2 hlt⟩,if_pos hlt,hrB,c1,Qkg,if_pos ⟨hE,by rw[hpl.1,hdc];exact hk.2 hlt⟩,hpl.2 hlt,(hnx hlt).2,pktA,hdrA,show n-1-(n-1-(i+1))=i+1 by omega,show n-(i+1)=n-1-i by omega]
  ·rw[if_neg (fun h=>hlt (hk.1 h.2)),if_neg hlt]
 ·rw[unwB,ha,if_pos hpe,hpb,relB,hrE,hrC]
  by_cases hlt:i+1<n
  ·rw[if_neg (fun h=>h.2 (hk.2 hlt)),if_pos hlt]
  ·rw[if_pos ⟨rfl,fun h=>hlt (hk.1 h)⟩,if_neg hlt,hrB,show n-1-i=0 by omega,seaA]
end
def QbH (l:List Nat):Nat:=l.foldl (fun a e=>if e≠0∧(a=0∨e<a) then e else a) 0
theorem QfO:∀(l:List Nat) (a:Nat),l.foldl (fun a e=>if e≠0∧(a=0∨e<a) then e else a) a=0↔a=0∧∀e∈l,e=0
 | [],a=>by simp
 | e :: l,a=>by
   rw[List.foldl_cons,QfO l]
   constructor
   ·rintro⟨h1,h2⟩
    split at h1
    ·rename_i h
     exact absurd h1 h.1
    ·rename_i h
     refine⟨h1,?_⟩
     intro e' he
     rcases QGJ.1 he with rfl|he
     ·by_cases hz:e'=0
      ·exact hz
      ·exact absurd ⟨hz,.inl h1⟩ h
     ·exact h2 _ he
   ·rintro⟨rfl,h2⟩
    have he:=h2 e (by simp)
    exact⟨by rw[if_neg (fun h=>h.1 he)],fun e' h'=>h2 _ (by simp[h'])⟩
theorem QbG (l:List Nat):QbH l=0↔∀e∈l,e=0:=by
 rw[QbH,QfO]
 simp
def pubH (hs:List Hp):List (List UInt8):=hs.map fun h=>h.nod.pub.val
noncomputable def Qcm (x:List UInt8) (c:Cmd) (body:List UInt8) (hs:List Hp):Nat:=QbH [QeI c hs,Qdg x (pubH hs),if body.length=480 then 0 else 2]
def Qk8 (x:List UInt8) (c:Cmd) (body:List UInt8) (hs:List Hp):List UInt8:=pktA hs.length (fun i=>encB (QbS c hs i)) (Qcz x (pubH hs)) body 0
def Qca (p:Prt):Cmd:=⟨if p.kd=2 then 3 else 2,0,0,0,QaH⟩
def frmE (p:Prt):Nat:=if prtE p=0∧p.kd=3 then 3 else prtE p
def Qdw (p:Prt):List UInt8:=if frmE p=0 then Qbo p else QGn 480 0
noncomputable def Qgy (x:List UInt8) (p:Prt) (hs:List Hp):Nat:=QbH [frmE p,Qcm x (Qca p) (Qdw p) hs]
def Qhb (x:List UInt8) (p:Prt) (hs:List Hp):List UInt8:=Qk8 x (Qca p) (Qdw p) hs
theorem QrP (x:List UInt8) (hx:x.length=32) (ps:List (List UInt8)) (k:Nat):Qoz (Qcz x ps k)=0∧Qkb (Qcz x ps k)=kAlp (Qcz x ps (k+1)):=by
 have h1:kBli (Qcz x ps k)=derB (secA x ps k) Qcw:=QiU x ps k
 have h2:kAlp (Qcz x ps k)=(stA x ps k).1:=Qfs x ps k
 have h3:kAlp (Qcz x ps (k+1))=(stA x ps (k+1)).1:=Qfs x ps (k+1)
 rw[Qoz,Qkb,h1,h2,h3]
 exact⟨QqW x hx ps k _ (QaK _ _),rfl⟩
theorem QvW {hs:List Hp} (h:∀i,i<hs.length→QbB (hs.getD i hp0).nod.priv.val (nb 9)=(hs.getD i hp0).nod.pub.val):pubH hs=Qcf (hs.map fun h=>h.nod.priv.val):=by
 rw[pubH,Qcf,List.map_map]
 refine QIB fun h' hm=>?_
 obtain⟨i,hi,rfl⟩:=QHQ hm
 have:=h i hi
 rw[QGq,QGt hi]at this
 exact this.symm
theorem QmI (x:List UInt8) (c:Cmd) (body:List UInt8) (hs:List Hp) (he:Qcm x c body hs=0) (hfit:∀i,i<hs.length→QbB (hs.getD i hp0).nod.priv.val (nb 9)=(hs.getD i hp0).nod.pub.val) (i:Nat) (hi:i<hs.length):
 unwE (hs.getD i hp0).nod.priv.val (pktA hs.length (fun i=>encB (QbS c hs i)) (Qcz x (pubH hs)) body i)=0∧unwC (hs.getD i hp0).nod.priv.val (pktA hs.length (fun i=>encB (QbS c hs i)) (Qcz x (pubH hs)) body i)=QbS c hs i∧
 unwP (hs.getD i hp0).nod.priv.val (pktA hs.length (fun i=>encB (QbS c hs i)) (Qcz x (pubH hs)) body i)=(if i+1<hs.length then pktA hs.length (fun i=>encB (QbS c hs i)) (Qcz x (pubH hs)) body (i+1) else QGn 768 0)∧
 unwB (hs.getD i hp0).nod.priv.val (pktA hs.length (fun i=>encB (QbS c hs i)) (Qcz x (pubH hs)) body i)=(if i+1<hs.length then [] else body):=by
 rw[Qcm,QbG]at he
 have h1:QeI c hs=0:=he _ (by simp)
 have h2:Qdg x (pubH hs)=0:=he _ (by simp)
 have h3:(if body.length=480 then 0 else 2)=0:=he _ (by simp)
 have hb:body.length=480:=by
  split at h3
  ·assumption
  ·cases h3
 obtain⟨_,_,h4,h5,_,_⟩:=Qd3 h1
 have hx:x.length=32:=by
  rw[Qdg]at h2
  split at h2
  ·rename_i h;exact h.1
  ·cases h2
 obtain⟨ks,hks⟩:∃ks,ks=hs.map fun h=>h.nod.priv.val:=⟨_,rfl⟩
 have hp:pubH hs=Qcf ks:=by rw[hks];exact QvW hfit
 have hk32:∀p∈ks,p.length=32:=by
  intro p hpm
  rw[hks]at hpm
  obtain⟨h',_,rfl⟩:=QG2.1 hpm
  exact h'.nod.priv.2
 have hkl:ks.length=hs.length:=by rw[hks,QGr]
 have hkg:ks.getD i []=(hs.getD i hp0).nod.priv.val:=by
  rw[hks,QGq,QGF,QGq,QGt hi]
  rfl
 have m1:=Qwj x hx ks hk32 i (by omega)
 have m2:=(QlT x hx ks hk32 i (by omega)).2.2
 rw[hkg]at m1 m2
 rw[hp]
 have ha:kAlp (Qcz x (Qcf ks) i)=(stA x (Qcf ks) i).1:=Qfs x _ i
 exact QrO (sl:=fun i=>encB (QbS c hs i)) h4 h5 (fun _=>QcW _) (fun _=>QcE _ _ _) hb (QbS c hs) (fun _=>rfl) _ i hi (by rw[ha];exact m2) (by rw[ha];exact m1) (Qml h1 hi).1 (Qml h1 hi).2 (fun _=>QrP x hx _ i)
end Go.Proofs.YtdhgpkdjdmlphaaGreat
namespace Go.Proofs.YtdhgpkdjdmlphaaGreat
open Go.RowKit
structure Car where
 vs:List Vst
 bd:List UInt8
 tk:Int
 er:Nat
def Qgk (xs:List Nod):Nat→UInt64→Int→List UInt8→List Vst→Car
 | 0,_,_,_,vs=>⟨vs,[],0,11⟩
 | k+1,id,tk,p,vs=>
   if (QbA (byId id) xs).2≠0 then ⟨vs,[],0,(QbA (byId id) xs).2⟩
   else if unwE (QbA (byId id) xs).1.priv.val p≠0 then ⟨vs,[],0,unwE (QbA (byId id) xs).1.priv.val p⟩
   else if (unwC (QbA (byId id) xs).1.priv.val p).kd≠1 then ⟨vs++[⟨unwC (QbA (byId id) xs).1.priv.val p,id,tk⟩],unwB (QbA (byId id) xs).1.priv.val p,tk+((unwC (QbA (byId id) xs).1.priv.val p).dl.toNat:Nat),0⟩
   else Qgk xs k (unwC (QbA (byId id) xs).1.priv.val p).nx (tk+((unwC (QbA (byId id) xs).1.priv.val p).dl.toNat:Nat)) (unwP (QbA (byId id) xs).1.priv.val p) (vs++[⟨unwC (QbA (byId id) xs).1.priv.val p,id,tk⟩])
def Qi1 (tk:Int) (b:List UInt8) (xs:List Nod):Nat:=if tk<0∨1099511627776<tk then 1 else QbH [if b.length=768 then 0 else 2,QaG xs]
def QbZ (xs:List Nod) (tk:Int) (id:UInt64) (b:List UInt8):Car:=if Qi1 tk b xs≠0 then ⟨[],[],0,Qi1 tk b xs⟩ else Qgk xs 16 id tk b []
section
variable {xs:List Nod} {k:Nat} {id:UInt64} {tk:Int} {p:List UInt8} {vs:List Vst}
theorem Qsx (h:(QbA (byId id) xs).2≠0):Qgk xs (k+1) id tk p vs=⟨vs,[],0,(QbA (byId id) xs).2⟩:=by rw[Qgk,if_pos h]
theorem Qsi (h: ¬(QbA (byId id) xs).2≠0) (h1:unwE (QbA (byId id) xs).1.priv.val p≠0):Qgk xs (k+1) id tk p vs=⟨vs,[],0,unwE (QbA (byId id) xs).1.priv.val p⟩:=by rw[Qgk,if_neg h,if_pos h1]
theorem QnO (h: ¬(QbA (byId id) xs).2≠0) (h1: ¬unwE (QbA (byId id) xs).1.priv.val p≠0) (h2:(unwC (QbA (byId id) xs).1.priv.val p).kd≠1):
 Qgk xs (k+1) id tk p vs=⟨vs++[⟨unwC (QbA (byId id) xs).1.priv.val p,id,tk⟩],unwB (QbA (byId id) xs).1.priv.val p,tk+((unwC (QbA (byId id) xs).1.priv.val p).dl.toNat:Nat),0⟩:=by rw[Qgk,if_neg h,if_neg h1,if_pos h2]
theorem Qqj (h: ¬(QbA (byId id) xs).2≠0) (h1: ¬unwE (QbA (byId id) xs).1.priv.val p≠0) (h2: ¬(unwC (QbA (byId id) xs).1.priv.val p).kd≠1):
 Qgk xs (k+1) id tk p vs=Qgk xs k (unwC (QbA (byId id) xs).1.priv.val p).nx (tk+((unwC (QbA (byId id) xs).1.priv.val p).dl.toNat:Nat)) (unwP (QbA (byId id) xs).1.priv.val p) (vs++[⟨unwC (QbA (byId id) xs).1.priv.val p,id,tk⟩]):=by rw[Qgk,if_neg h,if_neg h1,if_neg h2]
end
theorem Qog (xs:List Nod):∀(k:Nat) (id:UInt64) (tk:Int) (p:List UInt8) (vs:List Vst),(Qgk xs k id tk p vs).vs.length≤vs.length+k
 | 0,_,_,_,vs=>QGx _
 | k+1,id,tk,p,vs=>by
   rw[Qgk]
   split
   ·show vs.length≤_
    omega
   split
   ·show vs.length≤_
    omega
   split
   ·show (vs++[_]).length≤_
    rw[QGy,QIE]
    omega
   ·refine QG9 (Qog xs k _ _ _ _) ?_
    rw[QGy,QIE]
    omega
theorem Qsu (xs:List Nod) (tk:Int) (id:UInt64) (b:List UInt8):(QbZ xs tk id b).vs.length≤16:=by
 unfold QbZ
 split
 ·show ([]:List Vst).length≤16
  rw[List.length_nil]
  omega
 ·have:=Qog xs 16 id tk b []
  rw[List.length_nil]at this
  omega
end Go.Proofs.YtdhgpkdjdmlphaaGreat
namespace Go.Proofs.YtdhgpkdjdmlphaaGreat
open Go.RowKit
open Go.BigFrame
def leM (a e:Nat):Nat:=if e≠0∧(a=0∨e<a) then e else a
theorem Qo7 (es:List Nat) (k:Nat) (h:k<es.length):QbH (es.take (k+1))=leM (QbH (es.take k)) (es.getD k 0):=by
 rw[QbH,QbH,QGY h,List.foldl_append,QGq,QGt h]
 rfl
def eVM (e:Nat):Value:=.int .i64 (e:Int)
set_option maxRecDepth 100000 in
theorem Qe5 (A:Option Addr) (n c:Nat) (es:List Nat) (w:World) (hr:Rd w A n (es.map eVM)) (hn:n≤1048576):
 Calls Tryz.prog 8 #[.slice A n c] w fun e w'=>e= .returned (.int .i64 (QbH es:Nat))∧Later w w':=by
 have hl:es.length=n:=by have:=hr.1;rwa [QGr]at this
 have hst:=hid (Qo7 es)
 have h0:Hid (QbH (es.take 0)=0):=hid rfl
 have hn':Hid (QbH (es.take n)=QbH es):=hid (by rw[QGD (by omega)])
 go_enter Tryz.func8,Tryz.ntmps8
 go_wp2_with fail
 go_loopw [3,8] (fun s i wr=>∃k:Nat,k≤n∧i= .int .i64 k∧s= .int .i64 (QbH (es.take k):Nat)∧Later w wr) (fun _ i _=>n-(intOf i).toNat)
 case atStart=>exact⟨0,by omega,rfl,by rw[h0.out];rfl,Later.refl w⟩
 case round=>
  obtain⟨k,hk,rfl,rfl,L⟩:=hrel
  by_cases hlt:k<n
  ·obtain⟨b,o,rfl,hb,hc⟩:=(hr.later L).2 (by omega)
   have c1:wr.cell? ⟨b,o+k,none⟩=some (eVM (es.getD k 0)):=hc k _ (by rw[QGF,QGq,QGt (by omega)];rfl)
   have hS:=hst.out k (by omega)
   rw[eVM]at c1
   clear hc
   generalize es.getD k 0=x at *
   generalize QbH (es.take k)=y at *
   replace hS:=hid hS
   by_cases e0:x=0
   ·have f1:((x:Int) != 0)=false:=by simp[e0]
    have hz:=hid (hS.out.trans (by rw[leM,if_neg (by simp[e0])]))
    clear e0
    go_wp2_with fail
    exact⟨⟨k+1,by omega,by go_num,by rw[hz.out],L⟩,by simp[intOf];omega⟩
   have f1:((x:Int) != 0)=true:=by simp[e0]
   by_cases e1:y=0
   ·have f2:((y:Int)==0)=true:=by simp[e1]
    have hz:=hid (hS.out.trans (by rw[leM,if_pos ⟨e0,.inl e1⟩]))
    clear e0 e1
    go_wp2_with fail
    exact⟨⟨k+1,by omega,by go_num,by rw[hz.out],L⟩,by simp[intOf];omega⟩
   have f2:((y:Int)==0)=false:=by simp[e1]
   by_cases e2:x<y
   ·have f3:decide ((x:Int)<(y:Int))=true:=decide_eq_true (by omega)
    have hz:=hid (hS.out.trans (by rw[leM,if_pos ⟨e0,.inr e2⟩]))
    clear e0 e1
    go_wp2_with fail
    exact⟨⟨k+1,by omega,by go_num,by rw[hz.out],L⟩,by simp[intOf];omega⟩
   ·have f3:decide ((x:Int)<(y:Int))=false:=decide_eq_false (by omega)
    have hz:=hid (hS.out.trans (by rw[leM,if_neg (fun h=>h.2.elim e1 e2)]))
    clear e0 e1
    go_wp2_with fail
    exact⟨⟨k+1,by omega,by go_num,by rw[hz.out],L⟩,by simp[intOf];omega⟩
  ·obtain rfl:k=n:=by omega
   rw[hn'.out]
   go_wp2_with fail
   go_ret
   exact⟨rfl,L⟩
set_option maxRecDepth 100000 in
theorem QrX (A:Option Addr) (n c:Nat) (w:World) (hn:n≠768):
 Calls Tryz.prog 14 #[.slice A n c] w fun e w'=>e= .returned (.tuple #[.agg ((QGn 768 (0:UInt8)).map W8).toArray,.int .i64 2])∧Later w w':=by
 have HZ:=hid zcP
 have hz0:=hid QhE
 have B0:Bag w (w.alloc (.cells Tryz.zeroCells37 37)) [(w.heap.size,37,(QGn 768 (0:UInt8)).map W8)]:=(Bag.none w).add (Qaa _ _) (by simp) (QGx _) ((Blk.new w _ Tryz.zeroCells37.toList).cast HZ.out)
 have l0:(QGn 768 (0:UInt8)).length=768:=QGA
 have l1:((QGn 768 (0:UInt8)).map W8).length=768:=by rw[QGr,l0]
 have hn2:((n:Int) != 768)=true:=bne_iff_ne.2 (by omega)
 generalize QGn 768 (0:UInt8)=Z at *
 go_enter Tryz.func14,Tryz.ntmps14
 go_wp2_with (first
  | (refine Qah ?hw 37 _ rfl (Z.map W8) (by simp only[QGC,QGH];exact hz0.out) ?_;(case hw=>rfl))
  | (refine Qbd rfl rfl _ _ rfl (B0.nth 0 rfl) rfl rfl l0 l1 ?_;intro w1 hb1 ho1)
  | fail)
 exact bodyPost_ret (Qac rfl _ _ _ _ _ _ hb1 rfl Tryz.underlying37 rfl (by rw[l1];exact Qcb)) rfl ⟨rfl,B0.lat.only ho1 (QGx _)⟩
theorem QiM (k p:List UInt8) (hp:p.length=768):(unwP k p).length=768:=by
 unfold unwP
 split
 ·exact Qjp _ _ hp (QfT _ _)
 ·exact QGA
section
variable {ops:Array Oper} {rest:List Oper} {o:Oper} {a:Act}
end
theorem QvV (b:List UInt8) (hb:b.length=480):parE b=if allZ (b.take 16)=false then 7 else if b.getD 16 0<1∨3<b.getD 16 0 then 1 else if b.getD 19 0≠0∨450<QcO b then 3 else if prtE (QhH b)≠0∨allZ (b.drop (30+QcO b))=false then 3 else 0:=by
 have h1:(b.take 16≠QGn 16 0)=(allZ (b.take 16)=false):=by
  have:=QlI (b.take 16)
  rw[show (b.take 16).length=16 by rw[QGP];omega]at this
  rw[Ne,←this,Bool.not_eq_true]
 rw[parE,if_neg (by omega)]
 simp only[h1]
 by_cases hs:450<QcO b
 ·rw[if_pos (show b.getD 19 0≠0∨450<QcO b from .inr hs),if_pos (show b.getD 19 0≠0∨450<QcO b from .inr hs)]
 ·have h2:(b.drop (30+QcO b)≠QGn (450-QcO b) 0)=(allZ (b.drop (30+QcO b))=false):=by
   have:=QlI (b.drop (30+QcO b))
   rw[show (b.drop (30+QcO b)).length=450-QcO b by rw[QGQ];omega]at this
   rw[Ne,←this,Bool.not_eq_true]
  simp only[h2]
set_option maxRecDepth 100000 in
set_option maxHeartbeats 4000000 in
theorem Qrj (A:Option Addr) (c:Nat) (b:List UInt8) (w:World) (hb:RdB w A 480 b) (hc:480≤c):
 Calls Tryz.prog 71 #[.slice A 480 c] w fun e w'=>∃A' c',e= .returned (.tuple #[.agg (PaC (parP b) (.slice A' (parP b).da.length c')).toArray,.int .i64 (parE b:Nat)])∧OwnB w' w.heap.size A' (parP b).da.length c' (parP b).da∧Later w w':=by
 have hbl:=hb.len
 obtain⟨b0,o,rfl,hb00,_⟩:=hb.2 (by omega)
 have hE:=hid (QvV b hbl)
 have hP:Hid (parP b=if parE b=0 then QhH b else prt0):=hid rfl
 have hOf:Hid (QhH b=⟨b.getD 16 0,QGS (beN (subB b 20 8) 0),((b.getD 17 0).toNat:Int),((b.getD 18 0).toNat:Int),subB b 30 (QcO b)⟩):=hid rfl
 have hsp:Hid (QcO b=beN (subB b 28 2) 0):=hid rfl
 have hs6:=Qxu b hbl
 have hZ1:=hid (fun (w:World) (h:RdB w (some ⟨b0,o,none⟩) 480 b)=>QqY (some ⟨b0,o,none⟩) 16 c (b.take 16) w (h.take (by omega)) (by omega))
 have hG1:=hid (fun (w:World) (h:RdB w (some ⟨b0,o,none⟩) 480 b)=>Qis (some ⟨b0,o,none⟩) 480 c 20 8 b w h (by omega) (by omega) (by omega) (by omega))
 have hG2:=hid (fun (w:World) (h:RdB w (some ⟨b0,o,none⟩) 480 b)=>Qis (some ⟨b0,o,none⟩) 480 c 28 2 b w h (by omega) (by omega) (by omega) (by omega))
 rw[←hsp.out]at hG2
 have hcl:=hid (fun (w:World) (h:RdB w (some ⟨b0,o,none⟩) 480 b)=>(⟨Qdy h 16 (by omega),Qdy h 17 (by omega),Qdy h 18 (by omega),Qdy h 19 (by omega)⟩:w.cell? ⟨b0,o+16,none⟩=some (W8 (b.getD 16 0))∧w.cell? ⟨b0,o+17,none⟩=some (W8 (b.getD 17 0))∧w.cell? ⟨b0,o+18,none⟩=some (W8 (b.getD 18 0))∧w.cell? ⟨b0,o+19,none⟩=some (W8 (b.getD 19 0))))
 have hsl:=hid (fun hs=>Qm3 b hbl hs)
 generalize parE b=E at *
 generalize parP b=PP at *
 generalize QhH b=P at *
 generalize hS:QcO b=S at *
 generalize QGS (beN (subB b 20 8) 0)=ID at *
 generalize b.getD 16 0=x16 at *
 generalize b.getD 17 0=x17 at *
 generalize b.getD 18 0=x18 at *
 generalize b.getD 19 0=x19 at *
 clear hsp hS
 have C1:=Qbk w 25 pz0
 have hb0:=Qwp
 generalize allZ (b.take 16)=F1 at *
 go_enter Tryz.func71,Tryz.ntmps71
 go_wp2_with fail
 (refine (hZ1.out _ (hb.later C1.lat)).mono ?_);rintro e w2 ⟨rfl,j2⟩
 have C2:=C1.later j2
 clear hZ1 j2 C1
 cases F1
 ·have HE:E=7:=hE.out.trans (if_pos rfl)
  have HP:PP=prt0:=by rw[hP.out,if_neg (by rw[HE];decide)]
  replace HE:=hid HE
  replace HP:=hid HP
  clear hP hE hcl hG1 hG2
  go_wp2_with (first
   | (refine Qah rfl 25 _ rfl (PaC prt0 (.slice none 0 0)) (by simp only[QGC,QGH];exact hb0) ?_)
   | (refine Qco rfl rfl _ _ rfl (C2.nth 0 rfl) rfl rfl rfl rfl ?_;intro e7 eb7 eo7
      have E7:=C2.write 0 rfl eo7 eb7)
   | fail)
  exact bodyPost_ret (Qac rfl _ _ _ _ _ _ (E7.nth 0 rfl) rfl Tryz.underlying25 rfl (by rw[Qa9];exact QdN)) rfl ⟨none,0,by rw[HE.out,HP.out];rfl,by rw[HP.out];exact Qbi _ _ _,E7.lat⟩
 replace hE:=hid (hE.out.trans (if_neg (by decide)))
 obtain⟨k16,k17,k18,k19⟩:=hcl.out _ (hb.later C2.lat)
 have hb0lt:b0<w2.heap.size:=QGN hb00 C2.lat.size
 by_cases h1:x16<1∨3<x16
 ·have h13:(decide (x16<1)||decide (3<x16))=true:=by simpa using h1
  by_cases h11:x16<1
  all_goals
   have h33:x16<1∨3<x16:=h1
   simp only[h11,true_or,false_or]at h33
   have HE:E=1:=hE.out.trans (if_pos h1)
   have HP:PP=prt0:=by rw[hP.out,if_neg (by rw[HE];decide)]
   replace HE:=hid HE
   replace HP:=hid HP
   clear hP hE hcl hG1 hG2
   go_wp2_with (first
    | (refine Qah rfl 25 _ rfl (PaC prt0 (.slice none 0 0)) (by simp only[QGC,QGH];exact hb0) ?_)
    | (refine Qco rfl rfl _ _ rfl (C2.nth 0 rfl) rfl rfl rfl rfl ?_;intro e7 eb7 eo7
       have E7:=C2.write 0 rfl eo7 eb7)
    | fail)
   exact bodyPost_ret (Qac rfl _ _ _ _ _ _ (E7.nth 0 rfl) rfl Tryz.underlying25 rfl (by rw[Qa9];exact QdN)) rfl ⟨none,0,by rw[HE.out,HP.out];rfl,by rw[HP.out];exact Qbi _ _ _,E7.lat⟩
 have h11: ¬x16<1:=fun h=>h1 (.inl h)
 have h13: ¬ 3<x16:=fun h=>h1 (.inr h)
 replace hE:=hid (hE.out.trans (if_neg h1))
 clear h1
 go_wp2_with fail
 (refine (hG1.out _ (hb.later C2.lat)).mono ?_);rintro e w3 ⟨rfl,j3⟩
 go_wp2_with fail
 (refine (hG2.out _ (hb.later (C2.lat.trans j3))).mono ?_);rintro e w4 ⟨rfl,j4⟩
 have C4:=(C2.later j3).later j4
 clear k16 k17 k18 k19 j3 j4 C2 hb0lt
 obtain⟨k16,k17,k18,k19⟩:=hcl.out _ (hb.later C4.lat)
 have hb0lt:b0<w4.heap.size:=QGN hb00 C4.lat.size
 obtain⟨z,hz⟩:∃z,z=QGS S:=⟨_,rfl⟩
 have hzS:z.toNat=S:=by rw[hz,QGZ,QGO (by omega)]
 rw[←hz]
 clear hz
 have hlt450:(450:UInt64)<z↔450<S:=by rw[UInt64.lt_iff_toNat_lt,hzS];rfl
 by_cases hx:x19≠0∨450<S
 ·by_cases h19:x19=0
  ·have n1:(x19 != 0)=false:=by simpa using h19
   have n2:(450:UInt64)<z:=hlt450.2 (hx.resolve_left (fun f=>f h19))
   clear h19 hlt450
   have HE:E=3:=hE.out.trans (if_pos hx)
   have HP:PP=prt0:=by rw[hP.out,if_neg (by rw[HE];decide)]
   replace HE:=hid HE
   replace HP:=hid HP
   clear hP hE hcl hG1 hG2
   go_wp2_with (first
    | (refine Qah rfl 25 _ rfl (PaC prt0 (.slice none 0 0)) (by simp only[QGC,QGH];exact hb0) ?_)
    | (refine Qco rfl rfl _ _ rfl (C4.nth 0 rfl) rfl rfl rfl rfl ?_;intro e7 eb7 eo7
       have E7:=C4.write 0 rfl eo7 eb7)
    | fail)
   exact bodyPost_ret (Qac rfl _ _ _ _ _ _ (E7.nth 0 rfl) rfl Tryz.underlying25 rfl (by rw[Qa9];exact QdN)) rfl ⟨none,0,by rw[HE.out,HP.out];rfl,by rw[HP.out];exact Qbi _ _ _,E7.lat⟩
  ·have n1:(x19 != 0)=true:=by simpa using h19
   clear h19 hlt450
   have HE:E=3:=hE.out.trans (if_pos hx)
   have HP:PP=prt0:=by rw[hP.out,if_neg (by rw[HE];decide)]
   replace HE:=hid HE
   replace HP:=hid HP
   clear hP hE hcl hG1 hG2
   go_wp2_with (first
    | (refine Qah rfl 25 _ rfl (PaC prt0 (.slice none 0 0)) (by simp only[QGC,QGH];exact hb0) ?_)
    | (refine Qco rfl rfl _ _ rfl (C4.nth 0 rfl) rfl rfl rfl rfl ?_;intro e7 eb7 eo7
       have E7:=C4.write 0 rfl eo7 eb7)
    | fail)
   exact bodyPost_ret (Qac rfl _ _ _ _ _ _ (E7.nth 0 rfl) rfl Tryz.underlying25 rfl (by rw[Qa9];exact QdN)) rfl ⟨none,0,by rw[HE.out,HP.out];rfl,by rw[HP.out];exact Qbi _ _ _,E7.lat⟩
 have n1:(x19 != 0)=false:=by
  cases e:(x19 != 0)
  ·rfl
  ·exact absurd (.inl (by simpa using e)) hx
 have hS4:S≤450:=by omega
 have n2: ¬(450:UInt64)<z:=fun h=>by have:=hlt450.1 h;omega
 replace hE:=hid (hE.out.trans (if_neg hx))
 clear hx hlt450
 have w17:IntKind.i64.wrap (x17.toNat:Int)=(x17.toNat:Int):=by have:=x17.toNat_lt;rw[IntKind.wrap_i64];omega
 have w18:IntKind.i64.wrap (x18.toNat:Int)=(x18.toNat:Int):=by have:=x18.toNat_lt;rw[IntKind.wrap_i64];omega
 have wz:IntKind.i64.wrap (z.toNat:Int)=(S:Int):=by rw[hzS,IntKind.wrap_i64];omega
 clear hzS
 have hP0:P=⟨x16,ID,(x17.toNat:Int),(x18.toNat:Int),subB b 30 S⟩:=hOf.out
 have hdl:=hsl.out hS4
 have hCk:=hid (fun (w:World) A' c'=>Qhy P A' S c' hdl w)
 have hZ2:=hid (fun (w:World) A' c' (h:RdB w A' (480-(30+S)) (b.drop (30+S)))=>QqY A' (480-(30+S)) c' (b.drop (30+S)) w h (by omega))
 have hR2:=hid (fun (w:World) (h:RdB w (some ⟨b0,o,none⟩) 480 b)=>(⟨fun hne:c≠30+S=>by
  have:=h.cut (k:=30+S) (c:=c) (by omega) hc
  rw[cutA,if_neg hne]at this
  rw[show some (⟨b0,o+(30+S),none⟩:Addr)=(some (⟨b0,o,none⟩:Addr)).map (·.add (30+S)) by rw[QH9,Qdb]]
  exact this,fun he:c=30+S=>⟨by rw[QGr,QGQ];omega,fun h=>absurd h (by omega)⟩⟩:(c≠30+S→RdB w (some ⟨b0,o+(30+S),none⟩) (480-(30+S)) (b.drop (30+S)))∧(c=30+S→RdB w (some ⟨b0,o,none⟩) (480-(30+S)) (b.drop (30+S)))))
 have hCp:=hid (fun (w:World) (h:RdB w (some ⟨b0,o,none⟩) 480 b)=>Qe2 (some ⟨b0,o+30,none⟩) S (c-30) (subB b 30 S) w (by
  by_cases h0:S=0
  ·rw[h0]
   exact⟨rfl,fun h=>absurd h (by omega)⟩
  ·exact QBU h 30 S (by omega) (by omega)) (by omega))
 have hda:Hid (P.da=subB b 30 S):=hid (by rw[hP0])
 generalize hD:subB b 30 S=D at *
 clear hOf hD
 generalize allZ (b.drop (30+S))=F2 at *
 generalize prtE P=CE at *
 have f0:(0:Int)≤(S:Int):=by omega
 have f1:(S:Int)≤450:=by omega
 have f2:((30:Int)+(S:Int)).toNat=30+S:=by omega
 go_wp2_with fail
 have C5:=C4.drew
 have m0:=hb.later C5.lat
 refine Qaf [([0,1,2,3,4,5,6,7,8,9,10,11,12],13)] [] [14] (by as_aux_lemma=>kernel_rfl) (by as_aux_lemma=>kernel_rfl) (by intro _ _ d _ _ h;cases d<;>exact h) ?_
 simp only[Qaj,pick,QGo,QGp,QGs,QGu,QGv]
 repeat (first|go_big_quiet_skip|(go_big_quiet_want;(refine Qcr _ _ rfl (PaC ⟨x16,ID,(x17.toNat:Int),(x18.toNat:Int),[]⟩ (.slice none 0 0)) (by simp only[QGC,QGR,QGH];exact Qvi _ _ _ _) ?_);simp only[Act.put,QGw,QGB,QGz];go_big_quiet_on)|(go_big_quiet_step (fail)))
 refine wpQuiet_nil ?_
 go_wp2_with fail
 try refine⟨by first|assumption|exact Qab _|exact Qaa _ _|exact Later.refl _,?_⟩
 try simp only[Qaj,pick,QGo,QGp,QGs,QGu,QGv]
 repeat (go_big_quiet_step (fail))
 refine wpQuiet_nil ?_
 go_wp2_with (first
  | (refine Qco rfl rfl _ _ rfl (Blk.new w4.drew _ pz0) rfl rfl rfl rfl ?_;intro w6 hb6 ho6
     have C6:=C5.push (Qaa _ _) (QGx _) ho6 hb6)
  | fail)
 (refine (hCp.out _ (hb.later C6.lat)).mono ?_);rintro e w7 ⟨rfl,hb7,j7⟩
 have C7:=C6.fresh j7 (QGx _) hb7
 have hset:Hid ((PaC ⟨x16,ID,(x17.toNat:Int),(x18.toNat:Int),[]⟩ (.slice none 0 0)).set 4 (.slice (some ⟨w6.heap.size,0,none⟩) S S)=PaC P (.slice (some ⟨w6.heap.size,0,none⟩) S S)):=hid (by rw[hP0];rfl)
 clear hb7 j7 hb6 ho6 C4 C5 hCp m0 hP0
 by_cases hc0:CE=0
 ·subst hc0
  go_wp2_with (first
   | (refine Qad rfl rfl _ _ _ rfl w4.drew.heap.size 4 _ _ (C7.nth 1 rfl) rfl (by rw[Qa9];omega) rfl (by kernel_rfl) ?_;intro v8 w8 hv8 hb8 ho8;simp[go_sem]at hv8;subst hv8;rw[hset.out]at hb8
      have C8:=C7.write 1 rfl ho8 hb8)
   | (refine QdP rfl _ rfl (C8.nth 1 rfl) rfl ?_)
   | fail)
  (refine (hCk.out _ _ _).mono ?_);rintro e w9 ⟨rfl,j9⟩
  have C9:=C8.later j9
  have hR9:=hid (hR2.out _ (hb.later C9.lat))
  by_cases hcs:c=30+S
  all_goals
   have hR10:=hid (by first|exact hR9.out.2 hcs|exact hR9.out.1 hcs)
   go_wp2_with fail
   (with_reducible refine (hZ2.out _ _ _ hR10.out).mono ?_);rintro e w10 ⟨rfl,j10⟩
   have C10:=C9.later j10
   cases F2
   ·replace hE:=hid (hE.out.trans (if_pos (.inr rfl)))
    have HE:E=3:=hE.out
    have HP:PP=prt0:=by rw[hP.out,if_neg (by rw[HE];decide)]
    replace HE:=hid HE
    replace HP:=hid HP
    clear hP hE
    go_wp2_with (first
     | (refine Qah rfl 25 _ rfl (PaC prt0 (.slice none 0 0)) (by simp only[QGC,QGH];exact hb0) ?_)
     | (refine Qco rfl rfl _ _ rfl (C10.nth 2 rfl) rfl rfl rfl rfl ?_;intro e7 eb7 eo7
        have E7:=C10.write 2 rfl eo7 eb7)
     | fail)
    exact bodyPost_ret (Qac rfl _ _ _ _ _ _ eb7 rfl Tryz.underlying25 rfl (by rw[Qa9];exact QdN)) rfl ⟨none,0,by rw[HE.out,HP.out];rfl,by rw[HP.out];exact Qbi _ _ _,E7.lat⟩
   ·replace hE:=hid (hE.out.trans (if_neg (by simp)))
    have HP:PP=P:=by rw[hP.out,if_pos hE.out]
    replace HP:=hid HP
    go_wp2_with (first
     | (refine QdP rfl _ rfl (C10.nth 1 rfl) rfl ?_)
     | (refine Qco rfl rfl _ _ rfl (C10.nth 2 rfl) rfl rfl rfl rfl ?_;intro e7 eb7 eo7
        have E7:=C10.write 2 rfl eo7 eb7)
     | fail)
    refine bodyPost_ret (Qac rfl _ _ _ _ _ _ eb7 rfl Tryz.underlying25 rfl (by rw[Qa9];exact QdN)) rfl ⟨some ⟨w6.heap.size,0,none⟩,S,by rw[hE.out,HP.out,hdl];rfl,?_,E7.lat⟩
    rw[HP.out,hda.out]
    have hDl:D.length=S:=by rw[←hda.out];exact hdl
    have:=Qdj (E7.nth 0 rfl) (E7.at_low 0 rfl) (by rw[QGr,hDl];omega)
    rw[QGr,hDl]at this
    rw[hDl]
    exact this
 ·have hne:((CE:Int) != 0)=true:=by simp;omega
  replace hE:=hid (hE.out.trans (if_pos (.inl hc0)))
  clear hc0
  have HE:E=3:=hE.out
  have HP:PP=prt0:=by rw[hP.out,if_neg (by rw[HE];decide)]
  replace HE:=hid HE
  replace HP:=hid HP
  clear hP hE
  go_wp2_with (first
   | (refine Qad rfl rfl _ _ _ rfl w4.drew.heap.size 4 _ _ (C7.nth 1 rfl) rfl (by rw[Qa9];omega) rfl (by kernel_rfl) ?_;intro v8 w8 hv8 hb8 ho8;simp[go_sem]at hv8;subst hv8;rw[hset.out]at hb8
      have C8:=C7.write 1 rfl ho8 hb8)
   | (refine QdP rfl _ rfl (C8.nth 1 rfl) rfl ?_)
   | fail)
  (refine (hCk.out _ _ _).mono ?_);rintro e w9 ⟨rfl,j9⟩
  have C9:=C8.later j9
  go_wp2_with (first
   | (refine Qah rfl 25 _ rfl (PaC prt0 (.slice none 0 0)) (by simp only[QGC,QGH];exact hb0) ?_)
   | (refine Qco rfl rfl _ _ rfl (C9.nth 2 rfl) rfl rfl rfl rfl ?_;intro e7 eb7 eo7
      have E7:=C9.write 2 rfl eo7 eb7)
   | fail)
  exact bodyPost_ret (Qac rfl _ _ _ _ _ _ eb7 rfl Tryz.underlying25 rfl (by rw[Qa9];exact QdN)) rfl ⟨none,0,by rw[HE.out,HP.out];rfl,by rw[HP.out];exact Qbi _ _ _,E7.lat⟩
def fr3 (p:Prt):List UInt8:=QGn 16 0++([p.kd,QG4 p.ix,QG4 p.ct,0]++QGn 460 0)
def frK (p:Prt) (k:Nat):List UInt8:=putB (fr3 p) 20 ((bigB 8 p.id.toNat).take k)
theorem Qga (n:Nat):QG4 (n:Int)=QG3 n:=by
 apply QHl.1
 rw[QHy]
 show ((n:Int)%(2:Int)^8).toNat%2^8=n%2^8
 omega
theorem Qx4 (p:Prt):(((QGn 480 (0:UInt8)).set 16 p.kd).set 17 (QG4 p.ix)).set 18 (QG4 p.ct)=fr3 p:=by
 rw[show QGn 480 (0:UInt8)=QGn 16 0++([0,0,0,0]++QGn 460 0) by rw[show ([0,0,0,0]:List UInt8)=QGn 4 0 from rfl,QHI,QHI]]
 rw[QG1 _ _ (by simp),QG1 _ _ (by simp),QG1 _ _ (by simp),QGA]
 rfl
theorem QhQ (p:Prt):(fr3 p).length=480:=by
 rw[fr3,QGy,QGy,QGA,QGA]
 show 16+(4+460)=480
 omega
theorem Qqt:∀(w n k:Nat),k<w→(bigB w n)[k]?=some (QG3 (n/256^(w-1-k)))
 | 0,_,_,h=>by omega
 | w+1,n,k,h=>by
   rw[bigB]
   by_cases hk:k<w
   ·rw[QGG (by rw[Qat];exact hk),Qqt w _ k hk,QHk,show w+1-1-k=(w-1-k)+1 by omega,QHq,QHp]
   ·obtain rfl:k=w:=by omega
    rw[QGE (by rw[Qat];omega),Qat,QHG,show k+1-1-k=0 by omega,QIR,Nat.div_one]
    rfl
theorem QpV (p:Prt):frK p 0=fr3 p:=by simp[frK,putB]
theorem Qrp (p:Prt) (k:Nat):(frK p k).length=480:=by
 rw[frK,QbE (by rw[QhQ,QGP,Qat];omega),QhQ]
theorem QBK (p:Prt) (h:p.da.length≤450):putB (((frK p 8).set 28 (QG4 ((p.da.length:Int)/256))).set 29 (QG4 ((p.da.length:Int)%256))) 30 p.da=Qbo p:=by
 have h8:(bigB 8 p.id.toNat).take 8=bigB 8 p.id.toNat:=QGD (by rw[Qat];omega)
 have e1:QG4 ((p.da.length:Int)/256)=QG3 (p.da.length/256):=by
  rw[show ((p.da.length:Int)/256)=((p.da.length/256:Nat):Int) by omega,Qga]
 have e2:QG4 ((p.da.length:Int)%256)=QG3 p.da.length:=by
  rw[show ((p.da.length:Int)%256)=((p.da.length%256:Nat):Int) by omega,Qga]
  apply QHl.1
  rw[QHy,QHy,QHX]
 have hb2:bigB 2 p.da.length=[QG3 (p.da.length/256),QG3 p.da.length]:=rfl
 rw[e1,e2,frK,h8,Qbo,hb2,fr3]
 generalize QG3 (p.da.length/256)=x
 generalize QG3 p.da.length=y
 have hI:=Qat 8 p.id.toNat
 generalize bigB 8 p.id.toNat=I at *
 have hH:(QGn 16 0++[p.kd,QG4 p.ix,QG4 p.ct,0]:List UInt8).length=20:=by simp
 rw[←QGI,←QGI]
 generalize (QGn 16 0++[p.kd,QG4 p.ix,QG4 p.ct,0]:List UInt8)=H at *
 rw[show QGn 460 (0:UInt8)=QGn 8 0++([0,0]++(QGn p.da.length 0++QGn (450-p.da.length) 0)) by
  rw[show ([0,0]:List UInt8)=QGn 2 0 from rfl,QHI,QHI,QHI]
  congr 1
  omega,QcC _ _ _ _ 20 hH (by rw[hI,QGA])]
 rw[←QGI,QG1 _ _ (by simp;omega),QG1 _ _ (by simp;omega),QGy,hH,hI]
 show putB ((H++I)++([x,y]++(QGn p.da.length 0++QGn (450-p.da.length) 0))) 30 p.da=_
 rw[←QGI,QcC _ _ _ _ 30 (by simp;omega) (by rw[QGA])]
 simp only[QGI]
def frmR (p:Prt):List UInt8:=if prtE p=0 then Qbo p else []
theorem QyH (p:Prt):(((QGn 480 (Value.int .u8 0)).set 16 (W8 p.kd)).set 17 (W8 (QG4 p.ix))).set 18 (W8 (QG4 p.ct))=(frK p 0).map W8:=by
 rw[QpV,←Qx4,←Qcx,←Qcx,←Qcx,QG8]
 rfl
structure Pel where
 c:Cmd
 P:Y768
 B:List UInt8
def Qyf:Y768:=⟨z768,QaT⟩
def pel0:Pel:=⟨cmd0,Qyf,[]⟩
def unwY (k:List UInt8) (p:Y768):Y768:=⟨unwP k p.val,QiM k p.val p.2⟩
def unwL (k:List UInt8) (p:Y768):Pel:=⟨unwC k p.val,unwY k p,unwB k p.val⟩
section
variable {ks:List (List UInt8)} {k:Nat} {q:Y768}
end
structure PelV where
 c:Cmd
 P:Y768
 A:Option Addr
 n:Nat
 cp:Nat
def QFi:PelV:=⟨cmd0,Qyf,none,0,0⟩
def QBX (w:World) (base:Nat) (x:PelV) (y:Pel):Prop:=x.c=y.c∧x.P=y.P∧x.n=y.B.length∧OwnB w base x.A x.n x.cp y.B
def PelRow (w:World) (base:Nat):List PelV→List Pel→Prop
 | [],[]=>True
 | x :: xs,y :: ys=>QBX w base x y∧PelRow w base xs ys
 | _,_=>False
theorem PelRow.len {w:World} {base:Nat}:∀ {xs:List PelV} {ys:List Pel},PelRow w base xs ys→xs.length=ys.length
 | [],[],_=>rfl
 | x :: xs,y :: ys,h=>by rw[QHe,QHe,PelRow.len h.2]
theorem PelRow.snoc {w:World} {base:Nat} {x:PelV} {y:Pel}:∀ {xs:List PelV} {ys:List Pel},PelRow w base xs ys→QBX w base x y→PelRow w base (xs++[x]) (ys++[y])
 | [],[],_,h=>⟨h,trivial⟩
 | _ :: _,_ :: _,h,h'=>⟨h.1,PelRow.snoc h.2 h'⟩
theorem PelRow.mono {w w':World} {base:Nat} (hw:∀A n c B,OwnB w base A n c B→OwnB w' base A n c B):∀ {xs:List PelV} {ys:List Pel},PelRow w base xs ys→PelRow w' base xs ys
 | [],[],_=>trivial
 | _ :: _,_ :: _,h=>⟨⟨h.1.1,h.1.2.1,h.1.2.2.1,hw _ _ _ _ h.1.2.2.2⟩,PelRow.mono hw h.2⟩
theorem PelRow.at_ {w:World} {base:Nat}:∀ {xs:List PelV} {ys:List Pel} (i:Nat),PelRow w base xs ys→i<ys.length→QBX w base (xs.getD i QFi) (ys.getD i pel0)
 | [],[],i,_,h=>absurd h (by simp)
 | _ :: _,_ :: _,0,h,_=>h.1
 | _ :: _,_ :: _,i+1,h,hi=>by
   have:=PelRow.at_ i h.2 (by simpa using hi)
   simpa using this
theorem PelRow.later {w w':World} {base:Nat} {xs:List PelV} {ys:List Pel} (h:PelRow w base xs ys) (hl:Later w w'):PelRow w' base xs ys:=h.mono fun _ _ _ _ h=>QaF h hl
theorem Qde {w w':World} {base k sz:Nat} {e:TypeId} {v:Value} {n:Nat} {vs:List Value} (h:w.ownsRow base e sz v n vs) (ho:Only k w w') (hne:∀b,v.ownBlock=some b→b≠k):w'.ownsRow base e sz v n vs:=by
 refine h.kept ho ?_
 cases hb:v.ownBlock with
 | none=>exact .inl rfl
 | some b=>exact .inr fun he=>hne b hb (by injection he)
def All2 {α β:Type} (R:α→β→Prop):List α→List β→Prop
 | [],[]=>True
 | x :: xs,y :: ys=>R x y∧All2 R xs ys
 | _,_=>False
section
variable {α β:Type} {R R':α→β→Prop}
theorem All2.len:∀ {xs:List α} {ys:List β},All2 R xs ys→xs.length=ys.length
 | [],[],_=>rfl
 | x :: xs,y :: ys,h=>by rw[QHe,QHe,All2.len h.2]
theorem All2.snoc {x:α} {y:β}:∀ {xs:List α} {ys:List β},All2 R xs ys→R x y→All2 R (xs++[x]) (ys++[y])
 | [],[],_,h=>⟨h,trivial⟩
 | _ :: _,_ :: _,h,h'=>⟨h.1,All2.snoc h.2 h'⟩
theorem All2.mono (hR:∀x y,R x y→R' x y):∀ {xs:List α} {ys:List β},All2 R xs ys→All2 R' xs ys
 | [],[],_=>trivial
 | _ :: _,_ :: _,h=>⟨hR _ _ h.1,All2.mono hR h.2⟩
theorem All2.at_ (d:α) (e:β):∀ {xs:List α} {ys:List β} (i:Nat),All2 R xs ys→i<ys.length→R (xs.getD i d) (ys.getD i e)
 | [],[],i,_,h=>absurd h (by simp)
 | _ :: _,_ :: _,0,h,_=>h.1
 | _ :: _,_ :: _,i+1,h,hi=>by
   have:=All2.at_ d e i h.2 (by simpa using hi)
   simpa using this
end
structure RefV where
 c:Cmd
 Q:Option Addr
 nq:Nat
 cq:Nat
 A:Option Addr
 n:Nat
 cp:Nat
theorem Qq0 {hs:List Hp} {p:Hp→Bool} {k:Nat} (hk:k<hs.length) (h:p (hs.getD k hp0)=true):hs.any p=true:=by
 rw[QHV]
 refine⟨_,QHi hk,?_⟩
 rw[QGq,QGt hk]at h
 exact h
theorem QuW {hs:List Hp} {p:Hp→Bool} (h:∀k,k<hs.length→p (hs.getD k hp0)=false):hs.any p=false:=by
 rw[QIK]
 intro x hx
 obtain⟨k,hk,rfl⟩:=QHQ hx
 have:=h k hk
 rw[QGq,QGt hk]at this
 simpa using this
theorem QkX (hs:List Hp) (k:Nat):(hs.drop 1).getD k hp0=hs.getD (k+1) hp0:=by
 rw[QGq,QHA,QID 1 k,QGq]
theorem Qto {hs:List Hp} {p:Hp→Bool} {k:Nat} (hk:k+1<hs.length) (h:p (hs.getD (k+1) hp0)=true):(hs.drop 1).any p=true:=
 Qq0 (k:=k) (by rw[QGQ];omega) (by rw[QkX];exact h)
theorem QxH {hs:List Hp} {p:Hp→Bool} (h:∀k,k+1<hs.length→p (hs.getD (k+1) hp0)=false):(hs.drop 1).any p=false:=
 QuW (fun k hk=>by rw[QGQ]at hk;rw[QkX];exact h k (by omega))
def lcK (kd:UInt8):Cmd:=⟨kd,0,0,0,QaH⟩
theorem QwJ (kd:UInt8) (hk:kd=2∨kd=3) (hs:List Hp):QeI (lcK kd) hs=if hs.any badH=true then 1 else if hs.length<1∨5<hs.length then 2 else if (hs.drop 1).any (fun h=>h.nod.id==0)=true then 3 else 0:=by
 have h1: ¬QyG (lcK kd)=true:=by rcases hk with rfl|rfl<;>decide
 have h2: ¬QdT (lcK kd)=false:=by rcases hk with rfl|rfl<;>decide
 rw[QeI,if_neg h1,if_neg h2]
def QfA (kd:UInt8) (hs:List Hp) (k:Nat):List Cmd:=(QG0 k).map (QbS (lcK kd) hs)
theorem QdM (kd:UInt8) (hs:List Hp) (k:Nat):(QfA kd hs k).length=k:=by simp[QfA]
def QnM (kd:UInt8) (hs:List Hp):List Cmd:=if QeI (lcK kd) hs=0 then QfA kd hs hs.length else []
theorem QDw:(Tryz.prog.info? 64).map (fun i=>(i.zero,i.size,i.bytes))=some (some (.agg (CC cmd0).toArray),20,32):=by kernel_rfl
theorem Qtg:(Tryz.prog.info? 31).map (·.size)=some 16:=by kernel_rfl
theorem QyR (c:Cmd):Qar (CC c) 4 (QaH.val.map W8)=CC { c with ma:=QaH }:=by
 have h:=c.ma.2
 rw[CC,Qar,QGr,QaH.2,QHj (by simp[h])]
 simp[CC]
theorem Qs3 (kd:UInt8) (hs:List Hp) (k:Nat) (h:k+1=hs.length):QbS (lcK kd) hs k=⟨kd,QG4 (hs.getD k hp0).flags,QIe (hs.getD k hp0).delay,0,QaH⟩:=by
 rw[QbS,if_neg (by omega)]
 rfl
theorem Qtx (kd:UInt8) (hs:List Hp) (k:Nat) (h:k+1<hs.length):QbS (lcK kd) hs k=⟨1,QG4 (hs.getD k hp0).flags,QIe (hs.getD k hp0).delay,(hs.getD (k+1) hp0).nod.id,QaH⟩:=by
 rw[QbS,if_pos h]
theorem QDm (x:Hp):(HC x)[1]?=some (W64 x.nod.id):=Qqp x rfl
end Go.Proofs.YtdhgpkdjdmlphaaGreat
namespace Go.Proofs.YtdhgpkdjdmlphaaGreat
open Go.RowKit
end Go.Proofs.YtdhgpkdjdmlphaaGreat
namespace Go.Proofs.YtdhgpkdjdmlphaaGreat
open Go.RowKit
open Go.BigFrame
def QGl (v1 v2:Value):Prop:=∀b1 b2,v1.ownBlock=some b1→v2.ownBlock=some b2→b2<b1
theorem QkS {x:List UInt8} {p:Prt} {hs:List Hp} (h:Qgy x p hs=0):prtE p=0∧p.kd≠3∧Qcm x (Qca p) (Qbo p) hs=0∧Qhb x p hs=Qk8 x (Qca p) (Qbo p) hs:=by
 rw[Qgy,QbG]at h
 have h1:frmE p=0:=h _ (by simp)
 have h2:Qcm x (Qca p) (Qdw p) hs=0:=h _ (by simp)
 have hb:Qdw p=Qbo p:=by rw[Qdw,if_pos h1]
 rw[hb]at h2
 have hp:prtE p=0∧p.kd≠3:=by
  unfold frmE at h1
  split at h1
  ·cases h1
  ·rename_i hn
   exact⟨h1,fun e=>hn ⟨h1,e⟩⟩
 exact⟨hp.1,hp.2,h2,by rw[Qhb,hb]⟩
def arrP (p:Prt) (hs:List Hp) (Y:Nat→Y768) (i:Nat):Pel:=⟨QbS (Qca p) hs i,Y (i+1),if i+1<hs.length then [] else Qbo p⟩
theorem QuH {x:List UInt8} {p:Prt} {hs:List Hp} (h:Qgy x p hs=0) (hfit:∀i,i<hs.length→QbB (hs.getD i hp0).nod.priv.val (nb 9)=(hs.getD i hp0).nod.pub.val):
 ∃Y:Nat→Y768,1≤hs.length∧Qhb x p hs=(Y 0).val∧Y hs.length=Qyf∧(∀ i,i<hs.length→unwE (hs.getD i hp0).nod.priv.val (Y i).val=0∧unwL (hs.getD i hp0).nod.priv.val (Y i)=arrP p hs Y i∧((QbS (Qca p) hs i).kd=1↔i+1<hs.length)):=by
 obtain⟨_,_,hbe,hsb⟩:=QkS h
 have hz:=hbe
 rw[Qcm,QbG]at hz
 have hpe:QeI (Qca p) hs=0:=hz _ (by simp)
 have hb3:(if (Qbo p).length=480 then 0 else 2)=0:=hz _ (by simp)
 have hb:(Qbo p).length=480:=by
  split at hb3
  ·assumption
  ·cases hb3
 obtain⟨_,_,h1,h5,_,_⟩:=Qd3 hpe
 have hlen:∀i,(pktA hs.length (fun i=>encB (QbS (Qca p) hs i)) (Qcz x (pubH hs)) (Qbo p) i).length=768:=fun i=>(Qq1 h1 h5 (fun _=>QcW _) (fun _=>QcE _ _ _) hb i).2.2
 refine⟨fun i=>if i<hs.length then ⟨pktA hs.length (fun i=>encB (QbS (Qca p) hs i)) (Qcz x (pubH hs)) (Qbo p) i,hlen i⟩ else Qyf,h1,?_,?_,fun i hi=>?_⟩
 ·simp only[if_pos (show 0<hs.length by omega)]
  rw[hsb,Qk8]
 ·simp only[if_neg (Nat.lt_irrefl _)]
 ·obtain⟨u1,u2,u3,u4⟩:=QmI x (Qca p) (Qbo p) hs hbe hfit i hi
  simp only[if_pos hi]
  refine⟨u1,?_,(Qml hpe hi).2⟩
  rw[unwL,arrP]
  simp only[u2,u4]
  congr 1
  apply Subtype.ext
  rw[unwY]
  simp only[u3]
  split
  ·rfl
  ·rfl
theorem QjE {x:List UInt8} {p:Prt} {b:List UInt8} {hs:List Hp} (h:Qcm x (Qca p) b hs=0) (k:Nat) (hk:k<hs.length):
 ((QbS (Qca p) hs k).dl.toNat:Int)=(hs.getD k hp0).delay∧((QbS (Qca p) hs k).fl.toNat:Int)=(hs.getD k hp0).flags∧(QbS (Qca p) hs k).ma=QaH∧(k+1<hs.length→(QbS (Qca p) hs k).nx=(hs.getD (k+1) hp0).nod.id)∧(k+1=hs.length→(QbS (Qca p) hs k).kd=if p.kd=2 then 3 else 2):=by
 rw[Qcm,QbG]at h
 obtain⟨_,h2,_,_,_,_⟩:=Qd3 (show QeI (Qca p) hs=0 from h _ (by simp))
 obtain⟨d1,d2,f1,f2⟩:=Qtq (QDQ h2 hk)
 have e1:=Qhn (hs.getD k hp0).delay d1 (by omega)
 have e2:=Qes (hs.getD k hp0).flags f1 (by omega)
 unfold QbS
 by_cases hl:k+1<hs.length
 ·rw[if_pos hl]
  exact⟨e1,e2,rfl,fun _=>rfl,fun h=>absurd h (by omega)⟩
 ·rw[if_neg hl]
  exact⟨e1,e2,rfl,fun h=>absurd h hl,fun _=>rfl⟩
theorem Qyw {xs:List Nod} (hc:QaG xs=0) {i j:Nat} {s:UInt64} (hi:i<xs.length) (hj:j<i) (h:byId s (xs.getD i nod0)=true):byId s (xs.getD j nod0)=false:=by
 cases e:byId s (xs.getD j nod0)
 ·rfl
 ·have hs:Qdo (xs.getD i nod0) (xs.getD j nod0)=true:=by
   rw[byId,beq_iff_eq]at h e
   rw[Qdo,h,e]
   simp
  rw[QaG]at hc
  split at hc
  ·omega
  ·split at hc
   ·omega
   ·rw[if_pos (Qd4 hi (Qd4 hj hs))]at hc
    omega
theorem QvE {xs:List Nod} (hc:QaG xs=0) {i:Nat} (hi:i<xs.length):QbA (byId (xs.getD i nod0).id) xs=(xs.getD i nod0,0):=by
 have h:byId (xs.getD i nod0).id (xs.getD i nod0)=true:=by rw[byId];exact beq_self_eq_true _
 rw[QbA,if_pos hc]
 exact QiF hi (fun _ hj=>Qyw hc hi hj h) h
theorem Qmh {xs:List Nod} {ts:List Stp} (h:QbR xs ts=0):QaG xs=0∧1≤ts.length∧ts.length≤5∧∀i,i<ts.length→∃k,k<xs.length∧((QaD xs ts).getD i hp0).nod=xs.getD k nod0:=by
 rw[QbR]at h
 split at h
 ·cases h
 split at h
 ·cases h
 rename_i hl
 split at h
 ·contradiction
 rename_i hc
 split at h
 ·cases h
 rename_i hm
 refine⟨by omega,by omega,by omega,fun i hi=>?_⟩
 have hmi:Qgn xs (ts.getD i stp0)=false:=by
  cases e:Qgn xs (ts.getD i stp0)
  ·rfl
  ·exact absurd (QgQ hi e) hm
 have hg:(QaD xs ts).getD i hp0=Qny xs (ts.getD i stp0):=by
  rw[QaD,QGq,QGF,QGt hi,QGq,QGt hi]
  rfl
 rw[hg,Qny]
 rw[Qgn]at hmi
 generalize ts.getD i stp0=t at *
 rw[Qfx]at hmi ⊢
 split at hmi
 ·rename_i x hx
  obtain⟨_,k,hk,hxk,_⟩:=List.find?_eq_some_iff_getElem.1 hx
  refine⟨k,hk,?_⟩
  rw[QGq,QGt hk,QIl,hxk]
 ·simp at hmi
theorem QpY {xs:List Nod} (h:Qfh xs=true) {k:Nat} (hk:k<xs.length):QbB (xs.getD k nod0).priv.val (nb 9)=(xs.getD k nod0).pub.val:=by
 rw[Qfh,QGM]at h
 have:=(QHa.1 h.2) _ (QiJ hk)
 rw[fitB,beq_iff_eq]at this
 exact this
def tkR (p:Prt) (hs:List Hp) (tk:Int):Nat→Int
 | 0=>tk
 | k+1=>tkR p hs tk k+((QbS (Qca p) hs k).dl.toNat:Nat)
theorem Qnq {p:Prt} {hs:List Hp} {tk:Int} (h:0≤tk):∀k,0≤tkR p hs tk k∧tkR p hs tk k≤tk+(k:Int)*4294967296
 | 0=>by
   show 0≤tk∧tk≤_
   omega
 | k+1=>by
   obtain⟨a,b⟩:=Qnq (p:=p) (hs:=hs) h k
   have:=(QbS (Qca p) hs k).dl.toNat_lt
   show 0≤tkR p hs tk k+_∧tkR p hs tk k+_≤_
   omega
def visA (p:Prt) (hs:List Hp) (tk:Int) (k:Nat):Vst:=⟨QbS (Qca p) hs k,(hs.getD k hp0).nod.id,tkR p hs tk k⟩
theorem Qmv {xs:List Nod} {p:Prt} {hs:List Hp} {Y:Nat→Y768} {x:List UInt8} (tk:Int) (hbe:Qcm x (Qca p) (Qbo p) hs=0)
 (hf:∀i,i<hs.length→QbA (byId (hs.getD i hp0).nod.id) xs=((hs.getD i hp0).nod,0))
 (hY:∀i,i<hs.length→unwE (hs.getD i hp0).nod.priv.val (Y i).val=0∧unwL (hs.getD i hp0).nod.priv.val (Y i)=arrP p hs Y i∧((QbS (Qca p) hs i).kd=1↔i+1<hs.length)):
 ∀m k f,k+(m+1)=hs.length→Qgk xs (f+(m+1)) (hs.getD k hp0).nod.id (tkR p hs tk k) (Y k).val ((QG0 k).map (visA p hs tk))=⟨(QG0 hs.length).map (visA p hs tk),Qbo p,tkR p hs tk hs.length,0⟩
 | m,k,f,h=>by
   obtain⟨h1,h2,h3⟩:=hY k (by omega)
   have hC:unwC (hs.getD k hp0).nod.priv.val (Y k).val=QbS (Qca p) hs k:=congrArg Pel.c h2
   have hP:unwP (hs.getD k hp0).nod.priv.val (Y k).val=(Y (k+1)).val:=congrArg (fun q:Pel=>q.P.val) h2
   have hB:unwB (hs.getD k hp0).nod.priv.val (Y k).val=if k+1<hs.length then [] else Qbo p:=congrArg Pel.B h2
   have hv:(QG0 k).map (visA p hs tk)++[⟨QbS (Qca p) hs k,(hs.getD k hp0).nod.id,tkR p hs tk k⟩]=(QG0 (k+1)).map (visA p hs tk):=by
    rw[QH5,QG6]
    rfl
   have ht:tkR p hs tk k+((QbS (Qca p) hs k).dl.toNat:Nat)=tkR p hs tk (k+1):=rfl
   have hfk:=hf k (by omega)
   by_cases hl:k+1<hs.length
   ·obtain⟨m,rfl⟩:∃m',m=m'+1:=⟨m-1,by omega⟩
    have hn:=(QjE hbe k (by omega)).2.2.2.1 hl
    have ih:=Qmv tk hbe hf hY m (k+1) f (by omega)
    rw[show f+(m+1+1)=(f+(m+1))+1 by omega,Qqj (by rw[hfk];exact not_not_intro rfl) (by rw[hfk];exact not_not_intro h1) (by rw[hfk,hC];exact not_not_intro (h3.2 hl))]
    simp only[hfk]
    rw[hC,hP,hn,hv,ht]
    exact ih
   ·obtain rfl:m=0:=by omega
    have hk:hs.length=k+1:=by omega
    rw[QnO (by rw[hfk];exact not_not_intro rfl) (by rw[hfk];exact not_not_intro h1) (by rw[hfk,hC];exact fun e=>hl (h3.1 e))]
    simp only[hfk]
    rw[hC,hB,if_neg hl,hv,ht,hk]
theorem Qms {p:Prt} (hp:prtE p=0):(Qbo p).length=480:=QdK p (QfY hp).2.1
theorem QpC {xs:List Nod} {ts:List Stp} {x:List UInt8} {p:Prt} {tk:Int} (hr:QbR xs ts=0) (hfit:Qfh xs=true) (hs:Qgy x p (QaD xs ts)=0) (hk:p.kd=1) (h0:0≤tk) (h1:tk≤1000000):
 (Qhb x p (QaD xs ts)).length=768∧
 QbZ xs tk ((QaD xs ts).getD 0 hp0).nod.id (Qhb x p (QaD xs ts))=⟨(QG0 ts.length).map (visA p (QaD xs ts) tk),Qbo p,tkR p (QaD xs ts) tk ts.length,0⟩∧
 (∀ k,k<ts.length→((QbS (Qca p) (QaD xs ts) k).dl.toNat:Int)=((QaD xs ts).getD k hp0).delay∧((QbS (Qca p) (QaD xs ts) k).fl.toNat:Int)=((QaD xs ts).getD k hp0).flags)∧
 arvE ((QG0 ts.length).map (visA p (QaD xs ts) tk)) (Qbo p)=0∧
 arvA ((QG0 ts.length).map (visA p (QaD xs ts) tk)) (Qbo p) (tkR p (QaD xs ts) tk ts.length)=⟨p,2,((QaD xs ts).getD (ts.length-1) hp0).nod.id,tkR p (QaD xs ts) tk ts.length,QaH⟩:=by
 obtain⟨hc,hl1,hl5,hin⟩:=Qmh hr
 have hll:(QaD xs ts).length=ts.length:=by rw[QaD,QGr]
 have hft:∀i,i<(QaD xs ts).length→QbB ((QaD xs ts).getD i hp0).nod.priv.val (nb 9)=((QaD xs ts).getD i hp0).nod.pub.val:=by
  intro i hi
  obtain⟨k,hk,e⟩:=hin i (by omega)
  rw[e]
  exact QpY hfit hk
 have hfn:∀i,i<(QaD xs ts).length→QbA (byId ((QaD xs ts).getD i hp0).nod.id) xs=(((QaD xs ts).getD i hp0).nod,0):=by
  intro i hi
  obtain⟨k,hk,e⟩:=hin i (by omega)
  rw[e]
  exact QvE hc hk
 obtain⟨hp,_,hbe,_⟩:=QkS hs
 obtain⟨Y,_,hY0,_,hY⟩:=QuH hs hft
 have hlen:(Qhb x p (QaD xs ts)).length=768:=by rw[hY0];exact (Y 0).2
 have hca:=Qmv tk hbe hfn hY (ts.length-1) 0 (16-ts.length) (by omega)
 rw[show 16-ts.length+(ts.length-1+1)=16 by omega,hll,←hY0]at hca
 refine⟨hlen,?_,fun k hk=>?_,?_⟩
 ·have e0:Qi1 tk (Qhb x p (QaD xs ts)) xs=0:=by
   rw[Qi1,if_neg (by omega),hlen,hc]
   rfl
  rw[QbZ,if_neg (not_not_intro e0)]
  exact hca
 ·obtain⟨a,b,_⟩:=QjE hbe k (by omega)
  exact⟨a,b⟩
 ·obtain⟨f1,f2⟩:=Qow p hp
  have hv:QcR ((QG0 ts.length).map (visA p (QaD xs ts) tk))=visA p (QaD xs ts) tk (ts.length-1):=by
   rw[QcR,QGr,List.length_range,QGq,QGF,QHD (by omega)]
   rfl
  have hkd:(QbS (Qca p) (QaD xs ts) (ts.length-1)).kd=2:=by
   rw[(QjE hbe (ts.length-1) (by omega)).2.2.2.2 (by omega),hk]
   rfl
  have hkl:(QcR ((QG0 ts.length).map (visA p (QaD xs ts) tk))).cm.kd=2:=by rw[hv];exact hkd
  have hz: ¬(((QG0 ts.length).map (visA p (QaD xs ts) tk)).length=0∨(Qbo p).length≠480):=by
   rw[QGr,List.length_range,Qms hp]
   omega
  obtain⟨g1,g2⟩:=QqQ (tkR p (QaD xs ts) tk ts.length) hz (.inl hkl) f1 (by rw[f2,hkl,hk];rfl)
  refine⟨g1,?_⟩
  rw[g2,f2,hkl,hv]
  rfl
end Go.Proofs.YtdhgpkdjdmlphaaGreat
