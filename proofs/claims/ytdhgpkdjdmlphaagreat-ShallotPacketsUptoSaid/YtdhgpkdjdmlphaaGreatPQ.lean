/-
  Lemmas for the last text of this claim (part 17 of 20).
-/
import Derived.ArgAppend
import Derived.BigQuiet
import Derived.BigRegion
import Derived.ChangeOld
import Derived.Deep.RegionWith
import Derived.DeepKeys4
import Derived.JoinedCond
import Derived.LaidMore
import Derived.Laws.BytesArg
import Derived.Laws.CopyOwn
import Derived.Laws.Externs
import Derived.Laws.IdiomStrings
import Derived.Laws.Tables
import Derived.Lib.AppendStr
import Derived.Lib.AppendZerosOnto
import Derived.Lib.Mul64
import Derived.Lib.SlBytesConst
import Derived.LoopN
import Derived.Maps.OwnSet
import Derived.OpenShut
import Derived.OrdersHeld
import Derived.ProofKit
import Derived.Shelf.Spec.BitsCarry
import Derived.ShutString
import Derived.Test.YtdhgpkdjdmlphaaGreatProg
import Derived.Test.YtdhgpkdjdmlphaaGreatRows
import Derived.WalkKit
import Derived.WalkLawsBesides
import Derived.WalkSpells
import Derived.Test.YtdhgpkdjdmlphaaGreatPC
import Derived.Test.YtdhgpkdjdmlphaaGreatPK
import Derived.Test.YtdhgpkdjdmlphaaGreatPL
import Derived.Test.YtdhgpkdjdmlphaaGreatPN
import Derived.Test.YtdhgpkdjdmlphaaGreatPO
import Derived.Test.YtdhgpkdjdmlphaaGreatPP
open BitVec renaming toNat_ushiftRight → Qzd
open List renaming replicate → Qym, length_map → Qyn, getElem?_cons_succ → Qyo, getElem?_cons_zero → Qyp, getElem?_eq_getElem → Qyq, getD_eq_getElem?_getD → Qys, nil_append → Qyt, cons_append → Qyu, length_append → Qyv, take_of_length_le → Qyx, length_replicate → Qyy, getElem?_append_right → Qyz, mem_cons → QyA, getElem?_eq_some_iff → QyC, append_assoc → QyE, getElem?_map → QyF, getElem?_append_left → QyH, set_cons_zero → QyI, map_toArray → QyK, length_take → QyL, take_succ_eq_append_getElem → QyQ, map_cons → QyT, map_nil → QyU, take_append_drop → QyV, set_append_right → QyW, append_nil → QyZ, length_drop → Qy0, length_set → Qy2, map_replicate → Qy4, mem_map → Qzb, range → Qzc, drop_zero → Qzn, getElem?_eq_none → Qzq, replicate_append_replicate → Qzw, getElem?_drop → QzC, drop_succ_cons → QzG, getElem_mem → QzH, flatMap_cons → QzI, drop_eq_getElem_cons → QzT, getElem?_range → Qz3, take_zero → QAs
open Nat renaming le_refl → Qyw, zero_add → QyY, shiftRight_eq_div_pow → Qza, div_div_eq_div_mul → Qze, mul_comm → Qzj, sub_self → Qzu, pow_succ → Qzx, pow_mul → QAa, mod_mod → QAb, add_comm → QAm
open Option renaming toList_some → Qyr
open UInt32 renaming ofInt → QzM
open UInt64 renaming ofNat → QyO, toNat_inj → Qz9, toNat_toUInt8 → QAc
open UInt8 renaming ofNat → QyP, ofInt → Qy1, toNat_ofNat' → Qzl, toNat_inj → Qzp, lt_iff_toNat_lt → QzU
set_option linter.all false
namespace Go.Proofs.YtdhgpkdjdmlphaaGreat
open Go.RowKit
open Go.BigFrame
end Go.Proofs.YtdhgpkdjdmlphaaGreat
namespace Go.Proofs.YtdhgpkdjdmlphaaGreat
open Go.RowKit
structure Arv where
 ar:Arr
 va:Value
def AvOk (w:World) (x:Arv):Prop:=∃A n c,x.va= .slice A n c∧n≤c∧RdB w A n x.ar.pt.da
theorem AvOk.later {w w':World} {x:Arv} (h:AvOk w x) (hl:Later w w'):AvOk w' x:=by
 obtain⟨A,n,c,h1,h2,h3⟩:=h
 exact⟨A,n,c,h1,h2,h3.later hl⟩
structure Vst where
 cm:Cmd
 id:UInt64
 tk:Int
section
variable {vs:List Vst} {b:List UInt8} (tk:Int)
end
end Go.Proofs.YtdhgpkdjdmlphaaGreat
namespace Go.Proofs.YtdhgpkdjdmlphaaGreat
open Go.RowKit
open Go.BigFrame
def bigB:Nat→Nat→List UInt8
 | 0,_=>[]
 | w+1,n=>bigB w (n/256)++[QyP n]
theorem Qaq:∀w n,(bigB w n).length=w
 | 0,_=>rfl
 | w+1,n=>by rw[bigB,Qyv,Qaq w];rfl
def encB (c:Cmd):List UInt8:=[c.kd,c.fl]++(bigB 4 c.dl.toNat++(bigB 8 c.nx.toNat++(c.ma.val++[0,0])))
theorem QcO (c:Cmd):(encB c).length=32:=by simp[encB,Qaq,c.ma.2]
def Qf9 (st:Nat→List UInt8):Nat→List UInt8
 | 0=>[]
 | k+1=>xorB (Qf9 st k++Qym 48 0) ((chaS (kStr (st k)) 288).drop (288-48*(k+1)))
theorem Qej (st:Nat→List UInt8):∀k,k≤5→(Qf9 st k).length=48*k
 | 0,_=>rfl
 | k+1,h=>by
   have ih:=Qej st k (by omega)
   rw[Qf9,QaT (by simp[ih,QaX];omega),Qy0,QaX]
   omega
def betA (n:Nat) (sl st:Nat→List UInt8):Nat→List UInt8
 | 0=>xorB (sl (n-1)++Qym (208-48*(n-1)) 0) (chaS (kStr (st (n-1))) (240-48*(n-1)))++Qf9 st (n-1)
 | j+1=>xorB (sl (n-2-j)++(tagB (kMac (st (n-1-j))) (kAlp (st (n-1-j))) (betA n sl st j)++(betA n sl st j).take 192)) (chaS (kStr (st (n-2-j))) 240)
def tagA (n:Nat) (sl st:Nat→List UInt8) (j:Nat):List UInt8:=tagB (kMac (st (n-1-j))) (kAlp (st (n-1-j))) (betA n sl st j)
def hdrA (n:Nat) (sl st:Nat→List UInt8) (j:Nat):List UInt8:=kAlp (st (n-1-j))++(tagA n sl st j++betA n sl st j)
theorem QbA (k al be:List UInt8):(tagB k al be).length=16:=by rw[tagB,QyL,Qax];rfl
section
variable {n:Nat} {sl st:Nat→List UInt8} (hn1:1≤n) (hn5:n≤5) (hsl:∀k,(sl k).length=32)
include hn1 hn5 hsl
theorem Qce:∀j,(betA n sl st j).length=240
 | 0=>by
   have:=Qej st (n-1) (by omega)
   rw[betA,Qyv,QaT (by rw[Qyv,hsl,Qyy,QaX];omega),QaX,this]
   omega
 | j+1=>by
   have ih:=Qce j
   rw[betA,QaT (by rw[Qyv,hsl,Qyv,QbA,QyL,ih,QaX];omega),QaX]
theorem QkL (j:Nat) (ha:(kAlp (st (n-1-j))).length=32):subB (hdrA n sl st j) 0 32=kAlp (st (n-1-j))∧subB (hdrA n sl st j) 32 16=tagA n sl st j∧subB (hdrA n sl st j) 48 240=betA n sl st j:=by
 have ht:(tagA n sl st j).length=16:=QbA _ _ _
 have hb:=Qce (st:=st) hn1 hn5 hsl j
 refine⟨QfR _ _ _ ha,QcT _ _ _ _ _ ha ht,?_⟩
 rw[hdrA,←QyE,QgU _ _ _ _ (by rw[Qyv,ha,ht]) hb]
theorem Qkh (j:Nat) (ha:(kAlp (st (n-1-j))).length=32):(hdrA n sl st j).length=288:=by
 have hb:=Qce (st:=st) hn1 hn5 hsl j
 rw[hdrA,Qyv,Qyv,ha,hb,tagA,QbA]
theorem Qul (j:Nat) (ha:(kAlp (st (n-1-j))).length=32):Qmw (hdrA n sl st j) (st (n-1-j))=true:=by
 obtain⟨h1,h2,h3⟩:=QkL (sl:=sl) hn1 hn5 hsl j ha
 rw[Qmw,h1,h2,h3]
 exact decide_eq_true rfl
end
theorem QiC (d:Int) (h0:0≤d) (h1:d<4294967296):((QzM d).toNat:Int)=d:=by
 rw[QjO]
 omega
def QcN (p:Prt):List UInt8:=Qym 16 0++([p.kd,Qy1 p.ix,Qy1 p.ct,0]++(bigB 8 p.id.toNat++(bigB 2 p.da.length++(p.da++Qym (450-p.da.length) 0))))
theorem QbV (p:Prt) (h:p.da.length≤450):(QcN p).length=480:=by
 simp[QcN,Qaq]
 omega
theorem Qdw {p:Prt} (h:prtE p=0): ¬(p.kd<1∨3<p.kd)∧p.da.length≤450∧1≤p.ct∧p.ct≤16∧0≤p.ix∧p.ix<p.ct:=by
 unfold prtE at h
 split at h
 ·cases h
 ·rename_i h1
  split at h
  ·cases h
  ·rename_i h2
   split at h
   ·cases h
   ·rename_i h3
    exact⟨h1,by omega,by omega,by omega,by omega,by omega⟩
end Go.Proofs.YtdhgpkdjdmlphaaGreat
namespace Go.Proofs.YtdhgpkdjdmlphaaGreat
open Go.RowKit
end Go.Proofs.YtdhgpkdjdmlphaaGreat
namespace Go.Proofs.YtdhgpkdjdmlphaaGreat
open Go.RowKit
open Go.BigFrame
def badH (h:Hp):Bool:=decide (h.delay<0)||decide (1000000<h.delay)||decide (h.flags<0)||decide (255<h.flags)
def Qqr (c:Cmd):Bool:=decide (c.kd<2)||decide (4<c.kd)
def Qeb (c:Cmd) (hs:List Hp):Nat:=
 if Qqr c=true then 1 else if hs.any badH=true then 1 else if hs.length<1∨5<hs.length then 2 else if Qcy c=false then 3 else if (hs.drop 1).any (fun h=>h.nod.id==0)=true then 3 else 0
def QdO (c:Cmd) (hs:List Hp) (i:Nat):Cmd:=
 if i+1<hs.length then ⟨1,Qy1 (hs.getD i hp0).flags,QzM (hs.getD i hp0).delay,(hs.getD (i+1) hp0).nod.id,Qbt⟩
 else ⟨c.kd,Qy1 (hs.getD i hp0).flags,QzM (hs.getD i hp0).delay,0,c.ma⟩
theorem Qum {h:Hp} (e:badH h=false):0≤h.delay∧h.delay≤1000000∧0≤h.flags∧h.flags≤255:=by
 simp only[badH,Bool.or_eq_false_iff,decide_eq_false_iff_not]at e
 omega
theorem QxD {hs:List Hp} {p:Hp→Bool} (h:hs.any p=false) {i:Nat} (hi:i<hs.length):p (hs.getD i hp0)=false:=by
 rw[List.any_eq_false]at h
 rw[Qys,Qyq hi]
 simpa using h _ (QzH hi)
theorem Qeo {c:Cmd} {hs:List Hp} (h:Qeb c hs=0):Qqr c=false∧hs.any badH=false∧1≤hs.length∧hs.length≤5∧Qcy c=true∧(hs.drop 1).any (fun h=>h.nod.id==0)=false:=by
 unfold Qeb at h
 split at h
 ·cases h
 ·split at h
  ·cases h
  ·split at h
   ·cases h
   ·split at h
    ·cases h
    ·split at h
     ·cases h
     ·rename_i h1 h2 h3 h4 h5
      exact⟨by simpa using h1,by simpa using h2,by omega,by omega,by simpa using h4,by simpa using h5⟩
theorem Qt0 {c:Cmd} {hs:List Hp} (h:Qeb c hs=0) {i:Nat} (hi:i<hs.length):cmdE (QdO c hs i)=0∧((QdO c hs i).kd=1↔i+1<hs.length):=by
 obtain⟨h1,h2,_,_,h5,h6⟩:=Qeo h
 have hb:=Qum (QxD h2 hi)
 have hd: ¬(1000000:UInt32)<QzM (hs.getD i hp0).delay:=by
  rw[UInt32.lt_iff_toNat_lt]
  have:=QiC (hs.getD i hp0).delay hb.1 (by omega)
  show ¬(1000000<(QzM (hs.getD i hp0).delay).toNat)
  omega
 have hkd:c.kd≠1∧ ¬(c.kd<1∨4<c.kd):=by
  simp only[Qqr,Bool.or_eq_false_iff,decide_eq_false_iff_not,QzU]at h1
  rw[QzU,QzU,Ne,←Qzp]
  have e1:(1:UInt8).toNat=1:=rfl
  have e2:(2:UInt8).toNat=2:=rfl
  have e4:(4:UInt8).toNat=4:=rfl
  omega
 unfold QdO
 by_cases hlt:i+1<hs.length
 ·rw[if_pos hlt]
  refine⟨?_,fun _=>hlt,fun _=>rfl⟩
  have hid:(hs.getD (i+1) hp0).nod.id≠0:=by
   rw[List.any_eq_false]at h6
   have:=h6 (hs.getD (i+1) hp0) (by
    rw[Qys,Qyq hlt]
    rw[List.mem_iff_getElem?]
    exact⟨i,by rw[QzC,QAm 1 i,Qyq hlt];rfl⟩)
   simpa using this
  unfold cmdE
  rw[if_neg (by
   show ¬((1:UInt8)<1∨4<(1:UInt8))
   decide),if_neg (by
   have h0:((hs.getD (i+1) hp0).nod.id != 0)=true:=by simpa using hid
   simp only[Qcy,h0,Qbt]
   decide),if_neg hd]
 ·rw[if_neg hlt]
  refine⟨?_,fun e=>absurd e hkd.1,fun e=>absurd e hlt⟩
  have hs2:Qcy ⟨c.kd,Qy1 (hs.getD i hp0).flags,QzM (hs.getD i hp0).delay,0,c.ma⟩=true:=by
   have hk:=hkd.1
   simp only[Qcy]at h5 ⊢
   have e1:(c.kd==1)=false:=by simpa using hk
   rw[e1]at h5 ⊢
   cases hx:(c.nx != 0)
   ·rw[hx]at h5
    simpa using h5
   ·rw[hx]at h5
    simp at h5
  unfold cmdE
  rw[if_neg hkd.2,if_neg (by rw[hs2];decide),if_neg hd]
def seaA (n:Nat) (st:Nat→List UInt8) (body:List UInt8):Nat→List UInt8
 | 0=>body
 | j+1=>QcE (kPay (st (n-1-j))) (seaA n st body j) rsS
def pktA (n:Nat) (sl st:Nat→List UInt8) (body:List UInt8) (i:Nat):List UInt8:=hdrA n sl st (n-1-i)++seaA n st body (n-i)
theorem Qo9 {st:Nat→List UInt8} (hst:∀k,(st k).length=192) (k:Nat) {bs:List UInt8} (hb:bs.length=480):QdS (kPay (st k)) bs rsS=0:=
 Qfk okS ⟨Qal (by have:=hst k;omega),by omega,by omega⟩
theorem QcP {n:Nat} {st:Nat→List UInt8} {body:List UInt8} (hst:∀k,(st k).length=192) (hb:body.length=480):∀j,(seaA n st body j).length=480
 | 0=>hb
 | j+1=>by
   have ih:=QcP (n:=n) hst hb j
   rw[seaA,(QpZ (Qo9 hst _ ih)).1,ih]
theorem QdA {s:List UInt8} (h:s.length=192):(kAlp s).length=32:=Qal (by omega)
section
variable {n:Nat} {sl st:Nat→List UInt8} (hn1:1≤n) (hn5:n≤5) (hsl:∀k,(sl k).length=32) (hst:∀k,(st k).length=192) {body:List UInt8} (hb:body.length=480)
include hn1 hn5 hsl hst hb
end
def Qbe (l:List Nat):Nat:=l.foldl (fun a e=>if e≠0∧(a=0∨e<a) then e else a) 0
theorem Qeh:∀(l:List Nat) (a:Nat),l.foldl (fun a e=>if e≠0∧(a=0∨e<a) then e else a) a=0↔a=0∧∀e∈l,e=0
 | [],a=>by simp
 | e :: l,a=>by
   rw[List.foldl_cons,Qeh l]
   constructor
   ·rintro⟨h1,h2⟩
    split at h1
    ·rename_i h
     exact absurd h1 h.1
    ·rename_i h
     refine⟨h1,?_⟩
     intro e' he
     rcases QyA.1 he with rfl|he
     ·by_cases hz:e'=0
      ·exact hz
      ·exact absurd ⟨hz,.inl h1⟩ h
     ·exact h2 _ he
   ·rintro⟨rfl,h2⟩
    have he:=h2 e (by simp)
    exact⟨by rw[if_neg (fun h=>h.1 he)],fun e' h'=>h2 _ (by simp[h'])⟩
theorem QbC (l:List Nat):Qbe l=0↔∀e∈l,e=0:=by
 rw[Qbe,Qeh]
 simp
def pubH (hs:List Hp):List (List UInt8):=hs.map fun h=>h.nod.pub.val
noncomputable def Qb6 (x:List UInt8) (c:Cmd) (body:List UInt8) (hs:List Hp):Nat:=Qbe [Qeb c hs,Qcp x (pubH hs),if body.length=480 then 0 else 2]
def Qi9 (x:List UInt8) (c:Cmd) (body:List UInt8) (hs:List Hp):List UInt8:=pktA hs.length (fun i=>encB (QdO c hs i)) (QbL x (pubH hs)) body 0
def QeX (p:Prt):Cmd:=⟨if p.kd=2 then 3 else 2,0,0,0,Qbt⟩
def frmE (p:Prt):Nat:=if prtE p=0∧p.kd=3 then 3 else prtE p
def Qfm (p:Prt):List UInt8:=if frmE p=0 then QcN p else Qym 480 0
noncomputable def Qga (x:List UInt8) (p:Prt) (hs:List Hp):Nat:=Qbe [frmE p,Qb6 x (QeX p) (Qfm p) hs]
def QvP (x:List UInt8) (p:Prt) (hs:List Hp):List UInt8:=Qi9 x (QeX p) (Qfm p) hs
end Go.Proofs.YtdhgpkdjdmlphaaGreat
namespace Go.Proofs.YtdhgpkdjdmlphaaGreat
open Go.RowKit
structure Car where
 vs:List Vst
 bd:List UInt8
 tk:Int
 er:Nat
section
variable {xs:List Nod} {k:Nat} {id:UInt64} {tk:Int} {p:List UInt8} {vs:List Vst}
end
end Go.Proofs.YtdhgpkdjdmlphaaGreat
namespace Go.Proofs.YtdhgpkdjdmlphaaGreat
open Go.RowKit
open Go.BigFrame
def leM (a e:Nat):Nat:=if e≠0∧(a=0∨e<a) then e else a
theorem Qj7 (es:List Nat) (k:Nat) (h:k<es.length):Qbe (es.take (k+1))=leM (Qbe (es.take k)) (es.getD k 0):=by
 rw[Qbe,Qbe,QyQ h,List.foldl_append,Qys,Qyq h]
 rfl
def eVM (e:Nat):Value:=.int .i64 (e:Int)
set_option maxRecDepth 100000 in
theorem Qdx (A:Option Addr) (n c:Nat) (es:List Nat) (w:World) (hr:Rd w A n (es.map eVM)) (hn:n≤1048576):
 Calls Tryz.prog 8 #[.slice A n c] w fun e w'=>e= .returned (.int .i64 (Qbe es:Nat))∧Later w w':=by
 have hl:es.length=n:=by have:=hr.1;rwa [Qyn]at this
 have hst:=hid (Qj7 es)
 have h0:Hid (Qbe (es.take 0)=0):=hid rfl
 have hn':Hid (Qbe (es.take n)=Qbe es):=hid (by rw[Qyx (by omega)])
 go_enter Tryz.func8,Tryz.ntmps8
 go_wp2_with fail
 go_loopw [3,8] (fun s i wr=>∃k:Nat,k≤n∧i= .int .i64 k∧s= .int .i64 (Qbe (es.take k):Nat)∧Later w wr) (fun _ i _=>n-(intOf i).toNat)
 case atStart=>exact⟨0,by omega,rfl,by rw[h0.out];rfl,Later.refl w⟩
 case round=>
  obtain⟨k,hk,rfl,rfl,L⟩:=hrel
  by_cases hlt:k<n
  ·obtain⟨b,o,rfl,hb,hc⟩:=(hr.later L).2 (by omega)
   have c1:wr.cell? ⟨b,o+k,none⟩=some (eVM (es.getD k 0)):=hc k _ (by rw[QyF,Qys,Qyq (by omega)];rfl)
   have hS:=hst.out k (by omega)
   rw[eVM]at c1
   clear hc
   generalize es.getD k 0=x at *
   generalize Qbe (es.take k)=y at *
   replace hS:=hid hS
   by_cases e0:x=0
   ·have f1:((x:Int) != 0)=false:=by simp[e0]
    have hz:=hid (hS.out.trans (by rw[leM,if_neg (by simp[e0])]))
    clear e0
    go_wp2_with fail
    exact⟨⟨k+1,by omega,by go_num,by rw[hz.out],L⟩,by simp[intOf];omega⟩
   have f1:((x:Int) != 0)=true:=by simp[e0]
   by_cases e1:y=0
   ·have f2:((y:Int)==0)=true:=by simp[e1]
    have hz:=hid (hS.out.trans (by rw[leM,if_pos ⟨e0,.inl e1⟩]))
    clear e0 e1
    go_wp2_with fail
    exact⟨⟨k+1,by omega,by go_num,by rw[hz.out],L⟩,by simp[intOf];omega⟩
   have f2:((y:Int)==0)=false:=by simp[e1]
   by_cases e2:x<y
   ·have f3:decide ((x:Int)<(y:Int))=true:=decide_eq_true (by omega)
    have hz:=hid (hS.out.trans (by rw[leM,if_pos ⟨e0,.inr e2⟩]))
    clear e0 e1
    go_wp2_with fail
    exact⟨⟨k+1,by omega,by go_num,by rw[hz.out],L⟩,by simp[intOf];omega⟩
   ·have f3:decide ((x:Int)<(y:Int))=false:=decide_eq_false (by omega)
    have hz:=hid (hS.out.trans (by rw[leM,if_neg (fun h=>h.2.elim e1 e2)]))
    clear e0 e1
    go_wp2_with fail
    exact⟨⟨k+1,by omega,by go_num,by rw[hz.out],L⟩,by simp[intOf];omega⟩
  ·obtain rfl:k=n:=by omega
   rw[hn'.out]
   go_wp2_with fail
   go_ret
   exact⟨rfl,L⟩
def ctOf (ks:List Prt):Int:=(ks.getLast?.map (·.ct)).getD 0
def hvOf (ks:List Prt):List Bool:=(Qzc 16).map fun (i:Nat)=>ks.any (fun q=>q.ix==(i:Int))
def MsC (id:UInt64) (ks:List Prt) (pv:List Value):List Value:=W64 id :: .int .i64 (ctOf ks) :: .int .i64 (ks.length:Nat) :: ((hvOf ks).map Value.bool++pv)
def PieceAt (w:World) (base:Nat) (v:Value) (da:List UInt8):Prop:=(v= .slice none 0 0∧da=[])∨∃gp,v= .slice (some ⟨gp,0,none⟩) da.length da.length∧base≤gp∧Blk w gp 5 (da.map W8)
structure MsgAt (w:World) (base g:Nat) (id:UInt64) (ks:List Prt) (pv:List Value):Prop where
 blk:Blk w g 204 (MsC id ks pv)
 low:base≤g
 len:pv.length=16
 pcs:∀i v,pv[i]?=some v→PieceAt w base v (daAt ks i)
section
variable {w w':World} {base g:Nat} {id:UInt64} {ks:List Prt} {pv:List Value}
theorem PieceAt.later {v:Value} {da:List UInt8} (h:PieceAt w base v da) (hl:Later w w'):PieceAt w' base v da:=
 h.imp (fun h=>h) fun ⟨gp,h1,h2,h3⟩=>⟨gp,h1,h2,h3.later hl⟩
theorem PieceAt.only {v:Value} {da:List UInt8} {t:TypeId} {l:List Value} (h:PieceAt w base v da) (hg:Blk w g t l) (hne:t≠5) (ho:Only g w w'):PieceAt w' base v da:=
 h.imp (fun h=>h) fun ⟨gp,h1,h2,h3⟩=>⟨gp,h1,h2,h3.only ho (fun e=>by
  subst e
  have:=hg.symm.trans h3
  simp only[Option.some.injEq,Obj.cells.injEq]at this
  exact hne this.2.1)⟩
theorem MsgAt.later (h:MsgAt w base g id ks pv) (hl:Later w w'):MsgAt w' base g id ks pv:=⟨h.blk.later hl,h.low,h.len,fun i v hv=>(h.pcs i v hv).later hl⟩
theorem MsgAt.cells (h:MsgAt w base g id ks pv):w.cell? ⟨g,0,none⟩=some (W64 id)∧w.cell? ⟨g,1,none⟩=some (.int .i64 (ctOf ks))∧w.cell? ⟨g,2,none⟩=some (.int .i64 (ks.length:Nat)):=
 ⟨h.blk.cellD 0 rfl,h.blk.cellD 1 rfl,h.blk.cellD 2 rfl⟩
end
theorem KeptOk.ct {ks:List Prt} (h:KeptOk ks) (hne:ks≠[]):1≤ctOf ks∧ctOf ks≤16∧(ks.length:Int)≤ctOf ks∧∀q∈ks,q.ct=ctOf ks:=by
 have hl:ks.getLast?=some (ks.getLast hne):=List.getLast?_eq_some_getLast hne
 have hm:=List.getLast_mem hne
 generalize ks.getLast hne=l at hl hm
 have hc:ctOf ks=l.ct:=by rw[ctOf,hl];rfl
 obtain⟨h1,h2,_⟩:=Qp8 (h.good l hm).2
 have hs:∀q∈ks,q.ct=l.ct:=fun q hq=>h.same q hq l hm
 rw[hc]
 exact⟨h1,h2,h.le hs (by omega),hs⟩
end Go.Proofs.YtdhgpkdjdmlphaaGreat
namespace Go.Proofs.YtdhgpkdjdmlphaaGreat
open Go.RowKit Go.Maps
def ptrV:Option Nat→Value
 | none=>.pointer none
 | some b=>.pointer (some ⟨b,0,none⟩)
def ptrD:Option Nat→DataW Unit
 | none=>.lit (.bool false)
 | some b=>.lit (.int .i64 b)
def ptrR (v:Value):Option (DataW Unit×List MemPlace):=
 match v with
 | .pointer none=>some (ptrD none,[])
 | .pointer (some ⟨b,0,none⟩)=>some (ptrD (some b),[])
 | _=>none
theorem QtY (x:Option Nat):ptrR (ptrV x)=some (ptrD x,[]):=by cases x<;>rfl
structure PKey (P:Program) (k:TypeId) (α:Type) where
 kv:α→Value
 kl:α→Lit
 ok:∀x,keyOf P k (kv x)=some (kl x)
 inj:∀x y,kv x=kv y→x=y
 law:Keyed P k
def PMap {P:Program} {k:TypeId} {α:Type} (w:World) (K:PKey P k α) (b n:Nat) (f:α→Option Nat):Prop:=
 ∃D:DataW Unit,w.ownsMap P k ptrR b n D∧∀x,D.atKey (K.kl x) (ptrD none)=ptrD (f x)
section
variable {P:Program} {k t e:TypeId} {α:Type} {w w':World} {K:PKey P k α} {b n:Nat} {f:α→Option Nat}
theorem PKey.kl_inj (K:PKey P k α) {x y:α} (h:K.kl x=K.kl y):x=y:=K.inj x y (K.law.inj (K.ok x) (h ▸ K.ok y))
theorem PMap.made (w:World) (K:PKey P k α):PMap (w.alloc (.map #[] 0)) K w.heap.size 0 (fun _=>none):=⟨_,World.ownsMap_made w P k ptrR,fun _=>rfl⟩
theorem PMap.only (h:PMap w K b n f) {g:Nat} (ho:Only g w w') (hne:b≠g):PMap w' K b n f:=by
 obtain⟨D,h1,h2⟩:=h
 exact⟨D,h1.kept ho (by simpa using hne),h2⟩
theorem PMap.grown (h:PMap w K b n f) {row:Option Nat} (ho:w.grownBy w' row) (hne:some b≠row):PMap w' K b n f:=by
 obtain⟨D,h1,h2⟩:=h
 exact⟨D,h1.kept ho hne,h2⟩
theorem PMap.lt (h:PMap w K b n f):b<w.heap.size:=let ⟨_,h1,_⟩:=h;h1.lt
theorem PMap.later (h:PMap w K b n f) (hl:Later w w'):PMap w' K b n f:=by
 refine h.only (hl.onlyAny (b+1)) (by omega)
theorem PMap.put [DecidableEq α] (h:PMap w K b n f) (ht:P.underlying t=some (.map k e)) (hn:n<maxLen) (x:α) (g:Nat):
 ∃w',(Instr.mapUpdate t (.map (some b)) (K.kv x) (.pointer (some ⟨g,0,none⟩))).run P w= .ok () w'∧PMap w' K b (n+1) (fun y=>if y=x then some g else f y)∧Only b w w':=by
 obtain⟨D,h1,h2⟩:=h
 obtain⟨w',hrun,h3,h4⟩:=h1.update K.law ht hn (K.ok x) (QtY (some g))
 refine⟨w',hrun,⟨_,h3,fun y=>?_⟩,h4⟩
 by_cases hyx:y=x
 ·subst hyx
  simp only[if_true]
  exact atKey_put_same h1.isMap (K.law.key (K.ok y)) _ _
 ·simp only[hyx,if_false]
  rw[atKey_put_other (fun hc=>hyx (K.kl_inj hc))]
  exact h2 y
variable {ops:Array Oper} {rest:List Oper} {o:Oper} {a:Act} {Q:Exit→Act→World→Prop}
end
theorem Qu0:(199:Nat)<Tryz.prog.types.size:=of_decide_eq_true (by kernel_rfl)
theorem QvR:Tryz.prog.keyTypeAt (Tryz.prog.types.size+1) 199=true:=by kernel_rfl
theorem QvN:(match Tryz.prog.underlying 199 with|some (.array _ _)|some (.struct _)=>true|_=>false)=true:=by kernel_rfl
theorem QvK:laidOutB Tryz.prog=true:=by kernel_rfl
set_option maxRecDepth 100000 in
theorem Qxh:Keyed Tryz.prog 199:=Keyed.of_law (deep_law_laid QvK (m:=3) (by omega) Qu0 (by kernel_rfl) QvN)
theorem Qn0:Tryz.prog.cellsOf 199=2:=by kernel_rfl
theorem Quc:Tryz.prog.cellsOf 23=1:=by kernel_rfl
theorem wf64 (x:UInt64):(Lit.int .u64 (x.toNat:Int)).wf=true:=by
 have:=x.toNat_lt
 simp[Lit.wf,IntKind.min,IntKind.max,IntKind.signed,IntKind.bits]
 omega
theorem QnD (d:Nat) (x:UInt64):Tryz.prog.keyLits (d+1) 23 [W64 x]=some [.int .u64 (x.toNat:Int)]:=by
 unfold Program.keyLits
 rw[Tryz.underlying23]
 simp[W64,wf64]
theorem QpC (d:Nat) (x y:UInt64):Tryz.prog.keyLits (d+2) 199 [W64 x,W64 y]=some [.int .u64 (x.toNat:Int),.int .u64 (y.toNat:Int)]:=by
 unfold Program.keyLits
 rw[Tryz.underlying199]
 simp[Qn0,Quc,QnD]
def Qvw:PKey Tryz.prog 199 (UInt64×UInt64) where
 kv x:=.agg #[W64 x.1,W64 x.2]
 kl x:=.string (keyBytes [.int .u64 (x.1.toNat:Int),.int .u64 (x.2.toNat:Int)])
 ok x:=by
  have hf:(Value.agg #[W64 x.1,W64 x.2]).formed Tryz.prog 199=true:=by
   simp[Value.formed,Tryz.underlying199,Qn0]
  unfold keyOf
  rw[Tryz.underlying199]
  have hk:Tryz.prog.keyType 199=true:=QvR
  obtain⟨d,hd⟩:∃d,Tryz.prog.types.size+1=d+2:=⟨Tryz.prog.types.size-1,by have:=Qu0;omega⟩
  simp only[hk,hf,Bool.and_self,if_true,hd]
  show (Tryz.prog.keyLits (d+2) 199 [W64 x.1,W64 x.2]).map _=_
  rw[QpC]
  rfl
 inj x y h:=by
  have h1:[W64 x.1,W64 x.2]=[W64 y.1,W64 y.2]:=congrArg Array.toList (Value.agg.inj h)
  have h2:W64 x.1=W64 y.1:=(List.cons.inj h1).1
  have h3:W64 x.2=W64 y.2:=(List.cons.inj (List.cons.inj h1).2).1
  have e:∀a b:UInt64,W64 a=W64 b→a=b:=fun a b h=>by
   have:(a.toNat:Int)=b.toNat:=by simpa [W64] using h
   exact Qz9.1 (by omega)
  exact Prod.ext (e _ _ h2) (e _ _ h3)
 law:=Qxh
end Go.Proofs.YtdhgpkdjdmlphaaGreat
namespace Go.Proofs.YtdhgpkdjdmlphaaGreat
open Go.RowKit
open Go.BigFrame
theorem KeptOk.small {ks:List Prt} (h:KeptOk ks):ks.length≤16:=by
 by_cases hne:ks=[]
 ·simp[hne]
 ·have:=h.ct hne
  omega
structure Ltv where
 lt:Ltr
 va:Option Addr
 vn:Nat
 vc:Nat
def LtC (y:Ltv):List Value:=[W64 y.lt.to,W64 y.lt.id,.int .i64 y.lt.tk,.slice y.va y.vn y.vc]
section
variable {w w':World} {base sz n:Nat} {e:TypeId} {v:Value} {vs:List Value}
theorem Qju {k:Nat} {es:Array MapEntry} {ck:Nat} (h:w.ownsRow base e sz v n vs) (hb:w.heap[k]?=some (.map es ck)) (ho:Only k w w'):w'.ownsRow base e sz v n vs:=by
 refine h.kept ho ?_
 rcases h.2 with ⟨rfl,_⟩|⟨g2,c2,cur2,rfl,_,hh2,_⟩
 ·exact .inl rfl
 ·refine .inr ?_
  intro hc
  have:k=g2:=by simpa [Value.ownBlock] using hc.symm
  subst this
  rw[hb]at hh2
  cases hh2
theorem QiY {k g:Nat} {t:TypeId} {l:List Value} {es:Array MapEntry} {ck:Nat} (h:Blk w g t l) (hb:w.heap[k]?=some (.map es ck)) (ho:Only k w w'):Blk w' g t l:=by
 refine h.only ho fun e=>?_
 subst e
 rw[Blk,hb]at h
 cases h
end
structure LSt (w wr:World) (bm n:Nat) (f:UInt64×UInt64→Option Nat) (K:UInt64×UInt64→List Prt) (v3:Value) (ys:List Ltv):Prop where
 lat:Later w wr
 map:PMap wr Qvw bm n f
 low:w.heap.size≤bm
 msg:∀x g,f x=some g→∃pv,MsgAt wr w.heap.size g x.2 (K x) pv
 non:∀x,f x=none→K x=[]
 inj:∀x y g,f x=some g→f y=some g→x=y
 own:wr.ownsRow w.heap.size 140 4 v3 ys.length (ys.flatMap LtC)
 txt:∀y∈ys,OwnB wr w.heap.size y.va y.vn y.vc y.lt.tx
section
variable {w wr w':World} {bm n:Nat} {f:UInt64×UInt64→Option Nat} {K:UInt64×UInt64→List Prt} {v3:Value} {ys:List Ltv}
theorem PMap.obj {P:Program} {k:TypeId} {α:Type} {w:World} {M:PKey P k α} {b n:Nat} {f:α→Option Nat} (h:PMap w M b n f):∃es ck,w.heap[b]?=some (.map es ck):=by
 obtain⟨_,⟨es,ck,h1,_⟩,_⟩:=h
 exact⟨es,ck,h1⟩
theorem LSt.later (h:LSt w wr bm n f K v3 ys) (hl:Later wr w'):LSt w w' bm n f K v3 ys:=
 ⟨h.lat.trans hl,h.map.later hl,h.low,fun x g hx=>(h.msg x g hx).imp fun _ hm=>hm.later hl,h.non,h.inj,Qet h.own hl,fun y hy=>Qa0 (h.txt y hy) hl⟩
theorem MsgAt.onlyM {base g k:Nat} {id:UInt64} {ks:List Prt} {pv:List Value} {es:Array MapEntry} {ck:Nat} (h:MsgAt wr base g id ks pv) (hb:wr.heap[k]?=some (.map es ck)) (ho:Only k wr w'):MsgAt w' base g id ks pv:=
 ⟨QiY h.blk hb ho,h.low,h.len,fun i v hv=>(h.pcs i v hv).imp (fun h=>h) fun ⟨gp,h1,h2,h3⟩=>⟨gp,h1,h2,QiY h3 hb ho⟩⟩
theorem MsgAt.grown {base g b sz m:Nat} {e:TypeId} {v:Value} {vs:List Value} {id:UInt64} {ks:List Prt} {pv:List Value} (h:MsgAt wr base g id ks pv) (hr:wr.ownsRow b e sz v m vs) (h1:(204:TypeId)≠e) (h2:(5:TypeId)≠e) (hg:wr.grownBy w' v.ownBlock):MsgAt w' base g id ks pv:=
 ⟨Qcf h.blk hr h1 hg,h.low,h.len,fun i v hv=>(h.pcs i v hv).imp (fun h=>h) fun ⟨gp,k1,k2,k3⟩=>⟨gp,k1,k2,Qcf k3 hr h2 hg⟩⟩
theorem LSt.put (h:LSt w wr bm n f K v3 ys) {x0:UInt64×UInt64} {g:Nat} {pv:List Value} (hx:f x0=none) (hm:MsgAt wr w.heap.size g x0.2 [] pv) (hf:∀x,f x≠some g) (hp:PMap w' Qvw bm (n+1) (fun x=>if x=x0 then some g else f x)) (ho:Only bm wr w'):
 LSt w w' bm (n+1) (fun x=>if x=x0 then some g else f x) K v3 ys:=by
 obtain⟨es,ck,hb⟩:=h.map.obj
 refine⟨h.lat.only ho h.low,hp,h.low,fun x g' hx'=>?_,fun x hx'=>?_,fun x y g' hx' hy'=>?_,Qju h.own hb ho,fun y hy=>?_⟩
 ·by_cases hxx:x=x0
  ·subst hxx
   simp only[if_true,Option.some.injEq]at hx'
   subst hx'
   exact⟨pv,by rw[h.non x hx];exact hm.onlyM hb ho⟩
  ·simp only[hxx,if_false]at hx'
   exact (h.msg x g' hx').imp fun _ hm=>hm.onlyM hb ho
 ·by_cases hxx:x=x0
  ·subst hxx
   simp at hx'
  ·simp only[hxx,if_false]at hx'
   exact h.non x hx'
 ·by_cases hxx:x=x0<;>by_cases hyy:y=x0
  ·exact hxx.trans hyy.symm
  ·simp only[hxx,hyy,if_true,if_false,Option.some.injEq]at hx' hy'
   subst hx'
   exact absurd hy' (hf y)
  ·simp only[hxx,hyy,if_true,if_false,Option.some.injEq]at hx' hy'
   subst hy'
   exact absurd hx' (hf x)
  ·simp only[hxx,hyy,if_false]at hx' hy'
   exact h.inj x y g' hx' hy'
 ·exact Qju (h.txt y hy) hb ho
end
set_option maxRecDepth 100000 in
theorem Qnh (p:Prt) (A:Option Addr) (n c:Nat) (w:World) (hr:RdB w A n p.da) (hn:n≤1048576):
 Calls Tryz.prog 11 #[.agg (PaC p (.slice A n c)).toArray] w fun e w'=>∃A' c',e= .returned (.agg (PaC p (.slice A' n c')).toArray)∧OwnB w' w.heap.size A' n c' p.da∧Later w w':=by
 have B1:=Qbi w 25 (PaC p (.slice A n c))
 have B2:Bag w ((w.alloc (.cells (PaC p (.slice A n c)).toArray 25)).alloc (.cells pz0.toArray 25)) [((w.alloc (.cells (PaC p (.slice A n c)).toArray 25)).heap.size,25,pz0),(w.heap.size,25,PaC p (.slice A n c))]:=
  B1.add (Qaa _ _) (by simp) (by simp) (Blk.new _ _ _)
 have d4:=(QaD (B2.nth 1 rfl)).2.2.2.2
 go_enter Tryz.func11,Tryz.ntmps11
 go_wp2_with fail
 refine (Qq4 A n c p.da _ (hr.later B2.lat) (by omega)).mono ?_
 rintro e w3 ⟨A3,c3,rfl,hown3,l3⟩
 have B3:=B2.later l3
 have hs2:((w.alloc (.cells (PaC p (.slice A n c)).toArray 25)).alloc (.cells pz0.toArray 25)).heap.size=w.heap.size+2:=by simp
 have hs1:(w.alloc (.cells (PaC p (.slice A n c)).toArray 25)).heap.size=w.heap.size+1:=by simp
 rw[hs2]at hown3
 go_wp2_with (first
  | (refine Qae rfl rfl _ _ _ rfl w.heap.size 4 _ _ (B3.nth 1 rfl) rfl (by rw[QfC];omega) rfl (by kernel_rfl) ?_;intro v4 w4 hv4 hb4 ho4;simp[go_sem]at hv4;subst hv4
     have hq4:=(B3.nth 0 rfl).only ho4 (by omega)
     rw[hs1]at hq4)
  | (refine Qed ?hw _ rfl (show Blk w4 w.heap.size 25 (PaC p (.slice A3 n c3)) from hb4) rfl ?_;(case hw=>rfl))
  | (refine QrT (p:=p) (v:=.slice A3 n c3) rfl rfl _ _ rfl hq4 rfl rfl rfl rfl ?_;intro w5 hb5 ho5)
  | fail)
 have o4:=Qi5 hown3 ho4 (fun k hk=>.inl (by simp only[Option.some.injEq]at hk;omega))
 have o5:=Qi5 o4 ho5 (fun k hk=>.inl (by simp only[Option.some.injEq]at hk;omega))
 exact bodyPost_ret (QaE rfl _ _ _ _ _ _ hb5 rfl Tryz.underlying25 rfl (by rw[QfC];exact Qoz)) rfl ⟨A3,c3,rfl,Qdg o5 (by omega),(B3.lat.only ho4 (Qyw _)).only ho5 (by omega)⟩
structure Arw where
 ar:Arr
 va:Option Addr
 vn:Nat
 vc:Nat
section
variable {ops:Array Oper} {rest:List Oper} {o:Oper} {a:Act}
end
section
variable {P:Program} {ops:Array Oper} {rest:List Oper} {o:Oper} {a:Act} {w:World} {Q:Exit→Act→World→Prop} {t:TypeId}
theorem go_b {p:Array (Nat×Operand)} (_ho:o.op= .build t p) (h:wpList P ops Q (o :: rest) a w):wpList P ops Q (o :: rest) a w:=h
theorem go_a {s x:Operand} (_ho:o.op= .call { callee:=.builtin .append,args:= #[s,x],argTypes:= #[t,t] }) (h:wpList P ops Q (o :: rest) a w):wpList P ops Q (o :: rest) a w:=h
theorem go_l {x:Operand} (_ho:o.op= .load t x) (h:wpList P ops Q (o :: rest) a w):wpList P ops Q (o :: rest) a w:=h
theorem Qa1 {x y:Operand} (_ho:o.op= .store t x y) (h:wpList P ops Q (o :: rest) a w):wpList P ops Q (o :: rest) a w:=h
end
theorem Qp5:(Tryz.prog.info? 76).map (·.size)=some 68:=by kernel_rfl
theorem Qtt:(Tryz.prog.info? 147).map (fun i=>(i.zero,i.size))=some (some (.agg (HC hp0).toArray),68):=by kernel_rfl
set_option maxRecDepth 100000 in
set_option maxHeartbeats 4000000 in
theorem Qro (A:Option Addr) (n c:Nat) (hs:List Hp) (w:World) (hh:RdH w A n hs) (hn:n≤1048576):
 Calls Tryz.prog 12 #[.slice A n c] w fun e w'=>∃A' c',e= .returned (.slice A' n c')∧RdH w' A' n hs∧Later w w':=by
 have hl:=hh.1
 go_enter Tryz.func12,Tryz.ntmps12
 go_wp2_with fail
 go_loopw [3,8] (fun v i wr=>∃(k:Nat) (A':Option Addr) (c':Nat),k≤n∧i= .int .i64 k∧v= .slice A' k c'∧wr.ownsRow w.heap.size 147 68 (.slice A' k c') k ((hs.take k).flatMap HC)∧Later w wr) (fun _ i _=>n-(intOf i).toNat)
 case atStart=>exact⟨0,none,0,by omega,rfl,rfl,World.ownsRow_nil w _ _ 68,Later.refl w⟩
 case round=>
  obtain⟨k,A1,c1,hk,rfl,rfl,hown,L⟩:=hrel
  by_cases hlt:k<n
  ·obtain⟨b,o,rfl,hb,hc⟩:=(hh.later L).at_ hlt
   have htk:(hs.take (k+1)).flatMap HC=(hs.take k).flatMap HC++[hs.getD k hp0].flatMap HC:=by
    rw[List.take_add_one,List.flatMap_append,Qys,Qyq (by omega)]
    rfl
   generalize hs.getD k hp0=z at *
   replace htk:=hid htk
   replace hc:=hid hc
   have hzz:Tryz.zeroCells76.toList.length=68:=by kernel_rfl
   replace hzz:=hid hzz
   have hbn:=hid (Qj3 z.nod)
   have hbh:=hid (QoA z.nod z.delay z.flags)
   go_wp2_with (first
    | (refine go_l rfl ?_;refine QaB rfl 76 _ rfl b (o+k*68) (HC z) hc.out rfl _ Tryz.underlying76 rfl (by rw[QaZ];exact Qp5) ?_)
    | (refine Qa1 rfl ?_;refine Qa7 rfl rfl 76 _ _ rfl wr.heap.size _ _ (HC z) (Blk.new wr _ Tryz.zeroCells76.toList) rfl rfl 68 Qp5 (QaZ _) hzz.out (QsH _) ?_;intro w3 hb3 ho3
       have l3:Later wr w3:=(Qaa wr _).only ho3 (Qyw _)
       have c66:=hb3.cellD 66 (QiA z)
       have c67:=hb3.cellD 67 (QiP z)
       have hb3l:=hb3.lt)
    | (refine go_l rfl ?_;refine Qrk rfl _ rfl (y:=z.nod) (off:=0) (fun i v hv=>by rw[QyY];exact hb3.cellD i (QnJ z hv)) rfl ?_)
    | (refine go_b rfl ?_;refine Qao ?hw 86 _ rfl (NC z.nod) (by simp only[QyK,QyT,QyU];exact hbn.out) ?_;(case hw=>rfl))
    | (refine go_b rfl ?_;refine Qao ?hw 147 _ rfl (HC z) (by simp only[QyK,QyT,QyU];exact hbh.out) ?_;(case hw=>rfl))
    | (refine Qng rfl 41 _ rfl 147 68 _ (HC z) Tryz.underlying41 Qtt (by omega) (by omega) (QaZ z) rfl ?_
       have hz4:Blk (w3.alloc (.cells (HC z).toArray 147)) w3.heap.size 147 ([z].flatMap HC):=by simp only[QzI,List.flatMap_nil,QyZ];exact Blk.new w3 _ _)
    | (refine go_a rfl ?_;refine QgL (F:=HC) (d:=hp0) QaZ QsH (by omega) rfl _ _ _ rfl 147 _ 104 Tryz.underlying41 QxZ rfl w _ k _ (Qet hown (l3.trans (Qaa _ _))) ((L.trans l3).trans (Qaa _ _)) _ 1 1 [z] (Qty QaZ hz4 rfl) rfl rfl (by omega) (by omega) ?_;intro A4 c4 w4 hown4 hl4 _)
    | fail)
   rw[←htk.out]at hown4
   exact⟨⟨k+1,A4,c4,by omega,by go_num,rfl,hown4,hl4⟩,by simp[intOf];omega⟩
  ·obtain rfl:k=n:=by omega
   rw[Qyx (by omega)]at hown
   go_wp2_with fail
   go_ret
   exact⟨A1,c1,rfl,Qk6 (d:=hp0) QaZ hown hl,L⟩
def fr3 (p:Prt):List UInt8:=Qym 16 0++([p.kd,Qy1 p.ix,Qy1 p.ct,0]++Qym 460 0)
def frK (p:Prt) (k:Nat):List UInt8:=putB (fr3 p) 20 ((bigB 8 p.id.toNat).take k)
theorem Qep (n:Nat):Qy1 (n:Int)=QyP n:=by
 apply Qzp.1
 rw[Qzl]
 show ((n:Int)%(2:Int)^8).toNat%2^8=n%2^8
 omega
theorem QlA (p:Prt):(((Qym 480 (0:UInt8)).set 16 p.kd).set 17 (Qy1 p.ix)).set 18 (Qy1 p.ct)=fr3 p:=by
 rw[show Qym 480 (0:UInt8)=Qym 16 0++([0,0,0,0]++Qym 460 0) by rw[show ([0,0,0,0]:List UInt8)=Qym 4 0 from rfl,Qzw,Qzw]]
 rw[QyW _ _ (by simp),QyW _ _ (by simp),QyW _ _ (by simp),Qyy]
 rfl
theorem Qem (p:Prt):(fr3 p).length=480:=by
 rw[fr3,Qyv,Qyv,Qyy,Qyy]
 show 16+(4+460)=480
 omega
theorem QiO:∀(w n k:Nat),k<w→(bigB w n)[k]?=some (QyP (n/256^(w-1-k)))
 | 0,_,_,h=>by omega
 | w+1,n,k,h=>by
   rw[bigB]
   by_cases hk:k<w
   ·rw[QyH (by rw[Qaq];exact hk),QiO w _ k hk,Qze,show w+1-1-k=(w-1-k)+1 by omega,Qzx,Qzj]
   ·obtain rfl:k=w:=by omega
    rw[Qyz (by rw[Qaq];omega),Qaq,Qzu,show k+1-1-k=0 by omega,Nat.pow_zero,Nat.div_one]
    rfl
theorem Qqn (x:UInt64) (k:Nat) (h:k<8):(QdU x (56-8*k)).toUInt8=QyP (x.toNat/256^(8-1-k)):=by
 apply Qzp.1
 have e:(QdU x (56-8*k)).toNat=x.toNat/2^(56-8*k):=by
  show (x.toBitVec >>> (56-8*k)).toNat=_
  rw[Qzd,Qza]
  rfl
 rw[QAc,e,Qzl,show (2:Nat)^(56-8*k)=256^(8-1-k) by rw[show (256:Nat)=2^8 from rfl,←QAa];congr 1;omega]
theorem QlD (p:Prt):frK p 0=fr3 p:=by simp[frK,putB]
theorem QfL (p:Prt) (k:Nat):(frK p k).length=480:=by
 rw[frK,Qbm (by rw[Qem,QyL,Qaq];omega),Qem]
theorem QrJ (p:Prt) (k:Nat) (h:k<8):(frK p k).set (20+k) (QdU p.id (56-8*k)).toUInt8=frK p (k+1):=by
 have hb:(bigB 8 p.id.toNat).take (k+1)=(bigB 8 p.id.toNat).take k++[(QdU p.id (56-8*k)).toUInt8]:=by
  rw[List.take_add_one,QiO 8 _ k h,Qqn _ _ h]
  rfl
 have hl:((bigB 8 p.id.toNat).take k).length=k:=by rw[QyL,Qaq];omega
 have h3:=Qem p
 rw[frK,frK,hb]
 generalize (QdU p.id (56-8*k)).toUInt8=x
 generalize (bigB 8 p.id.toNat).take k=q at *
 generalize fr3 p=L at *
 rw[putB,putB,QyW _ _ (by simp;omega),Qyv,QyL,h3,hl,show 20+k-(min 20 480+k)=0 by omega,Qyv,hl,List.length_singleton,QzT (i:=20+k) (by omega),QyI]
 simp[Nat.add_assoc]
theorem Qny (p:Prt) (h:p.da.length≤450):putB (((frK p 8).set 28 (Qy1 ((p.da.length:Int)/256))).set 29 (Qy1 ((p.da.length:Int)%256))) 30 p.da=QcN p:=by
 have h8:(bigB 8 p.id.toNat).take 8=bigB 8 p.id.toNat:=Qyx (by rw[Qaq];omega)
 have e1:Qy1 ((p.da.length:Int)/256)=QyP (p.da.length/256):=by
  rw[show ((p.da.length:Int)/256)=((p.da.length/256:Nat):Int) by omega,Qep]
 have e2:Qy1 ((p.da.length:Int)%256)=QyP p.da.length:=by
  rw[show ((p.da.length:Int)%256)=((p.da.length%256:Nat):Int) by omega,Qep]
  apply Qzp.1
  rw[Qzl,Qzl,QAb]
 have hb2:bigB 2 p.da.length=[QyP (p.da.length/256),QyP p.da.length]:=rfl
 rw[e1,e2,frK,h8,QcN,hb2,fr3]
 generalize QyP (p.da.length/256)=x
 generalize QyP p.da.length=y
 have hI:=Qaq 8 p.id.toNat
 generalize bigB 8 p.id.toNat=I at *
 have hH:(Qym 16 0++[p.kd,Qy1 p.ix,Qy1 p.ct,0]:List UInt8).length=20:=by simp
 rw[←QyE,←QyE]
 generalize (Qym 16 0++[p.kd,Qy1 p.ix,Qy1 p.ct,0]:List UInt8)=H at *
 rw[show Qym 460 (0:UInt8)=Qym 8 0++([0,0]++(Qym p.da.length 0++Qym (450-p.da.length) 0)) by
  rw[show ([0,0]:List UInt8)=Qym 2 0 from rfl,Qzw,Qzw,Qzw]
  congr 1
  omega,Qby _ _ _ _ 20 hH (by rw[hI,Qyy])]
 rw[←QyE,QyW _ _ (by simp;omega),QyW _ _ (by simp;omega),Qyv,hH,hI]
 show putB ((H++I)++([x,y]++(Qym p.da.length 0++Qym (450-p.da.length) 0))) 30 p.da=_
 rw[←QyE,Qby _ _ _ _ 30 (by simp;omega) (by rw[Qyy])]
 simp only[QyE]
def frmR (p:Prt):List UInt8:=if prtE p=0 then QcN p else []
theorem QlM (p:Prt):(((Qym 480 (Value.int .u8 0)).set 16 (W8 p.kd)).set 17 (W8 (Qy1 p.ix))).set 18 (W8 (Qy1 p.ct))=(frK p 0).map W8:=by
 rw[QlD,←QlA,←Qbq,←Qbq,←Qbq,Qy4]
 rfl
set_option maxRecDepth 100000 in
set_option maxHeartbeats 4000000 in
theorem Qnj (p:Prt) (A:Option Addr) (n c:Nat) (w:World) (hr:RdB w A n p.da) (hn:n≤1048576):
 Calls Tryz.prog 20 #[.agg (PaC p (.slice A n c)).toArray] w fun e w'=>∃A' c',e= .returned (.tuple #[.slice A' (frmR p).length c',.int .i64 (prtE p:Nat)])∧OwnB w' w.heap.size A' (frmR p).length c' (frmR p)∧Later w w':=by
 have hl:=hr.len
 have hCk:=hid (fun w=>QmJ p A n c hl w)
 have hz:=hid (fun h=>Qdw (p:=p) h)
 have hR:Hid (frmR p=if prtE p=0 then QcN p else []):=hid rfl
 have C1:=Qbi w 25 (PaC p (.slice A n c))
 generalize frmR p=R at *
 generalize prtE p=E at *
 go_enter Tryz.func20,Tryz.ntmps20
 go_wp2_with (first
  | (refine Qed rfl _ rfl (C1.nth 0 rfl) rfl ?_)
  | fail)
 (refine (hCk.out _).mono ?_);rintro e w2 ⟨rfl,j2⟩
 have C2:=C1.later j2
 clear C1 j2
 by_cases h0:E=0
 ·subst h0
  have hz':=hid (hz.out (by trivial))
  have hR':=hid (hR.out.trans (if_pos (by trivial)))
  have hn450:n≤450:=by have:=hz'.out.2.1;omega
  have hend:=Qny p (by omega)
  rw[hl]at hend
  replace hend:=hid hend
  have hlb:=QbV p (by omega)
  have l0:(Qym 480 (Value.int .u8 0)).length=480:=by rw[Qyy]
  have e3:=hid (QlA p)
  obtain⟨c0,c1,c2,c3,c4⟩:=QaD (C2.nth 0 rfl)
  go_wp2_with (first
   | (refine Qar rfl _ _ _ rfl 5 _ 1 Tryz.underlying22 Qcg rfl _ _ _ _ 480 rfl rfl rfl rfl (by omega) (by omega) ?_;intro w3 hb3 hl3
      have C3:=C2.fresh hl3 (Qyw _) hb3
      obtain⟨c0,c1,c2,c3,c4⟩:=QaD (C3.nth 1 rfl))
   | (refine Qae rfl rfl _ _ _ rfl w2.heap.size 16 _ _ (C3.nth 0 rfl) rfl (by rw[l0];omega) rfl (by kernel_rfl) ?_;intro v4 w4 hv4 hb4 ho4;simp[go_sem]at hv4;subst hv4
      have C4:=C3.write 0 rfl ho4 hb4
      obtain⟨c0,c1,c2,c3,c4⟩:=QaD (C4.nth 1 rfl))
   | (refine Qae rfl rfl _ _ _ rfl w2.heap.size 17 _ _ (C4.nth 0 rfl) rfl (by rw[Qy2,l0];omega) rfl (by kernel_rfl) ?_;intro v5 w5 hv5 hb5 ho5;simp[go_sem]at hv5;subst hv5
      have C5:=C4.write 0 rfl ho5 hb5
      obtain⟨c0,c1,c2,c3,c4⟩:=QaD (C5.nth 1 rfl))
   | (refine Qae rfl rfl _ _ _ rfl w2.heap.size 18 _ _ (C5.nth 0 rfl) rfl (by rw[Qy2,Qy2,l0];omega) rfl (by kernel_rfl) ?_;intro v6 w6 hv6 hb6 ho6;simp[go_sem]at hv6;subst hv6
      have C6:=C5.write 0 rfl ho6 hb6)
   | fail)
  have fv:=hid (QlM p)
  have hC6:Bag w w6 [(w2.heap.size,5,(frK p 0).map W8),(w.heap.size,25,PaC p (.slice A n c))]:=by
   rw[←fv.out]
   exact C6
  clear C6 C5 C4 C3 C2 hb3 hb4 hb5 hb6 ho4 ho5 ho6 hl3 c0 c1 c2 c3 c4 fv e3
  generalize w2.heap.size=g at *
  go_loopw [6] (fun i wr=>∃k:Nat,k≤8∧i= .int .i64 k∧Bag w wr [(g,5,(frK p k).map W8),(w.heap.size,25,PaC p (.slice A n c))]) (fun i _=>8-(intOf i).toNat)
  case atStart=>exact⟨0,by omega,rfl,hC6⟩
  case round=>
   clear hC6
   obtain⟨k,hk,rfl,B1⟩:=hrel
   by_cases hlt:k<8
   ·have hlen:=QfL p k
    have c1:=(QaD (B1.nth 1 rfl)).2.1
    have hlg:=(B1.nth 1 rfl).lt
    have hst:=hid (QrJ p k hlt)
    have e20:((20:Int)+(k:Int)).toNat=20+k:=by omega
    have e56:((56:Int)-8*(k:Int)).toNat=56-8*k:=by omega
    go_wp2_with (first
     | (refine Qae rfl rfl _ _ _ rfl g (20+k) _ _ (B1.nth 0 rfl) rfl (by rw[Qyn,hlen];omega) rfl (by kernel_rfl) ?_;intro v6 w6 hv6 hb6 ho6;simp[go_sem]at hv6;subst hv6;rw[Qbq,hst.out]at hb6
        have B2:=B1.write 0 rfl ho6 hb6)
     | fail)
    go_roundw
    case rel=>exact⟨k+1,by omega,by go_num,B2⟩
    case measure=>simp[intOf];omega
   ·obtain rfl:k=8:=by omega
    have hlen:=QfL p 8
    obtain⟨c0,c1,c2,c3,c4⟩:=QaD (B1.nth 1 rfl)
    have hlg:=(B1.nth 1 rfl).lt
    go_wp2_with (first
     | (refine Qae rfl rfl _ _ _ rfl g 28 _ _ (B1.nth 0 rfl) rfl (by rw[Qyn,hlen];omega) rfl (by kernel_rfl) ?_;intro v6 w6 hv6 hb6 ho6;simp[go_sem]at hv6;subst hv6
        have B2:=B1.write 0 rfl ho6 hb6
        obtain⟨c0,c1,c2,c3,c4⟩:=QaD (B2.nth 1 rfl)
        have hlg:=(B2.nth 1 rfl).lt)
     | (refine Qae rfl rfl _ _ _ rfl g 29 _ _ (B2.nth 0 rfl) rfl (by rw[Qy2,Qyn,hlen];omega) rfl (by kernel_rfl) ?_;intro v7 w7 hv7 hb7 ho7;simp[go_sem]at hv7;subst hv7
        have B3:=(B2.write 0 rfl ho7 hb7).drew
        obtain⟨c0,c1,c2,c3,c4⟩:=QaD (B3.nth 1 rfl)
        have hlg:=(B3.nth 1 rfl).lt)
     | fail)
    refine Qaf [] [0,1,2,3] [4] (by as_aux_lemma=>kernel_rfl) (by as_aux_lemma=>kernel_rfl) (by intro _ _ d _ _ h;cases d<;>exact h) ?_
    simp only[Qaj,pick,Qyo,Qyp,Qyr,Qyu,Qyt]
    repeat (go_big_quiet_step (fail))
    refine wpQuiet_nil ?_
    go_wp2_with (first
     | (refine Qat rfl _ _ _ _ rfl 5 Tryz.underlying22 Qbv g 30 450 450 _ _ (B3.nth 0 rfl) A n c (p.da.map W8) (Rd.later hr B3.lat) (QaK _) rfl rfl (by rw[Qy2,Qy2,Qyn,hlen];omega) ?_;intro w8 hb8 ho8
        have B4:=B3.write 0 rfl ho8 hb8)
     | fail)
    rw[Qbq,Qbq,Qyx (by rw[Qyn];omega),Qb4,hend.out]at hb8
    go_ret2
    have ho:=QcJ hb8 (B3.at_low 0 rfl) (by rw[Qyn,hlb];omega)
    rw[Qyn,hlb]at ho
    exact⟨some ⟨g,0,none⟩,480,by rw[hR'.out,hlb];rfl,by rw[hR'.out,hlb];exact ho,B4.lat⟩
 ·have hne:((E:Int) != 0)=true:=by simp;omega
  have hR':=hid (hR.out.trans (if_neg h0))
  go_wp2
  go_ret2
  exact⟨none,0,by rw[hR'.out];rfl,by rw[hR'.out];exact Qdo _ _ _,C2.lat⟩
end Go.Proofs.YtdhgpkdjdmlphaaGreat
namespace Go.Proofs.YtdhgpkdjdmlphaaGreat
open Go.ChangeShapes Go.WideShapes Go.ChangeAt Go.RowKit
open _root_.Go.Proofs.YtdhgpkdjdmlphaaGreat.Rows (uptoBulk uptoBulkAll uptoSmall)
section
variable {H:Type} {enc:TypeId×Value→H} {w:World} {base b0:Nat} {sp:Nat→Bool} {held:Bool} {r:Reach}
set_option maxRecDepth 100000 in
theorem Qrj {fuel:Nat} {cs:List Value} {x:DataW H×List MemPlace} (h:DataW.trod enc Tryz.prog w base sp held fuel 76 cs=some x):∃y:Hp,cs=HC y:=by
 obtain⟨xs,m,rfl,rfl,hl,hxl,he⟩:=DataW.trod_struct Tryz.underlying76 h
 have hn:Tryz.prog.cellsOf 76=68:=by kernel_rfl
 have hN:Tryz.prog.cellsOf 74=66:=by kernel_rfl
 have hI:Tryz.prog.cellsOf 3=1:=by kernel_rfl
 rw[hn]at hl
 have hxl3:xs.length=3:=hxl
 have e0:DataW.trod enc Tryz.prog w base sp held m 74 ((cs.drop 0).take (Tryz.prog.cellsOf 74))=xs[0]?:=he 0 _ rfl
 have e1:DataW.trod enc Tryz.prog w base sp held m 3 ((cs.drop 66).take (Tryz.prog.cellsOf 3))=xs[1]?:=he 1 _ rfl
 have e2:DataW.trod enc Tryz.prog w base sp held m 3 ((cs.drop 67).take (Tryz.prog.cellsOf 3))=xs[2]?:=he 2 _ rfl
 rw[hN,Qyq (by omega)]at e0
 rw[hI,Qyq (by omega)]at e1 e2
 obtain⟨y,hy,_⟩:=Qq8 e0
 obtain⟨z1,hz1,_,_⟩:=DataW.trod_int Tryz.underlying3 e1
 obtain⟨z2,hz2,_,_⟩:=DataW.trod_int Tryz.underlying3 e2
 have c1:=Qdt hz1
 have c2:=Qdt hz2
 refine⟨⟨y,z1,z2⟩,?_⟩
 have hd:cs.drop 66=[.int .i64 z1,.int .i64 z2]:=by
  apply List.ext_getElem?
  intro i
  rw[QzC]
  rcases i with _|_|i
  ·exact c1
  ·exact c2
  ·rw[Qzq (by omega),Qzq (by simp)]
 rw[HC,←hd]
 rw[Qzn]at hy
 show cs=NC y++cs.drop 66
 rw[←hy,QyV]
theorem QnR {fuel:Nat} {v:Value} {x:DataW H×List MemPlace} (h:DataW.trod enc Tryz.prog w base sp held fuel 26 [v]=some x):
 ∃A n c xs,v= .slice A n c∧n≤c∧RdH w A n xs∧n+1≤uptoBulk x.1:=by
 rcases DataW.trod_slice Tryz.underlying26 h with ⟨hcs,rfl⟩|⟨a,len,cap,elems,rest,n,rfl,hcs,rfl,hb,hl,hm,hlen,hel,hsp,hns⟩
 ·obtain rfl:v= .slice none 0 0:=by simpa using hcs
  exact⟨none,0,0,[],rfl,Qyw _,QlW w,by simp[uptoBulk]⟩
 ·obtain rfl:v= .slice (some a) len cap:=by simpa using hcs
  have hc:Tryz.prog.cellsOf 76=68:=by kernel_rfl
  have each:∀i,∃y:Hp,i<len→w.cells? base (a.add (i*68)) 68=some (HC y):=by
   intro i
   by_cases hi:i<len
   ·have hE:=hel i hi
    rw[hc]at hE
    have hy:elems[i]?=some (elems[i]'(by omega)):=Qyq _
    rw[hy,Option.bind_eq_some_iff]at hE
    obtain⟨c1,hc1,hy1⟩:=hE
    obtain⟨y,rfl⟩:=Qrj hy1
    exact⟨y,fun _=>hc1⟩
   ·exact⟨hp0,fun h=>absurd h hi⟩
  obtain⟨f,hf⟩:=Classical.axiomOfChoice each
  have hfl:∀j,j<len→((Qzc len).map f).getD j hp0=f j:=by
   intro j hj
   rw[Qys,QyF,Qz3 hj]
   rfl
  have e2:=Ql7 (elems.map (·.1))
  rw[Qyn,hlen]at e2
  refine⟨some a,len,cap,(Qzc len).map f,rfl,hl,⟨by simp,fun h0=>?_⟩,?_⟩
  ·have e0:a.add (0*68)=a:=by simp[Addr.add]
   have h00:=(QhH (hf 0 h0)).2 0 (by omega)
   rw[e0]at h00
   have e1:a.add 0=a:=by simp[Addr.add]
   rw[e1,show (HC (f 0))[0]?=some (.string (f 0).nod.nm) from rfl]at h00
   obtain⟨h1,h2⟩:=Qjr h00
   obtain⟨b,o,s⟩:=a
   simp only at h1
   subst h1
   refine⟨b,o,rfl,h2,fun j i v hj hv=>?_⟩
   rw[hfl j hj]at hv
   have hi:i<68:=by
    have:=(QyC.1 hv).1
    rwa [QaZ]at this
   have:=(QhH (hf j hj)).2 i hi
   rw[Qc3,Qc3]at this
   rw[this]
   exact hv
  ·simp only[uptoBulk]
   omega
set_option maxRecDepth 100000 in
theorem Qoc {v:Value} {d:DataW H} {ps:List MemPlace} (ht:Tryz.prog.underlying 26=some (.slice 76)) (hval:Value.okWide Tryz.prog w r b0 26 v) (h:DataW.Trod enc Tryz.prog w base sp held 26 v d ps):
 ∃A n c xs,v= .slice A n c∧n≤c∧RdH w A n xs∧n+1≤uptoBulk d:=by
 obtain⟨A,n,c,rfl⟩:=okWide_slice ht hval
 obtain⟨f,hf⟩:=h
 obtain⟨A',n',c',ns,h1,h2,h3,h4⟩:=QnR hf
 exact⟨A',n',c',ns,h1,h2,h3,h4⟩
set_option maxRecDepth 100000 in
theorem QoQ {fuel:Nat} {cs:List Value} {x:DataW H×List MemPlace} (h:DataW.trod enc Tryz.prog w base sp held fuel 25 cs=some x):∃(p:Prt) (A:Option Addr) (n c:Nat),cs=PaC p (.slice A n c)∧RdB w A n p.da∧n+1≤uptoBulk x.1:=by
 obtain⟨xs,m,rfl,rfl,hl,hxl,he⟩:=DataW.trod_struct Tryz.underlying25 h
 have hn:Tryz.prog.cellsOf 25=5:=by kernel_rfl
 have h8:Tryz.prog.cellsOf 5=1:=by kernel_rfl
 have h64:Tryz.prog.cellsOf 23=1:=by kernel_rfl
 have hI:Tryz.prog.cellsOf 3=1:=by kernel_rfl
 have hB:Tryz.prog.cellsOf 22=1:=by kernel_rfl
 rw[hn]at hl
 have hxl5:xs.length=5:=hxl
 have e0:DataW.trod enc Tryz.prog w base sp held m 5 ((cs.drop 0).take (Tryz.prog.cellsOf 5))=xs[0]?:=he 0 _ rfl
 have e1:DataW.trod enc Tryz.prog w base sp held m 23 ((cs.drop 1).take (Tryz.prog.cellsOf 23))=xs[1]?:=he 1 _ rfl
 have e2:DataW.trod enc Tryz.prog w base sp held m 3 ((cs.drop 2).take (Tryz.prog.cellsOf 3))=xs[2]?:=he 2 _ rfl
 have e3:DataW.trod enc Tryz.prog w base sp held m 3 ((cs.drop 3).take (Tryz.prog.cellsOf 3))=xs[3]?:=he 3 _ rfl
 have e4:DataW.trod enc Tryz.prog w base sp held m 22 ((cs.drop 4).take (Tryz.prog.cellsOf 22))=xs[4]?:=he 4 _ rfl
 rw[h8,Qyq (by omega)]at e0
 rw[h64,Qyq (by omega)]at e1
 rw[hI,Qyq (by omega)]at e2 e3
 rw[hB,Qyq (by omega)]at e4
 obtain⟨z0,hz0,_,w0⟩:=DataW.trod_int Tryz.underlying5 e0
 obtain⟨z1,hz1,_,w1⟩:=DataW.trod_int Tryz.underlying23 e1
 obtain⟨z2,hz2,_,_⟩:=DataW.trod_int Tryz.underlying3 e2
 obtain⟨z3,hz3,_,_⟩:=DataW.trod_int Tryz.underlying3 e3
 have r0:0≤z0∧z0≤255:=by simpa [Lit.wf,IntKind.min,IntKind.max,IntKind.signed,IntKind.bits] using w0
 have r1:0≤z1∧z1≤18446744073709551615:=by simpa [Lit.wf,IntKind.min,IntKind.max,IntKind.signed,IntKind.bits] using w1
 match cs,hl with
 | [a,b,c,d,v],_=>
   simp only[Qzn,QzG,List.take_succ_cons,QAs]at hz0 hz1 hz2 hz3 e4
   obtain⟨A,n,cp,bs,rfl,h1,h2,h3,h4⟩:=QhM Tryz.underlying22 Tryz.underlying5 QsL e4
   obtain rfl:a=W8 (QyP z0.toNat):=by rw[←Qa5 z0 r0.1 (by omega)];simpa using hz0
   obtain rfl:b=W64 (QyO z1.toNat):=by rw[←QaN z1 r1.1 (by omega)];simpa using hz1
   obtain rfl:c= .int .i64 z2:=by simpa using hz2
   obtain rfl:d= .int .i64 z3:=by simpa using hz3
   refine⟨⟨QyP z0.toNat,QyO z1.toNat,z2,z3,bs⟩,A,n,cp,rfl,h3,?_⟩
   have hbl:=h3.len
   have:=Qlw (d:=xs[4].1) (l:=xs.map (·.1)) (Qzb.2 ⟨_,QzH _,rfl⟩)
   simp only[uptoBulk]
   omega
set_option maxRecDepth 100000 in
theorem Qpr {v:Value} {d:DataW H} {pl:List MemPlace} (hval:Value.okWide Tryz.prog w r b0 25 v) (h:DataW.Trod enc Tryz.prog w base sp held 25 v d pl):∃(p:Prt) (A:Option Addr) (n c:Nat),v= .agg (PaC p (.slice A n c)).toArray∧RdB w A n p.da∧n+1≤uptoBulk d:=by
 simp only[Value.okWide,Tryz.underlying25]at hval
 obtain⟨cs,rfl,h2,_⟩:=hval
 obtain⟨fuel,hf⟩:=h
 obtain⟨p,A,n,c,hy,h3,h4⟩:=QoQ hf
 have hy':cs.toList=PaC p (.slice A n c):=hy
 exact⟨p,A,n,c,by rw[←hy'],h3,h4⟩
end
end Go.Proofs.YtdhgpkdjdmlphaaGreat
