/-
  Lemmas for the last text of this claim (part 16 of 20).
-/
import Derived.ArgAppend
import Derived.BigQuiet
import Derived.BigRegion
import Derived.ChangeOld
import Derived.Deep.RegionWith
import Derived.DeepKeys4
import Derived.JoinedCond
import Derived.LaidMore
import Derived.Laws.CopyOwn
import Derived.Laws.Externs
import Derived.Laws.IdiomStrings
import Derived.Laws.Tables
import Derived.Lib.AppendStr
import Derived.Lib.AppendZerosOnto
import Derived.Lib.Mul64
import Derived.Lib.SlBytesConst
import Derived.LoopN
import Derived.Maps.OwnSet
import Derived.OpenShut
import Derived.OrdersHeld
import Derived.ProofKit
import Derived.Shelf.Spec.BitsCarry
import Derived.ShutString
import Derived.Test.YtcbdgnlcknllnaaGreatProg
import Derived.Test.YtcbdgnlcknllnaaGreatRows
import Derived.WalkKit
import Derived.WalkLawsBesides
import Derived.WalkSpells
import Derived.Test.YtcbdgnlcknllnaaGreatQC
import Derived.Test.YtcbdgnlcknllnaaGreatQE
import Derived.Test.YtcbdgnlcknllnaaGreatQH
import Derived.Test.YtcbdgnlcknllnaaGreatQJ
import Derived.Test.YtcbdgnlcknllnaaGreatQK
import Derived.Test.YtcbdgnlcknllnaaGreatQL
import Derived.Test.YtcbdgnlcknllnaaGreatQM
open Bool renaming and_eq_true → QyH, not_eq_true' → QzC, or_eq_true → QAn
open List renaming replicate → Qyl, getElem?_cons_succ → Qym, getElem?_cons_zero → Qyn, length_map → Qyo, getElem?_eq_getElem → Qyq, nil_append → Qyr, cons_append → Qys, getD_eq_getElem?_getD → Qyt, setIfInBounds_toArray → Qyu, map_toArray → Qyw, set_cons_zero → Qyx, set_cons_succ → Qyy, take_of_length_le → QyA, getElem?_eq_some_iff → QyB, map_nil → QyD, getElem?_map → QyF, getElem?_append_left → QyG, mem_cons → QyI, map_cons → QyJ, range → Qy0, mem_map → Qy1, map_replicate → Qy5, all_eq_true → Qy6, mem_append → Qy8, take_append_drop → Qy9, drop_left' → Qzh, getElem_mem → Qzk, getElem?_eq_none → Qzo, mem_range → Qzr, drop_succ_cons → QzB, getElem?_take → QzO, getElem?_drop → QzP, getElem?_range → QzX, any_eq_true → Qz6, take_left' → QAo
open Nat renaming le_refl → Qyv, le_trans → QyX, mul_one → Qzb, lt_or_ge → Qzn
open Option renaming toList_some → Qyp
open UInt64 renaming ofNat → QyM
set_option linter.all false
namespace Go.Proofs.YtcbdgnlcknllnaaGreat
open Go.RowKit
open Go.BigFrame
def okAt (s:ByteArray) (k:Nat):Bool:=
 if h:k<s.size then (decide (97≤s[k].toNat)&&decide (s[k].toNat≤122))||(decide (48≤s[k].toNat)&&decide (s[k].toNat≤57)&&decide (0<k)) else true
def Qek (s:ByteArray):Bool:=decide (1≤s.size)&&decide (s.size≤16)&&(Qy0 s.size).all (okAt s)
theorem Qlk (s:ByteArray) (k:Nat) (h:k<s.size):okAt s k=true↔(97≤(s[k].toNat:Int)∧(s[k].toNat:Int)≤122)∨(48≤(s[k].toNat:Int)∧(s[k].toNat:Int)≤57∧0<k):=by
 rw[okAt,dif_pos h]
 simp only[QAn,QyH,decide_eq_true_eq]
 omega
theorem Qfo (s:ByteArray):Qek s=true↔1≤s.size∧s.size≤16∧∀j,j<s.size→okAt s j=true:=by
 rw[Qek]
 simp only[QyH,decide_eq_true_eq,Qy6,Qzr,and_assoc]
theorem QmC {s:ByteArray} (h: ¬(s.size<1∨16<s.size)) (hj:∀j,j<s.size→okAt s j=true):Qek s=true:=(Qfo s).2 ⟨by omega,by omega,hj⟩
theorem Qma {s:ByteArray} (h:s.size<1∨16<s.size):Qek s=false:=by
 rcases Bool.eq_false_or_eq_true (Qek s) with e|e
 ·have:=(Qfo s).1 e
  omega
 ·exact e
theorem Qnc {s:ByteArray} {k:Nat} (h:k<s.size) (hn: ¬((97≤(s[k].toNat:Int)∧(s[k].toNat:Int)≤122)∨(48≤(s[k].toNat:Int)∧(s[k].toNat:Int)≤57∧0<k))):Qek s=false:=by
 rcases Bool.eq_false_or_eq_true (Qek s) with e|e
 ·exact absurd ((Qlk s k h).1 (((Qfo s).1 e).2.2 k h)) hn
 ·exact e
theorem Qn1 {s:ByteArray} {k:Nat} (h:k<s.size) (hp:∀j,j<k→okAt s j=true) (hn:(97≤(s[k].toNat:Int)∧(s[k].toNat:Int)≤122)∨(48≤(s[k].toNat:Int)∧(s[k].toNat:Int)≤57∧0<k)):∀j,j<k+1→okAt s j=true:=by
 intro j hj
 rcases Qzn j k with h1|h1
 ·exact hp j h1
 ·obtain rfl:j=k:=by omega
  exact (Qlk s j h).2 hn
set_option maxRecDepth 100000 in
theorem Qhg (s:ByteArray) (w:World) (hs:s.size≤140737488355328):
 Calls Tryz.prog 57 #[.string s] w fun e w'=>e= .returned (.bool (Qek s))∧Later w w':=by
 go_enter Tryz.func57,Tryz.ntmps57
 by_cases hb:s.size<1∨16<s.size
 ·have hbb:(decide ((s.size:Int)<1)||decide (16<(s.size:Int)))=true:=by simp;omega
  rw[Qma hb]
  go_wp2
  all_goals
   go_ret
   exact⟨rfl,Later.refl w⟩
 ·go_wp2
  go_loopw [3,4,5,6] (fun i _ _ _ wr=>∃k:Nat,i= .int .i64 k∧k≤s.size∧(∀ j,j<k→okAt s j=true)∧Later w wr) (fun i _ _ _ _=>s.size-(intOf i).toNat)
  case atStart=>exact⟨0,rfl,by omega,fun j hj=>absurd hj (by omega),Later.refl w⟩
  case round=>
   obtain⟨k,rfl,hk,hp,hl⟩:=hrel
   by_cases hlt:k<s.size
   ·go_wp2
    all_goals
     try simp only[QzC,Bool.not_eq_false',decide_eq_true_eq,decide_eq_false_iff_not]at *
     first
      | exact⟨⟨k+1,rfl,by omega,Qn1 hlt hp (by omega),hl⟩,by simp[intOf];omega⟩
      | (go_ret;refine⟨?_,hl⟩;rw[Qnc hlt (by omega)];rfl)
   ·obtain rfl:k=s.size:=by omega
    go_wp2
    go_ret
    refine⟨?_,hl⟩
    rw[QmC hb hp]
    rfl
structure Nod where
 nm:ByteArray
 id:UInt64
 priv:Y32
 pub:Y32
def QsV:Y32:=⟨Qyl 32 0,by simp⟩
def nod0:Nod:=⟨.empty,0,QsV,QsV⟩
def NC (x:Nod):List Value:=.string x.nm :: W64 x.id :: (x.priv.val.map W8++x.pub.val.map W8)
theorem QaR (x:Nod):(NC x).length=66:=by simp[NC,x.priv.2,x.pub.2]
theorem Qvb (x:Nod):∀u∈NC x,u.oneCell'=true:=by
 intro u hu
 simp only[NC,QyI,Qy8,Qy1]at hu
 rcases hu with rfl|rfl|⟨b,_,rfl⟩|⟨b,_,rfl⟩<;>rfl
abbrev RdN:World→Option Addr→Nat→List Nod→Prop:=RdF NC 66 nod0
theorem QpY {w:World} {A:Option Addr} {n:Nat} {xs:List Nod} (h:RdN w A n xs) {k:Nat} (hk:k<n):
 ∃b o,A=some ⟨b,o,none⟩∧b<w.heap.size∧w.cell? ⟨b,o+k*66,none⟩=some (.string (xs.getD k nod0).nm)∧w.cell? ⟨b,o+k*66+1,none⟩=some (W64 (xs.getD k nod0).id):=by
 obtain⟨b,o,hA,hb,hc⟩:=h.at_ hk
 exact⟨b,o,hA,hb,hc 0 _ rfl,hc 1 _ rfl⟩
theorem Quh (x:Nod) {j:Nat} {v:Value} (h:(x.priv.val.map W8)[j]?=some v):(NC x)[2+j]?=some v:=by
 have hj:j<(x.priv.val.map W8).length:=(QyB.1 h).1
 rw[NC,show 2+j=j+1+1 by omega,Qym,Qym,QyG hj]
 exact h
def badN (x:Nod):Bool:=x.id==0|| !Qek x.nm
def QiA (x y:Nod):Bool:=x.nm.toList==y.nm.toList||x.id==y.id
def QoK (xs:List Nod) (i:Nat):Bool:=(Qy0 i).any fun j=>QiA (xs.getD i nod0) (xs.getD j nod0)
def Qbi (xs:List Nod):Nat:=if 64<xs.length then 2 else if xs.any badN then 3 else if (Qy0 xs.length).any (QoK xs) then 4 else 0
theorem QrO {xs:List Nod} {p:Nod→Bool} {k:Nat} (hk:k<xs.length) (h:p (xs.getD k nod0)=true):xs.any p=true:=by
 rw[Qz6]
 refine⟨_,Qzk hk,?_⟩
 rwa [Qyt,Qyq hk]at h
theorem QjB {xs:List Nod} {p:Nod→Bool} (h:∀k,k<xs.length→p (xs.getD k nod0)=false):xs.any p=false:=by
 rw[List.any_eq_false]
 intro x hx
 obtain⟨k,hk,rfl⟩:=List.getElem_of_mem hx
 have:=h k hk
 rw[Qyt,Qyq hk]at this
 simpa using this
theorem Qga {n:Nat} {p:Nat→Bool} (h:∀k,k<n→p k=false):(Qy0 n).any p=false:=by
 rw[List.any_eq_false]
 intro k hk
 rw[h k (Qzr.1 hk)]
 decide
theorem Qhv {n k:Nat} {p:Nat→Bool} (hk:k<n) (h:p k=true):(Qy0 n).any p=true:=Qz6.2 ⟨k,Qzr.2 hk,h⟩
theorem QmT {xs:List Nod} (h:64<xs.length):Qbi xs=2:=by rw[Qbi,if_pos h]
theorem QmY {xs:List Nod} {k:Nat} (h: ¬ 64<xs.length) (hk:k<xs.length) (hb:badN (xs.getD k nod0)=true):Qbi xs=3:=by rw[Qbi,if_neg h,if_pos (QrO hk hb)]
theorem Qng {xs:List Nod} {i j:Nat} (h: ¬ 64<xs.length) (hf:∀k,k<xs.length→badN (xs.getD k nod0)=false) (hi:i<xs.length) (hj:j<i) (hs:QiA (xs.getD i nod0) (xs.getD j nod0)=true):Qbi xs=4:=by
 rw[Qbi,if_neg h,if_neg (by rw[QjB hf];decide),if_pos (Qhv hi (Qhv hj hs))]
theorem Qq7 {xs:List Nod} (h: ¬ 64<xs.length) (hf:∀k,k<xs.length→badN (xs.getD k nod0)=false) (hd:∀k,k<xs.length→QoK xs k=false):Qbi xs=0:=by
 rw[Qbi,if_neg h,if_neg (by rw[QjB hf];decide),if_neg (by rw[Qga hd];decide)]
theorem Qtc {xs:List Nod} {k:Nat} (hk:k<xs.length):xs.getD k nod0∈xs:=by
 rw[Qyt,Qyq hk]
 exact Qzk hk
set_option maxRecDepth 100000 in
theorem Qh1 (A:Option Addr) (n c:Nat) (xs:List Nod) (w:World) (hx:RdN w A n xs) (hn:n≤1099511627776) (hs:∀x∈xs,x.nm.size≤140737488355328):
 Calls Tryz.prog 32 #[.slice A n c] w fun e w'=>e= .returned (.int .i64 (Qbi xs:Nat))∧Later w w':=by
 have hl0:=hx.1
 go_enter Tryz.func32,Tryz.ntmps32
 by_cases h64:64<n
 ·go_wp2
  go_ret
  exact⟨by rw[QmT (by omega)];rfl,Later.refl w⟩
 ·go_wp2
  go_loopw [3,11] (fun _ i wr=>∃k:Nat,i= .int .i64 k∧k≤n∧(∀ j,j<k→badN (xs.getD j nod0)=false)∧Later w wr) (fun _ i _=>n-(intOf i).toNat)
  case atStart=>exact⟨0,rfl,by omega,fun j hj=>absurd hj (by omega),Later.refl w⟩
  case round=>
   obtain⟨k,rfl,hk,hp,hl⟩:=hrel
   by_cases hlt:k<n
   ·obtain⟨b,o,rfl,hb,hc0,hc1⟩:=QpY (hx.later hl) hlt
    have hwf:=hid (Qhg (xs.getD k nod0).nm wr (hs _ (Qtc (by omega))))
    have hbad:=hid (fun (h:badN (xs.getD k nod0)=true)=>QmY (xs:=xs) (by omega) (by omega) h)
    have hgood:=hid (fun (h:badN (xs.getD k nod0)=false)=>Qdd (p:=fun j=>badN (xs.getD j nod0)=false) hp h)
    generalize xs.getD k nod0=x at *
    clear hp
    by_cases hid0:x.id=0
    ·go_wp2
     go_ret
     exact⟨by rw[hbad.out (by rw[badN,hid0];rfl)];rfl,hl⟩
    ·have hid1:(x.id==0)=false:=by simpa using hid0
     go_wp2_with fail
     refine (hwf.out).mono ?_
     rintro e w1 ⟨rfl,hl1⟩
     cases hok:Qek x.nm
     ·go_wp2
      go_ret
      exact⟨by rw[hbad.out (by rw[badN,hok,Bool.not_false,Bool.or_true])];rfl,hl.trans hl1⟩
     ·go_wp2
      exact⟨⟨k+1,rfl,by omega,hgood.out (by rw[badN,hid1,hok];rfl),hl.trans hl1⟩,by simp[intOf];omega⟩
   ·obtain rfl:k=n:=by omega
    replace hp:=hid (show ∀j,j<xs.length→badN (xs.getD j nod0)=false by rw[hl0];exact hp)
    go_wp2
    go_loopw [4,5,32] (fun _ _ i wr=>∃m:Nat,i= .int .i64 m∧m≤k∧Hid (∀ j,j<m→QoK xs j=false)∧Later w wr) (fun _ _ i _=>k-(intOf i).toNat)
    case atStart=>exact⟨0,rfl,by omega,hid (fun j hj=>absurd hj (by omega)),hl⟩
    case round=>
     clear hl
     obtain⟨i,rfl,hi,hq,hl⟩:=hrel
     by_cases hik:i<k
     ·go_wp2
      go_loopw [5] (fun j wr=>∃m:Nat,j= .int .i64 m∧m≤i∧Hid (∀ j,j<m→QiA (xs.getD i nod0) (xs.getD j nod0)=false)∧Later w wr) (fun j _=>i-(intOf j).toNat)
      case atStart=>exact⟨0,rfl,by omega,hid (fun j hj=>absurd hj (by omega)),hl⟩
      case round=>
       clear hl
       obtain⟨m,rfl,hm,hr,hl⟩:=hrel
       by_cases hmi:m<i
       ·obtain⟨b,o,rfl,hb,hi0,hi1⟩:=QpY (hx.later hl) hik
        obtain⟨b',o',he,hb',hm0,hm1⟩:=QpY (hx.later hl) (show m<k by omega)
        simp only[Option.some.injEq,Addr.mk.injEq,and_true]at he
        obtain⟨rfl,rfl⟩:=he
        have hdup:=hid (fun (h:QiA (xs.getD i nod0) (xs.getD m nod0)=true)=>Qng (xs:=xs) (by omega) hp.out (by omega) hmi h)
        have hgood:=hid (fun (h:QiA (xs.getD i nod0) (xs.getD m nod0)=false)=>Qdd (p:=fun j=>QiA (xs.getD i nod0) (xs.getD j nod0)=false) hr.out h)
        generalize xs.getD i nod0=x at *
        generalize xs.getD m nod0=y at *
        cases hnm:(x.nm.toList==y.nm.toList)
        ·go_wp2_with fail
         refine Qad [] [0,1,2,3,4,5,6,7,8,9,10,11,12,13,14,15,16,17,18,19,20,21,22,23] [] (by as_aux_lemma=>kernel_rfl) (by as_aux_lemma=>kernel_rfl) (by intro _ _ d _ _ h;cases d<;>exact h) ?_
         simp only[Qaj,pick,Qym,Qyn,Qyp,Qys,Qyr]
         repeat (go_big_quiet_step (fail))
         refine wpQuiet_nil ?_
         cases hie:(x.id==y.id)
         ·go_wp2
          exact⟨⟨m+1,rfl,by omega,hid (hgood.out (by rw[QiA,hnm,hie];rfl)),hl.trans (Qab _)⟩,by simp[intOf];omega⟩
         ·go_wp2
          go_ret
          exact⟨by rw[hdup.out (by rw[QiA,hnm,hie];rfl)];rfl,hl.trans (Qab _)⟩
        ·go_wp2_with fail
         refine Qad [] [0,1,2,3,4,5,6,7,8,9,10,11,12,13,14,15,16,17,18,19,20,21,22,23] [] (by as_aux_lemma=>kernel_rfl) (by as_aux_lemma=>kernel_rfl) (by intro _ _ d _ _ h;cases d<;>exact h) ?_
         simp only[Qaj,pick,Qym,Qyn,Qyp,Qys,Qyr]
         repeat (go_big_quiet_step (fail))
         refine wpQuiet_nil ?_
         go_wp2
         go_ret
         exact⟨by rw[hdup.out (by rw[QiA,hnm];rfl)];rfl,hl.trans (Qab _)⟩
       ·obtain rfl:m=i:=by omega
        have hnext:Hid (∀ j,j<m+1→QoK xs j=false):=hid (Qdd (p:=fun j=>QoK xs j=false) hq.out (Qga hr.out))
        go_wp2
        exact⟨⟨m+1,rfl,by omega,hnext,hl⟩,by simp[intOf];omega⟩
     ·obtain rfl:i=k:=by omega
      go_wp2
      go_ret
      refine⟨?_,hl⟩
      rw[Qq7 (by omega) hp.out (by rw[hl0];exact hq.out)]
      rfl
set_option maxRecDepth 100000 in
theorem QkB (K:List UInt8) (hK:K.length=32) (w:World):
 Calls Tryz.prog 60 #[.agg (K.map W8).toArray] w fun e w'=>∃g,e= .returned (.slice (some ⟨g,0,none⟩) 32 32)∧w.heap.size≤g∧Blk w' g 5 (K.map W8)∧Later w w':=by
 have hb0:Blk (w.alloc (.cells (K.map W8).toArray 45)) w.heap.size 45 (K.map W8):=Blk.new _ _ _
 go_enter Tryz.func60,Tryz.ntmps60
 go_wp2_with (first
  | (refine QaT rfl _ _ 25 rfl 5 (.int .u8 0) 1 Tryz.underlying25 QcG rfl _ _ _ _ 32 rfl rfl rfl rfl (by omega) (by omega) ?_;intro w2 hb2 hl2;rw[show (w.alloc (.cells (K.map W8).toArray 45)).heap.size=w.heap.size+1 by simp]at hb2)
  | (refine QsU 0 32 rfl _ _ _ _ rfl 5 Tryz.underlying25 Qbo (show Blk w2 (w.heap.size+1) 5 ((Qyl 32 0).map W8) by (rw [Qy5];exact hb2)) (QgB (hb0.later hl2) hK) rfl rfl (by simp) ?_;intro w3 hb3 ho3;rw[QlZ _ _ (by simpa using hK)]at hb3)
  | fail)
 go_ret
 exact⟨w.heap.size+1,rfl,by omega,hb3,((Qaa _ _).trans hl2).only ho3 (by omega)⟩
section
variable {ops:Array Oper} {rest:List Oper} {o:Oper} {a:Act} {w:World} {Q:Exit→Act→World→Prop}
theorem Qth (hgd:Region.wanted o (yielded ops a.tmps)=true) (x:Operand) (ho:o.op= .load 45 x) {g off:Nat} {K:List UInt8} (hc:∀j v,(K.map W8)[j]?=some v→w.cell? ⟨g,off+j,none⟩=some v) (hl:K.length=32) (hx:a.eval x= .pointer (some ⟨g,off,none⟩))
 (h:wpList Tryz.prog ops Q rest (a.put o.dst (.agg (K.map W8).toArray)) w):wpList Tryz.prog ops Q (o :: rest) a w:=
 Qam hgd _ x ho g off _ hc hx _ Tryz.underlying45 rfl (by rw[Qyo,hl];exact Qb5) h
end
def pubK (K:List UInt8):List UInt8:=QdO K (nb 9)
theorem Qk9 (K:List UInt8):(pubK K).length=32:=Qbw _ _
def Qxi:List UInt8:=[110,111,100,101]
def keyK (seed:List UInt8) (s:ByteArray):List UInt8:=expB (Qbk Qxi seed) (strB s) 32
theorem QkK (seed:List UInt8) (s:ByteArray):(keyK seed s).length=32:=Qg2 _ _ _
def keyY (seed:List UInt8) (s:ByteArray):Y32:=⟨keyK seed s,QkK seed s⟩
def pubY (K:List UInt8):Y32:=⟨pubK K,Qk9 K⟩
def keyed (seed:List UInt8) (i:Nat) (s:ByteArray):Nod:=⟨s,QyM (i+1),keyY seed s,pubY (keyK seed s)⟩
theorem Qc3 {P:Program} {t:TypeId} {d:TypeDesc} {k:Nat} {v:Value} (hu:P.underlying t=some d) (hd:Qa8 d=false) {zs:List Value} (hz:zs[k]?=some v) (w:World):(part t zs.toArray k).run P w= .ok v w:=by
 have ha:(isAgg t).run P w= .ok false w:=by
  unfold isAgg
  simp only[Sem.run_bind,run_underlying hu]
  cases d<;>simp_all [Qa8]
 unfold part
 simp[Sem.run_bind,ha,Result.andThen_ok,hz]
theorem Qi5 {P:Program} {d k:Nat} {t:TypeId} {f:Field} {fs:List Field} (hf:f.type=t) (hu:P.underlying t=some .string) (hn:f.name≠ "_") {xs ys:List Value} {p q:ByteArray} (ho:f.offset=k) (hp:xs[k]?=some (.string p)) (hq:ys[k]?=some (.string q)) (w:World):
 (Op.eqFields (d+1) xs.toArray ys.toArray (f :: fs)).run P w=if p.toList==q.toList then (Op.eqFields (d+1) xs.toArray ys.toArray fs).run P w else .ok false w:=by
 rw[Op.eqFields,if_pos hn]
 simp only[Sem.run_bind,hf,ho,Qc3 hu rfl hp,Qc3 hu rfl hq,Result.andThen_ok,run_equalIn_string w d t p q hu]
 cases p.toList==q.toList<;>simp
theorem Qh9 {P:Program} {d k:Nat} {t:TypeId} {f:Field} {fs:List Field} (hf:f.type=t) (hu:P.underlying t=some (.int .u64)) (hn:f.name≠ "_") {xs ys:List Value} {p q:UInt64} (ho:f.offset=k) (hp:xs[k]?=some (W64 p)) (hq:ys[k]?=some (W64 q)) (w:World):
 (Op.eqFields (d+1) xs.toArray ys.toArray (f :: fs)).run P w=if p==q then (Op.eqFields (d+1) xs.toArray ys.toArray fs).run P w else .ok false w:=by
 rw[Op.eqFields,if_pos hn]
 simp only[Sem.run_bind,hf,ho,Qc3 hu rfl hp,Qc3 hu rfl hq,Result.andThen_ok,Qf8 t _ hu d p q w]
 cases p==q<;>simp
def Qno (x y:Nod):Bool:=x.nm.toList==y.nm.toList&&(x.id==y.id&&(x.priv.val==y.priv.val&&x.pub.val==y.pub.val))
@[go_sem] theorem Qms (x:Nod):Qno x x=true:=by simp[Qno]
theorem Qjw (x:Nod):((NC x).drop 2).take 32=x.priv.val.map W8:=by
 have h1:(x.priv.val.map W8).length=32:=by rw[Qyo,x.priv.2]
 rw[NC,QzB,QzB,List.drop_zero,QAo h1]
theorem QlL (x:Nod):((NC x).drop 34).take 32=x.pub.val.map W8:=by
 have h1:(x.priv.val.map W8).length=32:=by rw[Qyo,x.priv.2]
 rw[NC,show (34:Nat)=32+1+1 from rfl,QzB,QzB,Qzh h1,QyA (by rw[Qyo,x.pub.2];omega)]
set_option maxRecDepth 100000 in
theorem Qgs (x y:Nod) (w:World) {fs:Array Field} (hu:Tryz.prog.underlying 47=some (.struct fs)):(Op.eqFields 9999 (NC x).toArray (NC y).toArray fs.toList).run Tryz.prog w= .ok (Qno x y) w:=by
 rw[Tryz.underlying47]at hu
 cases hu
 rw[Qi5 (d:=9998) (k:=0) rfl Tryz.underlying9 (by decide) rfl rfl rfl,Qh9 (d:=9998) (k:=1) rfl Tryz.underlying24 (by decide) rfl rfl rfl,
  Qbn (d:=9997) (k:=2) rfl (by decide) rfl (Qjw x) (Qjw y) x.priv.2 y.priv.2,Qbn (d:=9997) (k:=34) rfl (by decide) rfl (QlL x) (QlL y) x.pub.2 y.pub.2,Qch]
 rw[Qno]
 cases x.nm.toList==y.nm.toList<;>cases x.id==y.id<;>cases x.priv.val==y.priv.val<;>cases x.pub.val==y.pub.val<;>rfl
theorem Qtx:Tryz.prog.eqGuardType Tryz.prog.depth 47=false:=by kernel_rfl
@[go_sem high] theorem QtH (op:BinOp) (x y:Operand) (xs ys:Array Value) (w:World):(eqGuard op 47 x y (.agg xs) (.agg ys)).run Tryz.prog w= .ok () w:=run_eqGuard_agg w op _ x y xs ys Qtx
set_option maxRecDepth 100000 in
@[go_sem high] theorem QtY (x y:Nod) (w:World):(binOp .eql 47 (.agg (NC x).toArray) (.agg (NC y).toArray)).run Tryz.prog w= .ok (.bool (Qno x y)) w:=by
  rw[QeQ Tryz.underlying47 (by kernel_rfl),Qgs x y w Tryz.underlying47]
  rfl
set_option maxRecDepth 100000 in
@[go_sem high] theorem Que (x y:Nod) (w:World):(binOp .neq 47 (.agg (NC x).toArray) (.agg (NC y).toArray)).run Tryz.prog w= .ok (.bool (!Qno x y)) w:=by
  rw[Qgk Tryz.underlying47 (by kernel_rfl),Qgs x y w Tryz.underlying47]
  rfl
theorem Qsp:(Tryz.prog.info? 47).map (·.size)=some 66:=by kernel_rfl
section
variable {ops:Array Oper} {rest:List Oper} {o:Oper} {a:Act} {w:World} {Q:Exit→Act→World→Prop}
theorem QqL (hgd:Region.wanted o (yielded ops a.tmps)=true) (x:Operand) (ho:o.op= .load 47 x) {g off:Nat} {y:Nod} (hc:∀i v,(NC y)[i]?=some v→w.cell? ⟨g,off+i,none⟩=some v) (hx:a.eval x= .pointer (some ⟨g,off,none⟩))
 (h:wpList Tryz.prog ops Q rest (a.put o.dst (.agg (NC y).toArray)) w):wpList Tryz.prog ops Q (o :: rest) a w:=
 Qam hgd _ x ho g off _ hc hx _ Tryz.underlying47 rfl (by rw[QaR];exact Qsp) h
theorem QjU {J:Act→Prop} (x:Operand) (ho:o.op= .load 47 x) {w0:World} {g off:Nat} {y:Nod} (hc:∀i v,(NC y)[i]?=some v→w0.cell? ⟨g,off+i,none⟩=some v) (hg:g<w0.heap.size) (hx:a.eval x= .pointer (some ⟨g,off,none⟩)) (h:J (a.put o.dst (.agg (NC y).toArray))):
 o.quiet Tryz.prog a (fun w'=>∃x,w'=grow w0 x) J:=
 QaQ _ x ho g off (NC y) (fun w' hw j v hv=>by obtain⟨y,rfl⟩:=hw;exact ((Later.below ⟨y,rfl⟩).cell (p:=⟨g,off+j,none⟩) hg).trans (hc j v hv)) hx _ Tryz.underlying47 rfl (by rw[QaR];exact Qsp) h
end
set_option maxRecDepth 100000 in
theorem Quw (A B:Option Addr) (n c d:Nat) (xs:List Nod) (w:World) (hx:RdN w A n xs) (hy:RdN w B n xs) (hn:n≤1099511627776):
 Calls Tryz.prog 21 #[.slice A n c,.slice B n d] w fun e w'=>e= .returned (.bool true)∧Later w w':=by
 have hl0:=hx.1
 go_enter Tryz.func21,Tryz.ntmps21
 go_wp2
 go_loopw [5] (fun i wr=>∃k:Nat,i= .int .i64 k∧k≤n∧Later w wr) (fun i _=>n-(intOf i).toNat)
 case atStart=>exact⟨0,rfl,by omega,Later.refl w⟩
 case round=>
  obtain⟨k,rfl,hk,L⟩:=hrel
  by_cases hlt:k<n
  ·obtain⟨b,o,rfl,hb,hc⟩:=(hx.later L.drew).at_ hlt
   obtain⟨b',o',rfl,hb',hc'⟩:=(hy.later L.drew).at_ hlt
   generalize xs.getD k nod0=x at *
   have hself:=Qms x
   go_wp2_with fail
   refine Qad [] [0,1,2,3,4,5,6,7,8] [] (by as_aux_lemma=>kernel_rfl) (by as_aux_lemma=>kernel_rfl) (by intro _ _ d _ _ h;cases d<;>exact h) ?_
   simp only[Qaj,pick,Qym,Qyn,Qyp,Qys,Qyr]
   repeat (first|go_big_quiet_skip|(go_big_quiet_want;(first|refine QjU _ rfl hc hb rfl ?_|refine QjU _ rfl hc' hb' rfl ?_);simp only[Act.put,Qyu,Qyy,Qyx];go_big_quiet_on)|(go_big_quiet_step (fail)))
   refine wpQuiet_nil ?_
   go_wp2
   exact⟨⟨k+1,by go_num,by omega,L.drew⟩,by simp[intOf];omega⟩
  ·obtain rfl:k=n:=by omega
   go_wp2
   go_ret
   exact⟨rfl,L⟩
theorem QuV:(Tryz.prog.info? 106).bind (·.zero)=some (.agg (NC nod0).toArray):=by kernel_rfl
theorem Qdp:(Tryz.prog.info? 106).map (·.size)=some 66:=by kernel_rfl
theorem Qmj (l:List Value) (x:Nod) (h:l.length=66):Qan l 0 (NC x)=NC x:=Qap _ _ (by rw[QaR,h])
theorem Qku (x:Nod):Tryz.prog.built 106 [(0,.agg (NC x).toArray)]=some (NC x).toArray:=by
 rw[QaN (pl:=[(0,66)]) Tryz.underlying106 QuV (by kernel_rfl),QaH (vs:=NC x) (off:=0) rfl (by rw[QaR];rfl) (by rw[QaR,QaR];omega),Qbs,Qmj _ _ (QaR _)]
theorem QfF:Tryz.prog.built 106 []=some (NC nod0).toArray:=by
 rw[QaN (pl:=[(0,66)]) Tryz.underlying106 QuV (by kernel_rfl),Qbs]
section
variable {ops:Array Oper} {rest:List Oper} {o:Oper} {a:Act} {w:World} {Q:Exit→Act→World→Prop}
theorem QdW {ty:TypeId} (hi:(Tryz.prog.info? ty).map (·.size)=some 66) (hgd:o.guard=none) (hd:o.dst=none) (x y:Operand) (ho:o.op= .store ty x y) {g:Nat} {t:TypeId} {l:List Value} {z:Nod} (hg:Blk w g t l) (hx:a.eval x= .pointer (some ⟨g,0,none⟩)) (hy:a.eval y= .agg (NC z).toArray) (hl:l.length=66)
 (h:∀w',Blk w' g t (NC z)→Only g w w'→wpList Tryz.prog ops Q rest a w'):wpList Tryz.prog ops Q (o :: rest) a w:=
 Qae hgd hd _ x y ho g t l _ hg hx hy 66 hi (QaR _) hl (Qvb _) h
theorem Qks {J:Act→Prop} (x:Operand) (ho:o.op= .load 106 x) {w0:World} {g off:Nat} {y:Nod} (hc:∀i v,(NC y)[i]?=some v→w0.cell? ⟨g,off+i,none⟩=some v) (hg:g<w0.heap.size) (hx:a.eval x= .pointer (some ⟨g,off,none⟩)) (h:J (a.put o.dst (.agg (NC y).toArray))):
 o.quiet Tryz.prog a (fun w'=>∃x,w'=grow w0 x) J:=
 QaQ _ x ho g off (NC y) (fun w' hw j v hv=>by obtain⟨y,rfl⟩:=hw;exact ((Later.below ⟨y,rfl⟩).cell (p:=⟨g,off+j,none⟩) hg).trans (hc j v hv)) hx _ Tryz.underlying106 rfl (by rw[QaR];exact Qdp) h
end
def Qhr (p:Nod→Bool) (xs:List Nod):Nod×Nat:=match xs.find? p with|some x=>(x,0)|none=>(nod0,4)
theorem QrE {xs:List Nod} {p:Nod→Bool} {k:Nat} (hk:k<xs.length) (hp:∀j,j<k→p (xs.getD j nod0)=false) (h:p (xs.getD k nod0)=true):Qhr p xs=(xs.getD k nod0,0):=by
 have:xs.find? p=some (xs.getD k nod0):=by
  rw[List.find?_eq_some_iff_getElem]
  refine⟨h,k,hk,by rw[Qyt,Qyq hk];rfl,fun j hj=>?_⟩
  have:=hp j hj
  rw[Qyt,Qyq (by omega)]at this
  simpa using this
 rw[Qhr,this]
theorem QqK {xs:List Nod} {p:Nod→Bool} (hp:∀j,j<xs.length→p (xs.getD j nod0)=false):Qhr p xs=(nod0,4):=by
 have:xs.find? p=none:=by
  rw[List.find?_eq_none]
  intro x hx
  obtain⟨k,hk,rfl⟩:=List.getElem_of_mem hx
  have:=hp k hk
  rw[Qyt,Qyq hk]at this
  simpa using this
 rw[Qhr,this]
def byId (i:UInt64) (x:Nod):Bool:=x.id==i
def Qbq (p:Nod→Bool) (xs:List Nod):Nod×Nat:=if Qbi xs=0 then Qhr p xs else (nod0,Qbi xs)
set_option maxRecDepth 100000 in
theorem Qtu (A:Option Addr) (n c:Nat) (xs:List Nod) (i:UInt64) (w:World) (hx:RdN w A n xs) (hn:n≤1099511627776) (hs:∀x∈xs,x.nm.size≤140737488355328):
 Calls Tryz.prog 33 #[.slice A n c,W64 i] w fun e w'=>e= .returned (.tuple #[.agg (NC (Qbq (byId i) xs).1).toArray,.int .i64 (Qbq (byId i) xs).2])∧Later w w':=by
 have hl0:=hx.1
 have hb0:Blk (w.alloc (.cells (NC nod0).toArray 106)) w.heap.size 106 (NC nod0):=Blk.new _ _ _
 have hC:=hid (fun w h=>Qh1 A n c xs w h hn hs)
 go_enter Tryz.func33,Tryz.ntmps33
 go_wp2_with fail
 refine (hC.out _ (hx.later (Qaa _ _))).mono ?_
 rintro e w1 ⟨rfl,l1⟩
 replace hb0:=hb0.later l1
 have L:=(Qaa w (.cells (NC nod0).toArray 106)).trans l1
 by_cases h0:Qbi xs=0
 ·have hres:=hid (show Qbq (byId i) xs=Qhr (byId i) xs by rw[Qbq,if_pos h0])
  rw[h0]
  clear h0
  go_wp2
  go_loopw [16] (fun j wr=>∃k:Nat,j= .int .i64 k∧k≤n∧Hid (∀ j,j<k→byId i (xs.getD j nod0)=false)∧Blk wr w.heap.size 106 (NC nod0)∧Later w wr) (fun j _=>n-(intOf j).toNat)
  case atStart=>exact⟨0,rfl,by omega,hid (fun j hj=>absurd hj (by omega)),hb0,L⟩
  case round=>
   clear hb0 L
   obtain⟨k,rfl,hk,hp,hb0,L⟩:=hrel
   by_cases hlt:k<n
   ·obtain⟨b,o,rfl,hb,hc⟩:=(hx.later L).at_ hlt
    have hhit:=hid (fun h:byId i (xs.getD k nod0)=true=>QrE (p:=byId i) (by omega) hp.out h)
    have hnext:=hid (fun h:byId i (xs.getD k nod0)=false=>Qdd (p:=fun j=>byId i (xs.getD j nod0)=false) hp.out h)
    generalize xs.getD k nod0=x at *
    have c1:wr.cell? ⟨b,o+k*66+1,none⟩=some (W64 x.id):=hc 1 _ rfl
    cases hie:(x.id==i)
    ·go_wp2
     exact⟨⟨k+1,rfl,by omega,hid (hnext.out hie),hb0,L⟩,by simp[intOf];omega⟩
    ·have hres2:=hid (hres.out.trans (hhit.out hie))
     go_wp2_with (first
      | (refine QqL rfl _ rfl hc rfl ?_)
      | (refine Qah rfl _ _ rfl (NC x) (by simp only[Qyw,QyJ,QyD];exact Qku x) ?_)
      | (refine QdW Qdp rfl rfl _ _ rfl hb0 rfl rfl (QaR _) ?_;intro w9 hb9 ho9)
      | fail)
     exact bodyPost_ret (Qaf rfl _ _ _ _ _ _ hb9 rfl Tryz.underlying106 rfl (by rw[QaR];exact Qdp)) rfl ⟨by rw[hres2.out];rfl,L.only ho9 (Qyv _)⟩
   ·obtain rfl:k=n:=by omega
    have hres2:=hid (hres.out.trans (QqK (p:=byId i) (xs:=xs) (by rw[hl0];exact hp.out)))
    go_wp2_with (first
     | (refine Qah rfl _ _ rfl (NC nod0) (by simp only[Qyw,QyD];exact QfF) ?_)
     | (refine QdW Qdp rfl rfl _ _ rfl hb0 rfl rfl (QaR _) ?_;intro w9 hb9 ho9)
     | fail)
    exact bodyPost_ret (Qaf rfl _ _ _ _ _ _ hb9 rfl Tryz.underlying106 rfl (by rw[QaR];exact Qdp)) rfl ⟨by rw[hres2.out];rfl,L.only ho9 (Qyv _)⟩
 ·have hres:=hid (show Qbq (byId i) xs=(nod0,Qbi xs) by rw[Qbq,if_neg h0])
  have hne:((Qbi xs:Int) != 0)=true:=by simpa using h0
  clear h0
  go_wp2_with (first
   | (refine Qah rfl _ _ rfl (NC nod0) (by simp only[Qyw,QyD];exact QfF) ?_)
   | (refine QdW Qdp rfl rfl _ _ rfl hb0 rfl rfl (QaR _) ?_;intro w9 hb9 ho9)
   | fail)
  exact bodyPost_ret (Qaf rfl _ _ _ _ _ _ hb9 rfl Tryz.underlying106 rfl (by rw[QaR];exact Qdp)) rfl ⟨by rw[hres.out];rfl,L.only ho9 (Qyv _)⟩
end Go.Proofs.YtcbdgnlcknllnaaGreat
namespace Go.Proofs.YtcbdgnlcknllnaaGreat
open Go.ChangeShapes Go.WideShapes Go.ChangeAt Go.RowKit
open _root_.Go.Proofs.YtcbdgnlcknllnaaGreat.Rows (uptoBulk uptoBulkAll uptoSmall)
theorem QlX {α β:Type} (f:α→Option β):∀(l:List α) (ys:List β),l.mapM f=some ys→ys.length=l.length∧∀(i:Nat) x,l[i]?=some x→f x=ys[i]?
 | [],ys,h=>by
   simp only[List.mapM_nil,pure,Option.some.injEq]at h
   subst h
   exact⟨rfl,fun i x hx=>by simp at hx⟩
 | a :: l,ys,h=>by
   rw[List.mapM_cons]at h
   simp only[bind,Option.bind_eq_some_iff,pure,Option.some.injEq]at h
   obtain⟨y,hy,ys',h',rfl⟩:=h
   obtain⟨h1,h2⟩:=QlX f l ys' h'
   refine⟨by simp[h1],fun i x hx=>?_⟩
   cases i with
   | zero=>
     obtain rfl:a=x:=by simpa using hx
     simpa using hy
   | succ i=>simpa using h2 i x (by simpa using hx)
theorem QhR {w:World} {base k:Nat} {a:Addr} {cs:List Value} (h:w.cells? base a k=some cs):cs.length=k∧∀i,i<k→w.cell? (a.add i)=cs[i]?:=by
 unfold World.cells? at h
 split at h
 ·obtain⟨h1,h2⟩:=QlX _ _ _ h
  exact⟨by simpa using h1,fun i hi=>h2 i i (by rw[QzX hi])⟩
 ·cases h
theorem Qfl {l:List Value} {i:Nat} {v:Value} (h:(l.drop i).take 1=[v]):l[i]?=some v:=by
 have:=congrArg (·[0]?) h
 simpa [QzO,QzP] using this
section
variable {H:Type} {enc:TypeId×Value→H} {w:World} {base:Nat} {sp:Nat→Bool} {held:Bool}
theorem QlR {fuel:Nat} {cs:List Value} {x:DataW H×List MemPlace} (h:DataW.trod enc Tryz.prog w base sp held fuel 45 cs=some x):∃K:Y32,cs=K.val.map W8:=by
 obtain⟨xs,m,rfl,rfl,hl,hxl,he⟩:=DataW.trod_array Tryz.underlying45 h
 have hn:Tryz.prog.cellsOf 45=32:=by kernel_rfl
 have h1:Tryz.prog.cellsOf 5=1:=by kernel_rfl
 rw[hn]at hl
 rw[h1]at he
 have each:∀i,∃b:UInt8,i<32→cs[i]?=some (W8 b):=by
  intro i
  by_cases hi:i<32
  ·have:=he i hi
   rw[Qyq (by omega),Qzb]at this
   obtain⟨z,hz,_,hw⟩:=DataW.trod_int Tryz.underlying5 this
   have hr:0≤z∧z≤255:=by simpa [Lit.wf,IntKind.min,IntKind.max,IntKind.signed,IntKind.bits] using hw
   exact⟨_,fun _=>by rw[Qfl hz,Qbe z hr.1 (by omega)]⟩
  ·exact⟨0,fun h=>absurd h hi⟩
 obtain⟨f,hf⟩:=Classical.axiomOfChoice each
 refine⟨⟨(Qy0 32).map f,by simp⟩,?_⟩
 apply List.ext_getElem?
 intro i
 rcases Qzn i 32 with hi|hi
 ·rw[hf i hi,QyF,QyF,QzX hi]
  rfl
 ·rw[Qzo (by omega),Qzo (by simp;omega)]
set_option maxRecDepth 100000 in
theorem QrW {fuel:Nat} {cs:List Value} {x:DataW H×List MemPlace} (h:DataW.trod enc Tryz.prog w base sp held fuel 47 cs=some x):∃y:Nod,cs=NC y∧y.nm.size≤uptoBulk x.1:=by
 obtain⟨xs,m,rfl,rfl,hl,hxl,he⟩:=DataW.trod_struct Tryz.underlying47 h
 have hn:Tryz.prog.cellsOf 47=66:=by kernel_rfl
 have hS:Tryz.prog.cellsOf 9=1:=by kernel_rfl
 have hU:Tryz.prog.cellsOf 24=1:=by kernel_rfl
 have hB:Tryz.prog.cellsOf 45=32:=by kernel_rfl
 rw[hn]at hl
 have hxl4:xs.length=4:=hxl
 have e0:DataW.trod enc Tryz.prog w base sp held m 9 ((cs.drop 0).take (Tryz.prog.cellsOf 9))=xs[0]?:=he 0 _ rfl
 have e1:DataW.trod enc Tryz.prog w base sp held m 24 ((cs.drop 1).take (Tryz.prog.cellsOf 24))=xs[1]?:=he 1 _ rfl
 have e2:DataW.trod enc Tryz.prog w base sp held m 45 ((cs.drop 2).take (Tryz.prog.cellsOf 45))=xs[2]?:=he 2 _ rfl
 have e3:DataW.trod enc Tryz.prog w base sp held m 45 ((cs.drop 34).take (Tryz.prog.cellsOf 45))=xs[3]?:=he 3 _ rfl
 rw[hS,Qyq (by omega)]at e0
 rw[hU,Qyq (by omega)]at e1
 rw[hB,Qyq (by omega)]at e2 e3
 obtain⟨s,hs,hx0,_⟩:=DataW.trod_string Tryz.underlying9 e0
 obtain⟨z,hz,_,hw⟩:=DataW.trod_int Tryz.underlying24 e1
 obtain⟨K,hK⟩:=QlR e2
 obtain⟨P,hP⟩:=QlR e3
 have hr:0≤z∧z≤18446744073709551615:=by simpa [Lit.wf,IntKind.min,IntKind.max,IntKind.signed,IntKind.bits] using hw
 have c0:=Qfl hs
 have c1:=Qfl hz
 rw[QaP z hr.1 (by omega)]at c1
 refine⟨⟨s,QyM z.toNat,K,P⟩,?_,?_⟩
 ·match cs,hl,c0,c1,hK,hP with
  | a :: b :: r,hl,c0,c1,hK,hP=>
    have hrl:r.length=64:=by simpa using hl
    rw[QzB,QzB,List.drop_zero]at hK
    rw[show (34:Nat)=32+1+1 from rfl,QzB,QzB,QyA (by simp;omega)]at hP
    obtain rfl:a= .string s:=by simpa using c0
    obtain rfl:b=W64 (QyM z.toNat):=by simpa using c1
    rw[NC,←hK,←hP,Qy9]
 ·have hb:xs[0].1= .lit (.string s.data.toList):=by rw[hx0]
  have:=QiH (d:=xs[0].1) (l:=xs.map (·.1)) (Qy1.2 ⟨_,Qzk _,rfl⟩)
  rw[hb]at this
  simp only[uptoBulk]at this ⊢
  have hsz:s.data.toList.length=s.size:=by simp
  show s.size≤_
  omega
theorem Qop {fuel:Nat} {v:Value} {x:DataW H×List MemPlace} (h:DataW.trod enc Tryz.prog w base sp held fuel 22 [v]=some x):
 ∃A n c xs,v= .slice A n c∧n≤c∧RdN w A n xs∧n+1≤uptoBulk x.1∧∀y∈xs,y.nm.size≤uptoBulk x.1:=by
 rcases DataW.trod_slice Tryz.underlying22 h with ⟨hcs,rfl⟩|⟨a,len,cap,elems,rest,n,rfl,hcs,rfl,hb,hl,hm,hlen,hel,hsp,hns⟩
 ·obtain rfl:v= .slice none 0 0:=by simpa using hcs
  exact⟨none,0,0,[],rfl,Qyv _,QfW w,by simp[uptoBulk],by simp⟩
 ·obtain rfl:v= .slice (some a) len cap:=by simpa using hcs
  have hc:Tryz.prog.cellsOf 47=66:=by kernel_rfl
  have each:∀i,∃y:Nod,i<len→(w.cells? base (a.add (i*66)) 66=some (NC y)∧y.nm.size≤uptoBulkAll (elems.map (·.1))):=by
   intro i
   by_cases hi:i<len
   ·have hE:=hel i hi
    rw[hc]at hE
    have hy:elems[i]?=some (elems[i]'(by omega)):=Qyq _
    rw[hy,Option.bind_eq_some_iff]at hE
    obtain⟨c1,hc1,hy1⟩:=hE
    obtain⟨y,rfl,hsz⟩:=QrW hy1
    exact⟨y,fun _=>⟨hc1,QyX hsz (QiH (Qy1.2 ⟨_,Qzk _,rfl⟩))⟩⟩
   ·exact⟨nod0,fun h=>absurd h hi⟩
  obtain⟨f,hf⟩:=Classical.axiomOfChoice each
  have hfl:∀j,j<len→((Qy0 len).map f).getD j nod0=f j:=by
   intro j hj
   rw[Qyt,QyF,QzX hj]
   rfl
  have e2:=Qlf (elems.map (·.1))
  rw[Qyo,hlen]at e2
  refine⟨some a,len,cap,(Qy0 len).map f,rfl,hl,⟨by simp,fun h0=>?_⟩,?_,fun y hy=>?_⟩
  ·have e0:a.add (0*66)=a:=by simp[Addr.add]
   have h00:=(QhR (hf 0 h0).1).2 0 (by omega)
   rw[e0]at h00
   have e1:a.add 0=a:=by simp[Addr.add]
   rw[e1,NC,Qyn]at h00
   obtain⟨h1,h2⟩:=QjM h00
   obtain⟨b,o,s⟩:=a
   simp only at h1
   subst h1
   refine⟨b,o,rfl,h2,fun j i v hj hv=>?_⟩
   rw[hfl j hj]at hv
   have hi:i<66:=by
    have:=(QyB.1 hv).1
    rwa [QaR]at this
   have:=(QhR (hf j hj).1).2 i hi
   rw[QbM,QbM]at this
   rw[this]
   exact hv
  ·simp only[uptoBulk]
   omega
  ·obtain⟨j,hj,rfl⟩:=Qy1.1 hy
   have:=(hf j (Qzr.1 hj)).2
   simp only[uptoBulk]
   omega
set_option maxRecDepth 100000 in
theorem Qqa {b0:Nat} {r:Reach} {v:Value} {d:DataW H} {ps:List MemPlace} (ht:Tryz.prog.underlying 22=some (.slice 47)) (hval:Value.okWide Tryz.prog w r b0 22 v) (h:DataW.Trod enc Tryz.prog w base sp held 22 v d ps):
 ∃A n c xs,v= .slice A n c∧n≤c∧RdN w A n xs∧n+1≤uptoBulk d∧∀y∈xs,y.nm.size≤uptoBulk d:=by
 obtain⟨A,n,c,rfl⟩:=okWide_slice ht hval
 obtain⟨f,hf⟩:=h
 obtain⟨A',n',c',ns,h1,h2,h3,h4,h5⟩:=Qop hf
 exact⟨A',n',c',ns,h1,h2,h3,h4,h5⟩
end
end Go.Proofs.YtcbdgnlcknllnaaGreat
