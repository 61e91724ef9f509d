/-
  Lemmas for the last text of this claim (part 16 of 20).
-/
import Derived.BigQuiet
import Derived.BigRegion
import Derived.ChangeOld
import Derived.Deep.RegionWith
import Derived.DeepKeys4
import Derived.JoinedCond
import Derived.LaidMore
import Derived.Laws.CopyOwn
import Derived.Laws.Externs
import Derived.Laws.IdiomStrings
import Derived.Laws.Tables
import Derived.Lib.AppendStr
import Derived.Lib.AppendZerosOnto
import Derived.Lib.Mul64
import Derived.Lib.SlBytesConst
import Derived.LoopN
import Derived.Maps.OwnSet
import Derived.OpenShut
import Derived.OrdersHeld
import Derived.ProofKit
import Derived.Shelf.Spec.BitsCarry
import Derived.ShutString
import Derived.Test.YtcbdgnlcknllnaaGreatProg
import Derived.Test.YtcbdgnlcknllnaaGreatRows
import Derived.WalkKit
import Derived.WalkLawsBesides
import Derived.WalkSpells
import Derived.Test.YtcbdgnlcknllnaaGreatPB
import Derived.Test.YtcbdgnlcknllnaaGreatPE
import Derived.Test.YtcbdgnlcknllnaaGreatPH
import Derived.Test.YtcbdgnlcknllnaaGreatPI
import Derived.Test.YtcbdgnlcknllnaaGreatPJ
import Derived.Test.YtcbdgnlcknllnaaGreatPN
open Bool renaming and_eq_true → QFQ, eq_iff_iff → QGk, not_eq_true' → QGI, or_eq_true → QHf
open List renaming replicate → QFu, getElem?_cons_succ → QFv, getElem?_cons_zero → QFw, cons_append → QFy, nil_append → QFz, length_map → QFA, getElem?_eq_getElem → QFB, getD_eq_getElem?_getD → QFC, setIfInBounds_toArray → QFD, length_append → QFF, set_cons_zero → QFG, set_cons_succ → QFH, map_toArray → QFI, take_of_length_le → QFJ, getElem?_append_right → QFK, getElem?_map → QFN, not_mem_nil → QFO, mem_cons → QFP, map_nil → QFR, getElem?_append_left → QFS, getElem?_eq_some_iff → QFU, map_cons → QFW, length_take → QFY, map_append → QF2, range → QF6, append_nil → QGb, drop_left' → QGe, mem_map → QGf, map_replicate → QGg, all_eq_true → QGi, take_left' → QGv, getElem_mem → QGy, mem_append → QGC, getElem?_range → QGM, mem_range → QGS, getElem?_take → QGX, range_succ → QG4, drop_succ_cons → QHc, getElem?_replicate → QHe, any_eq_true → QHh, getElem_of_mem → QHk, flatten_cons → QHu, flatten_append → QHF, flatMap_append → QHG, drop_zero → QHM
open Nat renaming le_refl → QFE, lt_of_lt_of_le → QFV, zero_add → QFX, le_trans → QGh, lt_or_ge → QGE, add_assoc → QHx
open Option renaming toList_some → QFx
open UInt64 renaming ofNat → QFZ, toNat_inj → QHi
namespace Go.Proofs.YtcbdgnlcknllnaaGreat
open Go.RowKit
section
variable {P:Program} {ops:Array Oper} {rest:List Oper} {o:Oper} {a:Act} {w:World} {Q:Exit→Act→World→Prop}
theorem Qdn (hw:Region.wanted o (yielded ops a.tmps)=true) (t:TypeId) (x:Operand) (ho:o.op= .buildSlice t 1 #[(0,x)]) (e:TypeId) (sz:Nat) (z:Value) (vs:List Value) (ht:P.underlying t=some (.slice e)) (hz:(P.info? e).map (fun i=>(i.zero,i.size))=some (some z,sz)) (hs0:0<sz) (hsm:sz≤65536)
 (hbl:vs.length=sz) (hx:a.eval x= .agg vs.toArray)
 (h:wpList P ops Q rest (a.put o.dst (.slice (some ⟨w.heap.size,0,none⟩) 1 1)) (w.alloc (.cells vs.toArray e))):wpList P ops Q (o :: rest) a w:=
 BigFrame.wpList_want hw fun K hK=>by
  have hr:=QkE (v:=.agg vs.toArray) ht hz hs0 hsm rfl hbl w
  unfold Oper.wp
  simp only[execOp,ho,QFI,QFW,QFR,hx,Sem.run_bind,hr,Result.andThen_ok,Sem.run_pure]
  exact hK _ _ h
end
end Go.Proofs.YtcbdgnlcknllnaaGreat
namespace Go.Proofs.YtcbdgnlcknllnaaGreat
open Go.RowKit
open Go.BigFrame
def okAt (s:ByteArray) (k:Nat):Bool:=
 if h:k<s.size then (decide (97≤s[k].toNat)&&decide (s[k].toNat≤122))||(decide (48≤s[k].toNat)&&decide (s[k].toNat≤57)&&decide (0<k)) else true
def Qfr (s:ByteArray):Bool:=decide (1≤s.size)&&decide (s.size≤16)&&(QF6 s.size).all (okAt s)
theorem QpC (s:ByteArray) (k:Nat) (h:k<s.size):okAt s k=true↔(97≤(s[k].toNat:Int)∧(s[k].toNat:Int)≤122)∨(48≤(s[k].toNat:Int)∧(s[k].toNat:Int)≤57∧0<k):=by
 rw[okAt,dif_pos h]
 simp only[QHf,QFQ,decide_eq_true_eq]
 omega
theorem Qhz (s:ByteArray):Qfr s=true↔1≤s.size∧s.size≤16∧∀j,j<s.size→okAt s j=true:=by
 rw[Qfr]
 simp only[QFQ,decide_eq_true_eq,QGi,QGS,and_assoc]
theorem QkD {s:ByteArray} (h: ¬(s.size<1∨16<s.size)) (hj:∀j,j<s.size→okAt s j=true):Qfr s=true:=(Qhz s).2 ⟨by omega,by omega,hj⟩
theorem Qke {s:ByteArray} (h:s.size<1∨16<s.size):Qfr s=false:=by
 rcases Bool.eq_false_or_eq_true (Qfr s) with e|e
 ·have:=(Qhz s).1 e
  omega
 ·exact e
theorem QhR {s:ByteArray} {k:Nat} (h:k<s.size) (hn: ¬((97≤(s[k].toNat:Int)∧(s[k].toNat:Int)≤122)∨(48≤(s[k].toNat:Int)∧(s[k].toNat:Int)≤57∧0<k))):Qfr s=false:=by
 rcases Bool.eq_false_or_eq_true (Qfr s) with e|e
 ·exact absurd ((QpC s k h).1 (((Qhz s).1 e).2.2 k h)) hn
 ·exact e
theorem QiU {s:ByteArray} {k:Nat} (h:k<s.size) (hp:∀j,j<k→okAt s j=true) (hn:(97≤(s[k].toNat:Int)∧(s[k].toNat:Int)≤122)∨(48≤(s[k].toNat:Int)∧(s[k].toNat:Int)≤57∧0<k)):∀j,j<k+1→okAt s j=true:=by
 intro j hj
 rcases QGE j k with h1|h1
 ·exact hp j h1
 ·obtain rfl:j=k:=by omega
  exact (QpC s j h).2 hn
set_option maxRecDepth 100000 in
theorem QjV (s:ByteArray) (w:World) (hs:s.size≤140737488355328):
 Calls Tryz.prog 57 #[.string s] w fun e w'=>e= .returned (.bool (Qfr s))∧Later w w':=by
 go_enter Tryz.func57,Tryz.ntmps57
 by_cases hb:s.size<1∨16<s.size
 ·have hbb:(decide ((s.size:Int)<1)||decide (16<(s.size:Int)))=true:=by simp;omega
  rw[Qke hb]
  go_wp2
  all_goals
   go_ret
   exact⟨rfl,Later.refl w⟩
 ·go_wp2
  go_loopw [3,4,5,6] (fun i _ _ _ wr=>∃k:Nat,i= .int .i64 k∧k≤s.size∧(∀ j,j<k→okAt s j=true)∧Later w wr) (fun i _ _ _ _=>s.size-(intOf i).toNat)
  case atStart=>exact⟨0,rfl,by omega,fun j hj=>absurd hj (by omega),Later.refl w⟩
  case round=>
   obtain⟨k,rfl,hk,hp,hl⟩:=hrel
   by_cases hlt:k<s.size
   ·go_wp2
    all_goals
     try simp only[QGI,Bool.not_eq_false',decide_eq_true_eq,decide_eq_false_iff_not]at *
     first
      | exact⟨⟨k+1,rfl,by omega,QiU hlt hp (by omega),hl⟩,by simp[intOf];omega⟩
      | (go_ret;refine⟨?_,hl⟩;rw[QhR hlt (by omega)];rfl)
   ·obtain rfl:k=s.size:=by omega
    go_wp2
    go_ret
    refine⟨?_,hl⟩
    rw[QkD hb hp]
    rfl
set_option maxRecDepth 100000 in
theorem Qs2 (s:ByteArray) (w:World) (hs:s.size≤140737488355328):
 Calls Tryz.prog 47 #[.string s] w fun e w'=>e= .returned (.bool (Qfr s))∧Later w w':=by
 go_enter Tryz.func47,Tryz.ntmps47
 by_cases hb:s.size<1∨16<s.size
 ·have hbb:(decide ((s.size:Int)<1)||decide (16<(s.size:Int)))=true:=by simp;omega
  rw[Qke hb]
  go_wp2
  all_goals
   go_ret
   exact⟨rfl,Later.refl w⟩
 ·go_wp2
  go_loopw [3,4,5] (fun i _ _ wr=>∃k:Nat,i= .int .i64 k∧k≤s.size∧(∀ j,j<k→okAt s j=true)∧Later w wr) (fun i _ _ _=>s.size-(intOf i).toNat)
  case atStart=>exact⟨0,rfl,by omega,fun j hj=>absurd hj (by omega),Later.refl w⟩
  case round=>
   obtain⟨k,rfl,hk,hp,hl⟩:=hrel
   by_cases hlt:k<s.size
   ·rcases Nat.eq_zero_or_pos k with rfl|hk0
    ·go_wp2
     all_goals
      try simp only[QGI,Bool.not_eq_false',decide_eq_true_eq,decide_eq_false_iff_not]at *
      first
       | exact⟨⟨0+1,rfl,by omega,QiU hlt hp (by omega),hl⟩,by simp[intOf];omega⟩
       | (go_ret;refine⟨?_,hl⟩;rw[QhR hlt (by omega)];rfl)
    ·have hkb:((k:Int)==0)=false:=by simp;omega
     go_wp2
     all_goals
      try simp only[QGI,Bool.not_eq_false',decide_eq_true_eq,decide_eq_false_iff_not,hkb]at *
      first
       | exact⟨⟨k+1,rfl,by omega,QiU hlt hp (by omega),hl⟩,by simp[intOf];omega⟩
       | (go_ret;refine⟨?_,hl⟩;rw[QhR hlt (by omega)];rfl)
   ·obtain rfl:k=s.size:=by omega
    go_wp2
    go_ret
    refine⟨?_,hl⟩
    rw[QkD hb hp]
    rfl
structure Nod where
 nm:ByteArray
 id:UInt64
 priv:Y32
 pub:Y32
def QyQ:Y32:=⟨QFu 32 0,by simp⟩
def nod0:Nod:=⟨.empty,0,QyQ,QyQ⟩
def NC (x:Nod):List Value:=.string x.nm :: W64 x.id :: (x.priv.val.map W8++x.pub.val.map W8)
theorem QaJ (x:Nod):(NC x).length=66:=by simp[NC,x.priv.2,x.pub.2]
theorem Qx3 (x:Nod):∀u∈NC x,u.oneCell'=true:=by
 intro u hu
 simp only[NC,QFP,QGC,QGf]at hu
 rcases hu with rfl|rfl|⟨b,_,rfl⟩|⟨b,_,rfl⟩<;>rfl
abbrev RdN:World→Option Addr→Nat→List Nod→Prop:=RdF NC 66 nod0
theorem QkP {w:World} {A:Option Addr} {n:Nat} {xs:List Nod} (h:RdN w A n xs) {k:Nat} (hk:k<n):
 ∃b o,A=some ⟨b,o,none⟩∧b<w.heap.size∧w.cell? ⟨b,o+k*66,none⟩=some (.string (xs.getD k nod0).nm)∧w.cell? ⟨b,o+k*66+1,none⟩=some (W64 (xs.getD k nod0).id):=by
 obtain⟨b,o,hA,hb,hc⟩:=h.at_ hk
 exact⟨b,o,hA,hb,hc 0 _ rfl,hc 1 _ rfl⟩
theorem Qsw (x:Nod) {j:Nat} {v:Value} (h:(x.priv.val.map W8)[j]?=some v):(NC x)[2+j]?=some v:=by
 have hj:j<(x.priv.val.map W8).length:=(QFU.1 h).1
 rw[NC,show 2+j=j+1+1 by omega,QFv,QFv,QFS hj]
 exact h
theorem QyU (x:Nod) {j:Nat} {v:Value} (h:(x.pub.val.map W8)[j]?=some v):(NC x)[34+j]?=some v:=by
 have hp:(x.priv.val.map W8).length=32:=by rw[QFA,x.priv.2]
 rw[NC,show 34+j=j+32+1+1 by omega,QFv,QFv,QFK (by omega),hp,Nat.add_sub_cancel]
 exact h
theorem Qws {w:World} {A:Option Addr} {n:Nat} {xs:List Nod} (h:RdN w A n xs) {k:Nat} (hk:k<n):
 ∃b o,A=some ⟨b,o,none⟩∧b<w.heap.size∧(∀ j v,((xs.getD k nod0).priv.val.map W8)[j]?=some v→w.cell? ⟨b,o+k*66+2+j,none⟩=some v)∧(∀ j v,((xs.getD k nod0).pub.val.map W8)[j]?=some v→w.cell? ⟨b,o+k*66+34+j,none⟩=some v):=by
 obtain⟨b,o,hA,hb,hc⟩:=h.at_ hk
 refine⟨b,o,hA,hb,fun j v hv=>?_,fun j v hv=>?_⟩
 ·rw[QHx _ 2 j];exact hc _ _ (Qsw _ hv)
 ·rw[QHx _ 34 j];exact hc _ _ (QyU _ hv)
def badN (x:Nod):Bool:=x.id==0|| !Qfr x.nm
def Qe0 (x y:Nod):Bool:=x.nm.toList==y.nm.toList||x.id==y.id
def Qny (xs:List Nod) (i:Nat):Bool:=(QF6 i).any fun j=>Qe0 (xs.getD i nod0) (xs.getD j nod0)
def QaY (xs:List Nod):Nat:=if 64<xs.length then 2 else if xs.any badN then 3 else if (QF6 xs.length).any (Qny xs) then 4 else 0
theorem QvX {xs:List Nod} {p:Nod→Bool} {k:Nat} (hk:k<xs.length) (h:p (xs.getD k nod0)=true):xs.any p=true:=by
 rw[QHh]
 refine⟨_,QGy hk,?_⟩
 rwa [QFC,QFB hk]at h
theorem QmP {xs:List Nod} {p:Nod→Bool} (h:∀k,k<xs.length→p (xs.getD k nod0)=false):xs.any p=false:=by
 rw[List.any_eq_false]
 intro x hx
 obtain⟨k,hk,rfl⟩:=QHk hx
 have:=h k hk
 rw[QFC,QFB hk]at this
 simpa using this
theorem QgH {n:Nat} {p:Nat→Bool} (h:∀k,k<n→p k=false):(QF6 n).any p=false:=by
 rw[List.any_eq_false]
 intro k hk
 rw[h k (QGS.1 hk)]
 decide
theorem QdV {n k:Nat} {p:Nat→Bool} (hk:k<n) (h:p k=true):(QF6 n).any p=true:=QHh.2 ⟨k,QGS.2 hk,h⟩
theorem QkW {xs:List Nod} (h:64<xs.length):QaY xs=2:=by rw[QaY,if_pos h]
theorem QkY {xs:List Nod} {k:Nat} (h: ¬ 64<xs.length) (hk:k<xs.length) (hb:badN (xs.getD k nod0)=true):QaY xs=3:=by rw[QaY,if_neg h,if_pos (QvX hk hb)]
theorem QkF {xs:List Nod} {i j:Nat} (h: ¬ 64<xs.length) (hf:∀k,k<xs.length→badN (xs.getD k nod0)=false) (hi:i<xs.length) (hj:j<i) (hs:Qe0 (xs.getD i nod0) (xs.getD j nod0)=true):QaY xs=4:=by
 rw[QaY,if_neg h,if_neg (by rw[QmP hf];decide),if_pos (QdV hi (QdV hj hs))]
theorem Qp6 {xs:List Nod} (h: ¬ 64<xs.length) (hf:∀k,k<xs.length→badN (xs.getD k nod0)=false) (hd:∀k,k<xs.length→Qny xs k=false):QaY xs=0:=by
 rw[QaY,if_neg h,if_neg (by rw[QmP hf];decide),if_neg (by rw[QgH hd];decide)]
theorem QlB {xs:List Nod} {k:Nat} (hk:k<xs.length):xs.getD k nod0∈xs:=by
 rw[QFC,QFB hk]
 exact QGy hk
set_option maxRecDepth 100000 in
theorem Qkb (A:Option Addr) (n c:Nat) (xs:List Nod) (w:World) (hx:RdN w A n xs) (hn:n≤1099511627776) (hs:∀x∈xs,x.nm.size≤140737488355328):
 Calls Tryz.prog 32 #[.slice A n c] w fun e w'=>e= .returned (.int .i64 (QaY xs:Nat))∧Later w w':=by
 have hl0:=hx.1
 go_enter Tryz.func32,Tryz.ntmps32
 by_cases h64:64<n
 ·go_wp2
  go_ret
  exact⟨by rw[QkW (by omega)];rfl,Later.refl w⟩
 ·go_wp2
  go_loopw [3,11] (fun _ i wr=>∃k:Nat,i= .int .i64 k∧k≤n∧(∀ j,j<k→badN (xs.getD j nod0)=false)∧Later w wr) (fun _ i _=>n-(intOf i).toNat)
  case atStart=>exact⟨0,rfl,by omega,fun j hj=>absurd hj (by omega),Later.refl w⟩
  case round=>
   obtain⟨k,rfl,hk,hp,hl⟩:=hrel
   by_cases hlt:k<n
   ·obtain⟨b,o,rfl,hb,hc0,hc1⟩:=QkP (hx.later hl) hlt
    have hwf:=hid (QjV (xs.getD k nod0).nm wr (hs _ (QlB (by omega))))
    have hbad:=hid (fun (h:badN (xs.getD k nod0)=true)=>QkY (xs:=xs) (by omega) (by omega) h)
    have hgood:=hid (fun (h:badN (xs.getD k nod0)=false)=>QbR (p:=fun j=>badN (xs.getD j nod0)=false) hp h)
    generalize xs.getD k nod0=x at *
    clear hp
    by_cases hid0:x.id=0
    ·go_wp2
     go_ret
     exact⟨by rw[hbad.out (by rw[badN,hid0];rfl)];rfl,hl⟩
    ·have hid1:(x.id==0)=false:=by simpa using hid0
     go_wp2_with fail
     refine (hwf.out).mono ?_
     rintro e w1 ⟨rfl,hl1⟩
     cases hok:Qfr x.nm
     ·go_wp2
      go_ret
      exact⟨by rw[hbad.out (by rw[badN,hok,Bool.not_false,Bool.or_true])];rfl,hl.trans hl1⟩
     ·go_wp2
      exact⟨⟨k+1,rfl,by omega,hgood.out (by rw[badN,hid1,hok];rfl),hl.trans hl1⟩,by simp[intOf];omega⟩
   ·obtain rfl:k=n:=by omega
    replace hp:=hid (show ∀j,j<xs.length→badN (xs.getD j nod0)=false by rw[hl0];exact hp)
    go_wp2
    go_loopw [4,5,32] (fun _ _ i wr=>∃m:Nat,i= .int .i64 m∧m≤k∧Hid (∀ j,j<m→Qny xs j=false)∧Later w wr) (fun _ _ i _=>k-(intOf i).toNat)
    case atStart=>exact⟨0,rfl,by omega,hid (fun j hj=>absurd hj (by omega)),hl⟩
    case round=>
     clear hl
     obtain⟨i,rfl,hi,hq,hl⟩:=hrel
     by_cases hik:i<k
     ·go_wp2
      go_loopw [5] (fun j wr=>∃m:Nat,j= .int .i64 m∧m≤i∧Hid (∀ j,j<m→Qe0 (xs.getD i nod0) (xs.getD j nod0)=false)∧Later w wr) (fun j _=>i-(intOf j).toNat)
      case atStart=>exact⟨0,rfl,by omega,hid (fun j hj=>absurd hj (by omega)),hl⟩
      case round=>
       clear hl
       obtain⟨m,rfl,hm,hr,hl⟩:=hrel
       by_cases hmi:m<i
       ·obtain⟨b,o,rfl,hb,hi0,hi1⟩:=QkP (hx.later hl) hik
        obtain⟨b',o',he,hb',hm0,hm1⟩:=QkP (hx.later hl) (show m<k by omega)
        simp only[Option.some.injEq,Addr.mk.injEq,and_true]at he
        obtain⟨rfl,rfl⟩:=he
        have hdup:=hid (fun (h:Qe0 (xs.getD i nod0) (xs.getD m nod0)=true)=>QkF (xs:=xs) (by omega) hp.out (by omega) hmi h)
        have hgood:=hid (fun (h:Qe0 (xs.getD i nod0) (xs.getD m nod0)=false)=>QbR (p:=fun j=>Qe0 (xs.getD i nod0) (xs.getD j nod0)=false) hr.out h)
        generalize xs.getD i nod0=x at *
        generalize xs.getD m nod0=y at *
        cases hnm:(x.nm.toList==y.nm.toList)
        ·go_wp2_with fail
         refine Qad [] [0,1,2,3,4,5,6,7,8,9,10,11,12,13,14,15,16,17,18,19,20,21,22,23] [] (by as_aux_lemma=>kernel_rfl) (by as_aux_lemma=>kernel_rfl) (by intro _ _ d _ _ h;cases d<;>exact h) ?_
         simp only[Qah,pick,QFv,QFw,QFx,QFy,QFz]
         repeat (go_big_quiet_step (fail))
         refine wpQuiet_nil ?_
         cases hie:(x.id==y.id)
         ·go_wp2
          exact⟨⟨m+1,rfl,by omega,hid (hgood.out (by rw[Qe0,hnm,hie];rfl)),hl.trans (Qab _)⟩,by simp[intOf];omega⟩
         ·go_wp2
          go_ret
          exact⟨by rw[hdup.out (by rw[Qe0,hnm,hie];rfl)];rfl,hl.trans (Qab _)⟩
        ·go_wp2_with fail
         refine Qad [] [0,1,2,3,4,5,6,7,8,9,10,11,12,13,14,15,16,17,18,19,20,21,22,23] [] (by as_aux_lemma=>kernel_rfl) (by as_aux_lemma=>kernel_rfl) (by intro _ _ d _ _ h;cases d<;>exact h) ?_
         simp only[Qah,pick,QFv,QFw,QFx,QFy,QFz]
         repeat (go_big_quiet_step (fail))
         refine wpQuiet_nil ?_
         go_wp2
         go_ret
         exact⟨by rw[hdup.out (by rw[Qe0,hnm];rfl)];rfl,hl.trans (Qab _)⟩
       ·obtain rfl:m=i:=by omega
        have hnext:Hid (∀ j,j<m+1→Qny xs j=false):=hid (QbR (p:=fun j=>Qny xs j=false) hq.out (QgH hr.out))
        go_wp2
        exact⟨⟨m+1,rfl,by omega,hnext,hl⟩,by simp[intOf];omega⟩
     ·obtain rfl:i=k:=by omega
      go_wp2
      go_ret
      refine⟨?_,hl⟩
      rw[Qp6 (by omega) hp.out (by rw[hl0];exact hq.out)]
      rfl
set_option maxRecDepth 100000 in
theorem Qkt (A:Option Addr) (n c:Nat) (xs:List Nod) (w:World) (hx:RdN w A n xs) (hn:n≤1099511627776) (hs:∀x∈xs,x.nm.size≤140737488355328):
 Calls Tryz.prog 25 #[.slice A n c] w fun e w'=>e= .returned (.int .i64 (QaY xs:Nat))∧Later w w':=by
 have hl0:=hx.1
 go_enter Tryz.func25,Tryz.ntmps25
 by_cases h64:64<n
 ·go_wp2
  go_ret
  exact⟨by rw[QkW (by omega)];rfl,Later.refl w⟩
 ·go_wp2
  go_loopw [3] (fun i wr=>∃k:Nat,i= .int .i64 k∧k≤n∧(∀ j,j<k→badN (xs.getD j nod0)=false)∧Later w wr) (fun i _=>n-(intOf i).toNat)
  case atStart=>exact⟨0,rfl,by omega,fun j hj=>absurd hj (by omega),Later.refl w⟩
  case round=>
   obtain⟨k,rfl,hk,hp,hl⟩:=hrel
   by_cases hlt:k<n
   ·obtain⟨b,o,rfl,hb,hc0,hc1⟩:=QkP (hx.later hl) hlt
    have hwf:=hid (Qs2 (xs.getD k nod0).nm wr (hs _ (QlB (by omega))))
    have hbad:=hid (fun (h:badN (xs.getD k nod0)=true)=>QkY (xs:=xs) (by omega) (by omega) h)
    have hgood:=hid (fun (h:badN (xs.getD k nod0)=false)=>QbR (p:=fun j=>badN (xs.getD j nod0)=false) hp h)
    generalize xs.getD k nod0=x at *
    clear hp
    go_wp2_with fail
    refine (hwf.out).mono ?_
    rintro e w1 ⟨rfl,hl1⟩
    replace hc1:=(hl1.below.cell (p:=⟨b,o+k*66+1,none⟩) hb).trans hc1
    cases hok:Qfr x.nm
    ·go_wp2
     go_ret
     exact⟨by rw[hbad.out (by rw[badN,hok,Bool.not_false,Bool.or_true])];rfl,hl.trans hl1⟩
    ·by_cases hid0:x.id=0
     ·go_wp2
      go_ret
      exact⟨by rw[hbad.out (by rw[badN,hid0];rfl)];rfl,hl.trans hl1⟩
     ·have hid1:(x.id==0)=false:=by simpa using hid0
      go_wp2
      exact⟨⟨k+1,by go_num,by omega,hgood.out (by rw[badN,hid1,hok];rfl),hl.trans hl1⟩,by simp[intOf];omega⟩
   ·obtain rfl:k=n:=by omega
    replace hp:=hid (show ∀j,j<xs.length→badN (xs.getD j nod0)=false by rw[hl0];exact hp)
    go_wp2
    go_loopw [4,5] (fun i _ wr=>∃m:Nat,i= .int .i64 m∧m≤k∧Hid (∀ j,j<m→Qny xs j=false)∧Later w wr) (fun i _ _=>k-(intOf i).toNat)
    case atStart=>exact⟨0,rfl,by omega,hid (fun j hj=>absurd hj (by omega)),hl⟩
    case round=>
     clear hl
     obtain⟨i,rfl,hi,hq,hl⟩:=hrel
     by_cases hik:i<k
     ·go_wp2
      go_loopw [5] (fun j wr=>∃m:Nat,j= .int .i64 m∧m≤i∧Hid (∀ j,j<m→Qe0 (xs.getD i nod0) (xs.getD j nod0)=false)∧Later w wr) (fun j _=>i-(intOf j).toNat)
      case atStart=>exact⟨0,rfl,by omega,hid (fun j hj=>absurd hj (by omega)),hl⟩
      case round=>
       clear hl
       obtain⟨m,rfl,hm,hr,hl⟩:=hrel
       by_cases hmi:m<i
       ·obtain⟨b,o,rfl,hb,hi0,hi1⟩:=QkP (hx.later hl) hik
        obtain⟨b',o',he,hb',hm0,hm1⟩:=QkP (hx.later hl) (show m<k by omega)
        simp only[Option.some.injEq,Addr.mk.injEq,and_true]at he
        obtain⟨rfl,rfl⟩:=he
        have hdup:=hid (fun (h:Qe0 (xs.getD i nod0) (xs.getD m nod0)=true)=>QkF (xs:=xs) (by omega) hp.out (by omega) hmi h)
        have hgood:=hid (fun (h:Qe0 (xs.getD i nod0) (xs.getD m nod0)=false)=>QbR (p:=fun j=>Qe0 (xs.getD i nod0) (xs.getD j nod0)=false) hr.out h)
        generalize xs.getD i nod0=x at *
        generalize xs.getD m nod0=y at *
        cases hnm:(x.nm.toList==y.nm.toList)
        ·go_wp2_with fail
         refine Qad [] [0,1,2,3,4,5,6,7,8,9,10,11,12,13,14,15,16,17,18,19,20,21,22,23] [] (by as_aux_lemma=>kernel_rfl) (by as_aux_lemma=>kernel_rfl) (by intro _ _ d _ _ h;cases d<;>exact h) ?_
         simp only[Qah,pick,QFv,QFw,QFx,QFy,QFz]
         repeat (go_big_quiet_step (fail))
         refine wpQuiet_nil ?_
         cases hie:(x.id==y.id)
         ·go_wp2
          exact⟨⟨m+1,rfl,by omega,hid (hgood.out (by rw[Qe0,hnm,hie];rfl)),hl.trans (Qab _)⟩,by simp[intOf];omega⟩
         ·go_wp2
          go_ret
          exact⟨by rw[hdup.out (by rw[Qe0,hnm,hie];rfl)];rfl,hl.trans (Qab _)⟩
        ·go_wp2_with fail
         refine Qad [] [0,1,2,3,4,5,6,7,8,9,10,11,12,13,14,15,16,17,18,19,20,21,22,23] [] (by as_aux_lemma=>kernel_rfl) (by as_aux_lemma=>kernel_rfl) (by intro _ _ d _ _ h;cases d<;>exact h) ?_
         simp only[Qah,pick,QFv,QFw,QFx,QFy,QFz]
         repeat (go_big_quiet_step (fail))
         refine wpQuiet_nil ?_
         go_wp2
         go_ret
         exact⟨by rw[hdup.out (by rw[Qe0,hnm];rfl)];rfl,hl.trans (Qab _)⟩
       ·obtain rfl:m=i:=by omega
        have hnext:Hid (∀ j,j<m+1→Qny xs j=false):=hid (QbR (p:=fun j=>Qny xs j=false) hq.out (QgH hr.out))
        go_wp2
        exact⟨⟨m+1,rfl,by omega,hnext,hl⟩,by simp[intOf];omega⟩
     ·obtain rfl:i=k:=by omega
      go_wp2
      go_ret
      refine⟨?_,hl⟩
      rw[Qp6 (by omega) hp.out (by rw[hl0];exact hq.out)]
      rfl
set_option maxRecDepth 100000 in
theorem Qps (K:List UInt8) (hK:K.length=32) (w:World):
 Calls Tryz.prog 60 #[.agg (K.map W8).toArray] w fun e w'=>∃g,e= .returned (.slice (some ⟨g,0,none⟩) 32 32)∧w.heap.size≤g∧Blk w' g 5 (K.map W8)∧Later w w':=by
 have hb0:Blk (w.alloc (.cells (K.map W8).toArray 45)) w.heap.size 45 (K.map W8):=Blk.new _ _ _
 go_enter Tryz.func60,Tryz.ntmps60
 go_wp2_with (first
  | (refine QaE rfl _ _ 25 rfl 5 (.int .u8 0) 1 Tryz.underlying25 Qbq rfl _ _ _ _ 32 rfl rfl rfl rfl (by omega) (by omega) ?_;intro w2 hb2 hl2;rw[show (w.alloc (.cells (K.map W8).toArray 45)).heap.size=w.heap.size+1 by simp]at hb2)
  | (refine Qyf 0 32 rfl _ _ _ _ rfl 5 Tryz.underlying25 Qb0 (show Blk w2 (w.heap.size+1) 5 ((QFu 32 0).map W8) by (rw [QGg];exact hb2)) (Qec (hb0.later hl2) hK) rfl rfl (by simp) ?_;intro w3 hb3 ho3;rw[QpY _ _ (by simpa using hK)]at hb3)
  | fail)
 go_ret
 exact⟨w.heap.size+1,rfl,by omega,hb3,((Qaa _ _).trans hl2).only ho3 (by omega)⟩
section
variable {ops:Array Oper} {rest:List Oper} {o:Oper} {a:Act} {w:World} {Q:Exit→Act→World→Prop}
theorem QlF (hgd:Region.wanted o (yielded ops a.tmps)=true) (x:Operand) (ho:o.op= .load 45 x) {g off:Nat} {K:List UInt8} (hc:∀j v,(K.map W8)[j]?=some v→w.cell? ⟨g,off+j,none⟩=some v) (hl:K.length=32) (hx:a.eval x= .pointer (some ⟨g,off,none⟩))
 (h:wpList Tryz.prog ops Q rest (a.put o.dst (.agg (K.map W8).toArray)) w):wpList Tryz.prog ops Q (o :: rest) a w:=
 Qar hgd _ x ho g off _ hc hx _ Tryz.underlying45 rfl (by rw[QFA,hl];exact Qbk) h
theorem Ql6 {J:Act→Prop} (x:Operand) (ho:o.op= .load 45 x) {w0:World} {g off:Nat} {K:List UInt8} (hc:∀j v,(K.map W8)[j]?=some v→w0.cell? ⟨g,off+j,none⟩=some v) (hg:g<w0.heap.size) (hl:K.length=32) (hx:a.eval x= .pointer (some ⟨g,off,none⟩)) (h:J (a.put o.dst (.agg (K.map W8).toArray))):
 o.quiet Tryz.prog a (fun w'=>∃x,w'=grow w0 x) J:=
 QaP _ x ho g off (K.map W8) (fun w' hw j v hv=>by obtain⟨y,rfl⟩:=hw;exact ((Later.below ⟨y,rfl⟩).cell (p:=⟨g,off+j,none⟩) hg).trans (hc j v hv)) hx _ Tryz.underlying45 rfl (by rw[QFA,hl];exact Qbk) h
end
theorem Qd9 {w:World} {b off n:Nat} {K:List UInt8} (hb:b<w.heap.size) (hc:∀j v,(K.map W8)[j]?=some v→w.cell? ⟨b,off+j,none⟩=some v) (hn:K.length=n):RdB w (some ⟨b,off,none⟩) n K:=
 ⟨by rw[QFA,hn],fun _=>⟨b,off,rfl,hb,hc⟩⟩
def pubK (K:List UInt8):List UInt8:=QbH K (nb 9)
theorem Qoq (K:List UInt8):(pubK K).length=32:=Qa9 _ _
def fitB (x:Nod):Bool:=pubK x.priv.val==x.pub.val
def Qig (xs:List Nod):Bool:=QaY xs==0&&xs.all fitB
theorem QAz {xs:List Nod} (h:QaY xs≠0):Qig xs=false:=by
 rw[Qig,show (QaY xs==0)=false by simpa using h]
 rfl
theorem QwG {xs:List Nod} {k:Nat} (hk:k<xs.length) (h:fitB (xs.getD k nod0)=false):Qig xs=false:=by
 rw[Qig,show xs.all fitB=false from ?_,Bool.and_false]
 rw[List.all_eq_false]
 exact⟨_,QlB hk,by rw[h];decide⟩
theorem QA0 {xs:List Nod} (h:QaY xs=0) (hf:∀k,k<xs.length→fitB (xs.getD k nod0)=true):Qig xs=true:=by
 rw[Qig,h,QFQ]
 refine⟨rfl,?_⟩
 rw[QGi]
 intro x hx
 obtain⟨k,hk,rfl⟩:=QHk hx
 have:=hf k hk
 rwa [QFC,QFB hk]at this
set_option maxRecDepth 100000 in
theorem Qvd (A:Option Addr) (n c:Nat) (xs:List Nod) (w:World) (hx:RdN w A n xs) (hn:n≤1099511627776) (hs:∀x∈xs,x.nm.size≤140737488355328):
 Calls Tryz.prog 8 #[.slice A n c] w fun e w'=>e= .returned (.tuple #[.bool (Qig xs),.int .i64 (QaY xs:Nat)])∧Later w w':=by
 have hl0:=hx.1
 have hC:=hid (Qkt A n c xs w hx hn hs)
 go_enter Tryz.func8,Tryz.ntmps8
 go_wp2_with fail
 refine (hC.out).mono ?_
 rintro e w1 ⟨rfl,L⟩
 by_cases h0:QaY xs=0
 ·have h00:=hid h0
  rw[h0]
  clear h0
  go_wp2
  go_loopw [5] (fun i wr=>∃k:Nat,i= .int .i64 k∧k≤n∧Hid (∀ j,j<k→fitB (xs.getD j nod0)=true)∧Later w wr) (fun i _=>n-(intOf i).toNat)
  case atStart=>exact⟨0,rfl,by omega,hid (fun j hj=>absurd hj (by omega)),L⟩
  case round=>
   clear L
   obtain⟨k,rfl,hk,hp,L⟩:=hrel
   by_cases hlt:k<n
   ·obtain⟨b,o,rfl,hb,hc2,hc34⟩:=Qws (hx.later L) hlt
    have hbad:=hid (fun (h:fitB (xs.getD k nod0)=false)=>QwG (xs:=xs) (by omega) h)
    have hgood:=hid (fun (h:fitB (xs.getD k nod0)=true)=>QbR (p:=fun j=>fitB (xs.getD j nod0)=true) hp.out h)
    generalize xs.getD k nod0=x at *
    have hrd:RdB wr (some ⟨b,o+k*66+2,none⟩) 32 x.priv.val:=Qd9 hb hc2 x.priv.2
    go_wp2_with fail
    (with_reducible refine (Qkc _ 32 32 x.priv.val _ hrd (by omega)).mono ?_);rintro e w3 ⟨rfl,l3⟩
    rw[QCo _ x.priv.2]
    have hfit:fitB x=(QbH x.priv.val (nb 9)==x.pub.val):=rfl
    obtain⟨y,hy⟩:=QAs (Qa9 x.priv.val (nb 9))
    rw[←hy]at hfit
    rw[←hy]
    clear hy
    go_wp2_with (first
     | (refine QaW rfl rfl _ _ rfl (Blk.new w3 _ (QFu 32 (.int .u8 0))) rfl rfl y.2 rfl ?_;intro w4 hb4 ho4)
     | fail)
    have hb3:b<w3.heap.size:=QFV hb l3.size
    have L4:Later wr w4:=(l3.trans (Qaa _ _)).only ho4 l3.size
    have hc34':=fun j v hv=>(L4.drew.below.cell (p:=⟨b,o+k*66+34+j,none⟩) hb).trans (hc34 j v hv)
    have hb4':b<w4.drew.heap.size:=QFV hb L4.drew.size
    refine Qad [] [0,1,2,3,4,5,6] [] (by as_aux_lemma=>kernel_rfl) (by as_aux_lemma=>kernel_rfl) (by intro _ _ d _ _ h;cases d<;>exact h) ?_
    simp only[Qah,pick,QFv,QFw,QFx,QFy,QFz]
    repeat (first|go_big_quiet_skip|(go_big_quiet_want;(first|refine QAC _ rfl hb4.drew y.2 rfl ?_|refine Ql6 _ rfl hc34' hb4' x.pub.2 rfl ?_);simp only[Act.put,QFD,QFH,QFG];go_big_quiet_on)|(go_big_quiet_step (fail)))
    refine wpQuiet_nil ?_
    replace L:=(L.trans L4).drew
    go_wp2
    all_goals
     rename_i he
     first
      | exact⟨⟨k+1,by go_num,by omega,hid (hgood.out (by rw[hfit];simpa using he)),L⟩,by simp[intOf];omega⟩
      | (go_ret2;exact⟨by rw[hbad.out (by rw[hfit];simpa using he),h00.out];rfl,L⟩)
   ·obtain rfl:k=n:=by omega
    have hf:Qig xs=true:=QA0 h00.out (by rw[hl0];exact hp.out)
    go_wp2
    go_ret2
    exact⟨by rw[hf,h00.out];rfl,L⟩
 ·have hf:=hid (QAz h0)
  have hne:((QaY xs:Int) != 0)=true:=by simpa using h0
  clear h0
  go_wp2
  go_ret2
  exact⟨by rw[hf.out];rfl,L⟩
def QEE:List UInt8:=[110,111,100,101]
def keyK (seed:List UInt8) (s:ByteArray):List UInt8:=expB (Qbm QEE seed) (strB s) 32
theorem Qod (seed:List UInt8) (s:ByteArray):(keyK seed s).length=32:=QiX _ _ _
def keyY (seed:List UInt8) (s:ByteArray):Y32:=⟨keyK seed s,Qod seed s⟩
def pubY (K:List UInt8):Y32:=⟨pubK K,Qoq K⟩
def keyed (seed:List UInt8) (i:Nat) (s:ByteArray):Nod:=⟨s,QFZ (i+1),keyY seed s,pubY (keyK seed s)⟩
theorem Qer {P:Program} {t:TypeId} {d:TypeDesc} {k:Nat} {v:Value} (hu:P.underlying t=some d) (hd:QbY d=false) {zs:List Value} (hz:zs[k]?=some v) (w:World):(part t zs.toArray k).run P w= .ok v w:=by
 have ha:(isAgg t).run P w= .ok false w:=by
  unfold isAgg
  simp only[Sem.run_bind,run_underlying hu]
  cases d<;>simp_all [QbY]
 unfold part
 simp[Sem.run_bind,ha,Result.andThen_ok,hz]
theorem Qm8 {P:Program} {d k:Nat} {t:TypeId} {f:Field} {fs:List Field} (hf:f.type=t) (hu:P.underlying t=some .string) (hn:f.name≠ "_") {xs ys:List Value} {p q:ByteArray} (ho:f.offset=k) (hp:xs[k]?=some (.string p)) (hq:ys[k]?=some (.string q)) (w:World):
 (Op.eqFields (d+1) xs.toArray ys.toArray (f :: fs)).run P w=if p.toList==q.toList then (Op.eqFields (d+1) xs.toArray ys.toArray fs).run P w else .ok false w:=by
 rw[Op.eqFields,if_pos hn]
 simp only[Sem.run_bind,hf,ho,Qer hu rfl hp,Qer hu rfl hq,Result.andThen_ok,run_equalIn_string w d t p q hu]
 cases p.toList==q.toList<;>simp
theorem Qmg {P:Program} {d k:Nat} {t:TypeId} {f:Field} {fs:List Field} (hf:f.type=t) (hu:P.underlying t=some (.int .u64)) (hn:f.name≠ "_") {xs ys:List Value} {p q:UInt64} (ho:f.offset=k) (hp:xs[k]?=some (W64 p)) (hq:ys[k]?=some (W64 q)) (w:World):
 (Op.eqFields (d+1) xs.toArray ys.toArray (f :: fs)).run P w=if p==q then (Op.eqFields (d+1) xs.toArray ys.toArray fs).run P w else .ok false w:=by
 rw[Op.eqFields,if_pos hn]
 simp only[Sem.run_bind,hf,ho,Qer hu rfl hp,Qer hu rfl hq,Result.andThen_ok,QjJ t _ hu d p q w]
 cases p==q<;>simp
def QrG (x y:Nod):Bool:=x.nm.toList==y.nm.toList&&(x.id==y.id&&(x.priv.val==y.priv.val&&x.pub.val==y.pub.val))
@[go_sem] theorem QBm (x:Nod):QrG x x=true:=by simp[QrG]
theorem QmE (x:Nod):((NC x).drop 2).take 32=x.priv.val.map W8:=by
 have h1:(x.priv.val.map W8).length=32:=by rw[QFA,x.priv.2]
 rw[NC,QHc,QHc,QHM,QGv h1]
theorem Qqc (x:Nod):((NC x).drop 34).take 32=x.pub.val.map W8:=by
 have h1:(x.priv.val.map W8).length=32:=by rw[QFA,x.priv.2]
 rw[NC,show (34:Nat)=32+1+1 from rfl,QHc,QHc,QGe h1,QFJ (by rw[QFA,x.pub.2];omega)]
set_option maxRecDepth 100000 in
theorem Qji (x y:Nod) (w:World) {fs:Array Field} (hu:Tryz.prog.underlying 47=some (.struct fs)):(Op.eqFields 9999 (NC x).toArray (NC y).toArray fs.toList).run Tryz.prog w= .ok (QrG x y) w:=by
 rw[Tryz.underlying47]at hu
 cases hu
 rw[Qm8 (d:=9998) (k:=0) rfl Tryz.underlying9 (by decide) rfl rfl rfl,Qmg (d:=9998) (k:=1) rfl Tryz.underlying24 (by decide) rfl rfl rfl,
  Qcg (d:=9997) (k:=2) rfl (by decide) rfl (QmE x) (QmE y) x.priv.2 y.priv.2,Qcg (d:=9997) (k:=34) rfl (by decide) rfl (Qqc x) (Qqc y) x.pub.2 y.pub.2,Qdu]
 rw[QrG]
 cases x.nm.toList==y.nm.toList<;>cases x.id==y.id<;>cases x.priv.val==y.priv.val<;>cases x.pub.val==y.pub.val<;>rfl
theorem QAx:Tryz.prog.eqGuardType Tryz.prog.depth 47=false:=by kernel_rfl
@[go_sem high] theorem QzG (op:BinOp) (x y:Operand) (xs ys:Array Value) (w:World):(eqGuard op 47 x y (.agg xs) (.agg ys)).run Tryz.prog w= .ok () w:=run_eqGuard_agg w op _ x y xs ys QAx
set_option maxRecDepth 100000 in
@[go_sem high] theorem Qzj (x y:Nod) (w:World):(binOp .eql 47 (.agg (NC x).toArray) (.agg (NC y).toArray)).run Tryz.prog w= .ok (.bool (QrG x y)) w:=by
  rw[Qhn Tryz.underlying47 (by kernel_rfl),Qji x y w Tryz.underlying47]
  rfl
set_option maxRecDepth 100000 in
@[go_sem high] theorem Qzl (x y:Nod) (w:World):(binOp .neq 47 (.agg (NC x).toArray) (.agg (NC y).toArray)).run Tryz.prog w= .ok (.bool (!QrG x y)) w:=by
  rw[QiW Tryz.underlying47 (by kernel_rfl),Qji x y w Tryz.underlying47]
  rfl
theorem Qx7:(Tryz.prog.info? 47).map (·.size)=some 66:=by kernel_rfl
section
variable {ops:Array Oper} {rest:List Oper} {o:Oper} {a:Act} {w:World} {Q:Exit→Act→World→Prop}
theorem Qwg (hgd:Region.wanted o (yielded ops a.tmps)=true) (x:Operand) (ho:o.op= .load 47 x) {g off:Nat} {y:Nod} (hc:∀i v,(NC y)[i]?=some v→w.cell? ⟨g,off+i,none⟩=some v) (hx:a.eval x= .pointer (some ⟨g,off,none⟩))
 (h:wpList Tryz.prog ops Q rest (a.put o.dst (.agg (NC y).toArray)) w):wpList Tryz.prog ops Q (o :: rest) a w:=
 Qar hgd _ x ho g off _ hc hx _ Tryz.underlying47 rfl (by rw[QaJ];exact Qx7) h
theorem QtB {J:Act→Prop} (x:Operand) (ho:o.op= .load 47 x) {w0:World} {g off:Nat} {y:Nod} (hc:∀i v,(NC y)[i]?=some v→w0.cell? ⟨g,off+i,none⟩=some v) (hg:g<w0.heap.size) (hx:a.eval x= .pointer (some ⟨g,off,none⟩)) (h:J (a.put o.dst (.agg (NC y).toArray))):
 o.quiet Tryz.prog a (fun w'=>∃x,w'=grow w0 x) J:=
 QaP _ x ho g off (NC y) (fun w' hw j v hv=>by obtain⟨y,rfl⟩:=hw;exact ((Later.below ⟨y,rfl⟩).cell (p:=⟨g,off+j,none⟩) hg).trans (hc j v hv)) hx _ Tryz.underlying47 rfl (by rw[QaJ];exact Qx7) h
end
theorem QCy:(Tryz.prog.info? 106).bind (·.zero)=some (.agg (NC nod0).toArray):=by kernel_rfl
theorem Qfg:(Tryz.prog.info? 106).map (·.size)=some 66:=by kernel_rfl
theorem Qru (l:List Value) (x:Nod) (h:l.length=66):Qat l 0 (NC x)=NC x:=Qap _ _ (by rw[QaJ,h])
theorem Qpi (x:Nod):Tryz.prog.built 106 [(0,.agg (NC x).toArray)]=some (NC x).toArray:=by
 rw[Qa0 (pl:=[(0,66)]) Tryz.underlying106 QCy (by kernel_rfl),QaR (vs:=NC x) (off:=0) rfl (by rw[QaJ];rfl) (by rw[QaJ,QaJ];omega),Qb5,Qru _ _ (QaJ _)]
theorem QhW:Tryz.prog.built 106 []=some (NC nod0).toArray:=by
 rw[Qa0 (pl:=[(0,66)]) Tryz.underlying106 QCy (by kernel_rfl),Qb5]
section
variable {ops:Array Oper} {rest:List Oper} {o:Oper} {a:Act} {w:World} {Q:Exit→Act→World→Prop}
theorem QfZ {ty:TypeId} (hi:(Tryz.prog.info? ty).map (·.size)=some 66) (hgd:o.guard=none) (hd:o.dst=none) (x y:Operand) (ho:o.op= .store ty x y) {g:Nat} {t:TypeId} {l:List Value} {z:Nod} (hg:Blk w g t l) (hx:a.eval x= .pointer (some ⟨g,0,none⟩)) (hy:a.eval y= .agg (NC z).toArray) (hl:l.length=66)
 (h:∀w',Blk w' g t (NC z)→Only g w w'→wpList Tryz.prog ops Q rest a w'):wpList Tryz.prog ops Q (o :: rest) a w:=
 Qaj hgd hd _ x y ho g t l _ hg hx hy 66 hi (QaJ _) hl (Qx3 _) h
theorem Qn0 {J:Act→Prop} (x:Operand) (ho:o.op= .load 106 x) {w0:World} {g off:Nat} {y:Nod} (hc:∀i v,(NC y)[i]?=some v→w0.cell? ⟨g,off+i,none⟩=some v) (hg:g<w0.heap.size) (hx:a.eval x= .pointer (some ⟨g,off,none⟩)) (h:J (a.put o.dst (.agg (NC y).toArray))):
 o.quiet Tryz.prog a (fun w'=>∃x,w'=grow w0 x) J:=
 QaP _ x ho g off (NC y) (fun w' hw j v hv=>by obtain⟨y,rfl⟩:=hw;exact ((Later.below ⟨y,rfl⟩).cell (p:=⟨g,off+j,none⟩) hg).trans (hc j v hv)) hx _ Tryz.underlying106 rfl (by rw[QaJ];exact Qfg) h
end
def Qgs (p:Nod→Bool) (xs:List Nod):Nod×Nat:=match xs.find? p with|some x=>(x,0)|none=>(nod0,4)
theorem Qme {xs:List Nod} {p:Nod→Bool} {k:Nat} (hk:k<xs.length) (hp:∀j,j<k→p (xs.getD j nod0)=false) (h:p (xs.getD k nod0)=true):Qgs p xs=(xs.getD k nod0,0):=by
 have:xs.find? p=some (xs.getD k nod0):=by
  rw[List.find?_eq_some_iff_getElem]
  refine⟨h,k,hk,by rw[QFC,QFB hk];rfl,fun j hj=>?_⟩
  have:=hp j hj
  rw[QFC,QFB (by omega)]at this
  simpa using this
 rw[Qgs,this]
theorem Qql {xs:List Nod} {p:Nod→Bool} (hp:∀j,j<xs.length→p (xs.getD j nod0)=false):Qgs p xs=(nod0,4):=by
 have:xs.find? p=none:=by
  rw[List.find?_eq_none]
  intro x hx
  obtain⟨k,hk,rfl⟩:=QHk hx
  have:=hp k hk
  rw[QFC,QFB hk]at this
  simpa using this
 rw[Qgs,this]
def Qd2 (s:ByteArray) (x:Nod):Bool:=x.nm.toList==s.toList
def byId (i:UInt64) (x:Nod):Bool:=x.id==i
def Qb4 (p:Nod→Bool) (xs:List Nod):Nod×Nat:=if QaY xs=0 then Qgs p xs else (nod0,QaY xs)
set_option maxRecDepth 100000 in
theorem QAQ (A:Option Addr) (n c:Nat) (xs:List Nod) (i:UInt64) (w:World) (hx:RdN w A n xs) (hn:n≤1099511627776) (hs:∀x∈xs,x.nm.size≤140737488355328):
 Calls Tryz.prog 33 #[.slice A n c,W64 i] w fun e w'=>e= .returned (.tuple #[.agg (NC (Qb4 (byId i) xs).1).toArray,.int .i64 (Qb4 (byId i) xs).2])∧Later w w':=by
 have hl0:=hx.1
 have hb0:Blk (w.alloc (.cells (NC nod0).toArray 106)) w.heap.size 106 (NC nod0):=Blk.new _ _ _
 have hC:=hid (fun w h=>Qkb A n c xs w h hn hs)
 go_enter Tryz.func33,Tryz.ntmps33
 go_wp2_with fail
 refine (hC.out _ (hx.later (Qaa _ _))).mono ?_
 rintro e w1 ⟨rfl,l1⟩
 replace hb0:=hb0.later l1
 have L:=(Qaa w (.cells (NC nod0).toArray 106)).trans l1
 by_cases h0:QaY xs=0
 ·have hres:=hid (show Qb4 (byId i) xs=Qgs (byId i) xs by rw[Qb4,if_pos h0])
  rw[h0]
  clear h0
  go_wp2
  go_loopw [16] (fun j wr=>∃k:Nat,j= .int .i64 k∧k≤n∧Hid (∀ j,j<k→byId i (xs.getD j nod0)=false)∧Blk wr w.heap.size 106 (NC nod0)∧Later w wr) (fun j _=>n-(intOf j).toNat)
  case atStart=>exact⟨0,rfl,by omega,hid (fun j hj=>absurd hj (by omega)),hb0,L⟩
  case round=>
   clear hb0 L
   obtain⟨k,rfl,hk,hp,hb0,L⟩:=hrel
   by_cases hlt:k<n
   ·obtain⟨b,o,rfl,hb,hc⟩:=(hx.later L).at_ hlt
    have hhit:=hid (fun h:byId i (xs.getD k nod0)=true=>Qme (p:=byId i) (by omega) hp.out h)
    have hnext:=hid (fun h:byId i (xs.getD k nod0)=false=>QbR (p:=fun j=>byId i (xs.getD j nod0)=false) hp.out h)
    generalize xs.getD k nod0=x at *
    have c1:wr.cell? ⟨b,o+k*66+1,none⟩=some (W64 x.id):=hc 1 _ rfl
    cases hie:(x.id==i)
    ·go_wp2
     exact⟨⟨k+1,rfl,by omega,hid (hnext.out hie),hb0,L⟩,by simp[intOf];omega⟩
    ·have hres2:=hid (hres.out.trans (hhit.out hie))
     go_wp2_with (first
      | (refine Qwg rfl _ rfl hc rfl ?_)
      | (refine Qak rfl _ _ rfl (NC x) (by simp only[QFI,QFW,QFR];exact Qpi x) ?_)
      | (refine QfZ Qfg rfl rfl _ _ rfl hb0 rfl rfl (QaJ _) ?_;intro w9 hb9 ho9)
      | fail)
     exact bodyPost_ret (Qaf rfl _ _ _ _ _ _ hb9 rfl Tryz.underlying106 rfl (by rw[QaJ];exact Qfg)) rfl ⟨by rw[hres2.out];rfl,L.only ho9 (QFE _)⟩
   ·obtain rfl:k=n:=by omega
    have hres2:=hid (hres.out.trans (Qql (p:=byId i) (xs:=xs) (by rw[hl0];exact hp.out)))
    go_wp2_with (first
     | (refine Qak rfl _ _ rfl (NC nod0) (by simp only[QFI,QFR];exact QhW) ?_)
     | (refine QfZ Qfg rfl rfl _ _ rfl hb0 rfl rfl (QaJ _) ?_;intro w9 hb9 ho9)
     | fail)
    exact bodyPost_ret (Qaf rfl _ _ _ _ _ _ hb9 rfl Tryz.underlying106 rfl (by rw[QaJ];exact Qfg)) rfl ⟨by rw[hres2.out];rfl,L.only ho9 (QFE _)⟩
 ·have hres:=hid (show Qb4 (byId i) xs=(nod0,QaY xs) by rw[Qb4,if_neg h0])
  have hne:((QaY xs:Int) != 0)=true:=by simpa using h0
  clear h0
  go_wp2_with (first
   | (refine Qak rfl _ _ rfl (NC nod0) (by simp only[QFI,QFR];exact QhW) ?_)
   | (refine QfZ Qfg rfl rfl _ _ rfl hb0 rfl rfl (QaJ _) ?_;intro w9 hb9 ho9)
   | fail)
  exact bodyPost_ret (Qaf rfl _ _ _ _ _ _ hb9 rfl Tryz.underlying106 rfl (by rw[QaJ];exact Qfg)) rfl ⟨by rw[hres.out];rfl,L.only ho9 (QFE _)⟩
theorem KeptOk.ct {ks:List Prt} (h:KeptOk ks) (hne:ks≠[]):1≤ctOf ks∧ctOf ks≤16∧(ks.length:Int)≤ctOf ks∧∀q∈ks,q.ct=ctOf ks:=by
 have hl:ks.getLast?=some (ks.getLast hne):=List.getLast?_eq_some_getLast hne
 have hm:=List.getLast_mem hne
 generalize ks.getLast hne=l at hl hm
 have hc:ctOf ks=l.ct:=by rw[ctOf,hl];rfl
 obtain⟨h1,h2,_⟩:=Qju (h.good l hm).2
 have hs:∀q∈ks,q.ct=l.ct:=fun q hq=>h.same q hq l hm
 rw[hc]
 exact⟨h1,h2,h.le hs (by omega),hs⟩
theorem QBg {ks:List Prt} (h:KeptOk ks) (i:Nat):(daAt ks i).length≤450:=by
 unfold daAt
 cases hf:ks.find? (fun q=>q.ix==(i:Int)) with
 | none=>simp
 | some r=>exact (Qju (h.good r (List.mem_of_find?_eq_some hf)).2).2.2.2.2
theorem Qua {f:Nat→List UInt8} {c:Nat} (h:∀i,(f i).length≤c):∀n,((QF6 n).map f).flatten.length≤n*c
 | 0=>by simp
 | n+1=>by
   have:=Qua h n
   have:=h n
   rw[QG4,QF2,QHF,QFF,Nat.add_mul]
   simp only[QFW,QFR,QHu,List.flatten_nil,QGb]
   omega
set_option maxRecDepth 100000 in
set_option maxHeartbeats 4000000 in
theorem QtJ (base g:Nat) (id:UInt64) (ks:List Prt) (pv:List Value) (p:Prt) (A:Option Addr) (n c:Nat) (bt:Nat) (t:TypeId) (w:World) (hm:MsgAt w base g id ks pv) (hk:KeptOk ks) (hr:RdB w A n p.da) (hav:Avoid (· =g) A n) (hb:base≤w.heap.size) (hkl:ks.length≤1048576)
 (hbt:Blk w bt t (PaC p (.slice A n c))):
 Calls Tryz.prog 43 #[.pointer (some ⟨g,0,none⟩),.slice (some ⟨bt,0,none⟩) 1 1] w fun e w'=>e= .returned (.int .i64 (tkE pid id ks p:Nat))∧(∃ pv',MsgAt w' base g id (tkK pid id ks p) pv')∧Only g w w':=by
 have H:=hid (fun (w':World) (l:Later w w')=>QoB base g id ks pv p A n c w' (hm.later l) hk (hr.later l) hav (QGh hb l.size) hkl)
 generalize tkE pid id ks p=E at *
 generalize tkK pid id ks p=K at *
 clear hm hk hr hav
 go_enter Tryz.func43,Tryz.ntmps43
 go_wp2
 go_loopw [5,11] (fun f i wr=>(i= .int .i64 0∧f= .int .i64 0∧Later w wr)∨(i= .int .i64 1∧f= .int .i64 (E:Nat)∧(∃ pv',MsgAt wr base g id K pv')∧Only g w wr)) (fun _ i _=>1-(intOf i).toNat)
 case atStart=>exact .inl ⟨rfl,rfl,Later.refl w⟩
 case round=>
  rcases hrel with ⟨rfl,rfl,L⟩|⟨rfl,rfl,h2,h3⟩
  ·have hbt':=hbt.later L
   have hbl:=hbt'.lt
   have B1:=Qbb wr 36 pz0
   go_wp2_with (first
    | (refine Qea rfl _ rfl hbt' rfl ?_)
    | (refine Qb6 rfl rfl _ _ rfl (B1.nth 0 rfl) rfl rfl rfl rfl ?_;intro w2 hb2 ho2
       have l2:Later wr w2:=B1.lat.only ho2 (QFE _))
    | (refine Qea rfl _ rfl hb2 rfl ?_)
    | fail)
   (refine (H.out _ (L.trans l2)).mono ?_);rintro e w3 ⟨rfl,hM3,o3⟩
   have O3:Only g w w3:=(L.trans l2).thenOnly o3
   clear H hbt' B1 hb2 ho2 l2 o3 L
   by_cases hE:E=0
   ·subst hE
    go_wp2_with fail
    exact⟨.inr ⟨by go_num,rfl,hM3,O3⟩,by simp[intOf]⟩
   ·have hE1:((E:Int) != 0)=true:=by
     rw[bne_iff_ne]
     omega
    go_wp2_with fail
    exact⟨.inr ⟨by go_num,rfl,hM3,O3⟩,by simp[intOf]⟩
  ·go_wp2_with fail
   go_ret
   exact⟨rfl,h2,h3⟩
set_option maxRecDepth 100000 in
theorem QjI (base g:Nat) (id:UInt64) (ks:List Prt) (pv:List Value) (w:World) (hm:MsgAt w base g id ks pv) (hk:KeptOk ks) (hne:ks≠[]):
 Calls Tryz.prog 44 #[.pointer (some ⟨g,0,none⟩)] w fun e w'=>e= .returned (.int .i64 (ctOf ks-(ks.length:Int)))∧Later w w':=by
 obtain⟨c0,c1,c2⟩:=hm.cells
 obtain⟨h1,h2,h3,_⟩:=hk.ct hne
 have hpos:=List.length_pos_iff.2 hne
 generalize ctOf ks=CT at *
 generalize ks.length=KL at *
 have h0:decide ((KL:Int)=0)=false:=decide_eq_false (by omega)
 go_enter Tryz.func44,Tryz.ntmps44
 go_wp2_with fail
 refine Qad [] [0,1,2,3,4,5,6,7,8,9] [] (by as_aux_lemma=>kernel_rfl) (by as_aux_lemma=>kernel_rfl) (by intro _ _ d _ _ h;cases d<;>exact h) ?_
 simp only[Qah,pick,QFv,QFw,QFx,QFy,QFz]
 repeat (go_big_quiet_step (fail))
 refine wpQuiet_nil ?_
 go_wp2_with fail
 go_ret
 exact⟨rfl,Qab w⟩
set_option maxRecDepth 100000 in
set_option maxHeartbeats 1000000 in
theorem Qro (base g:Nat) (id:UInt64) (ks:List Prt) (pv:List Value) (w:World) (hm:MsgAt w base g id ks pv) (hk:KeptOk ks) (hne:ks≠[]) (hf:(ks.length:Int)=ctOf ks):
 Calls Tryz.prog 45 #[.pointer (some ⟨g,0,none⟩)] w fun e w'=>∃A n c,e= .returned (.tuple #[.slice A n c,.int .i64 0])∧OwnB w' w.heap.size A n c (QoX ks)∧Later w w':=by
 have HM:=hid (fun (w':World) (l:Later w w')=>QjI base g id ks pv w' (hm.later l) hk hne)
 obtain⟨h1,h2,h3,_⟩:=hk.ct hne
 have hw:=QwM hk
 have hfl:(QF6 ks.length).flatMap (daAt ks)=((QF6 ks.length).map (daAt ks)).flatten:=by rw[List.flatMap_def]
 rw[hfl]at hw
 have hle:=Qua (QBg hk) ks.length
 have hP:Hid (∀ w',Later w w'→Parts w' (fun _=>False) (some ⟨g,19,none⟩) ks.length ((QF6 ks.length).map (daAt ks))):=by
  refine hid fun w' l=>⟨pv.take ks.length,?_,fun _ _ _ h=>h,by rw[QFY,hm.len,QFA,List.length_range];omega,fun j v p hv hp=>?_⟩
  ·refine⟨by rw[QFY,hm.len];omega,fun _=>⟨g,19,rfl,(hm.blk.later l).lt,fun j u hu=>?_⟩⟩
   rw[QGX]at hu
   split at hu
   ·refine (hm.blk.later l).cellD (19+j) ?_
    have hl:((hvOf ks).map Value.bool).length=16:=by simp[hvOf]
    rw[MsC,show 19+j=(16+j)+1+1+1 by omega,QFv,QFv,QFv,QFK (by omega),hl,show 16+j-16=j by omega]
    exact hu
   ·cases hu
  ·rw[QGX]at hv
   split at hv
   ·rename_i hj
    rw[QFN,QGM hj]at hp
    obtain rfl:daAt ks j=p:=Option.some.inj hp
    rcases (hm.later l).pcs j v hv with ⟨rfl,e⟩|⟨gp,rfl,_,hb⟩
    ·exact⟨none,0,0,rfl,QFE _,by rw[e];exact QlC w',fun _ _ h=>by cases h⟩
    ·exact⟨_,_,_,rfl,QFE _,hb.rd (by simp),fun _ _ _ h=>h⟩
   ·cases hv
 obtain⟨c0,c1,c2⟩:=hm.cells
 have HJ:=hid (fun (w':World) (l:Later w w')=>Qg9 (some ⟨g,19,none⟩) ks.length 16 _ w' (hP.out w' l) (by omega) (by omega))
 rw[←hf]at h2 HM c1
 rw[Int.sub_self]at HM
 rw[←hw]at HJ
 generalize QoX ks=W at *
 generalize ks.length=KL at *
 clear hP hw hfl hle hf
 go_enter Tryz.func45,Tryz.ntmps45
 go_wp2_with fail
 (refine (HM.out _ (Later.refl w)).mono ?_);rintro e w2 ⟨rfl,j2⟩
 have hb2:=hm.blk.later j2
 have d1:w2.cell? ⟨g,1,none⟩=some (.int .i64 (KL:Nat)):=(j2.below.cell (p:=⟨g,1,none⟩) hm.blk.lt).trans c1
 go_wp2_with fail
 refine Qad [([0,1,2,3,4,5,6,7],8)] [9,10] [] (by as_aux_lemma=>kernel_rfl) (by as_aux_lemma=>kernel_rfl) (by intro _ _ d _ _ h;cases d<;>exact h) ?_
 simp only[Qah,pick,QFv,QFw,QFx,QFy,QFz]
 repeat (go_big_quiet_step (fail))
 refine wpQuiet_nil ?_
 go_wp2_with fail
 (refine (HJ.out _ (j2.trans (Qab _))).mono ?_);rintro e w3 ⟨A',c',rfl,hown,j3⟩
 go_wp2_with fail
 try refine⟨by first|assumption|exact Qab _|exact Qaa _ _|exact Later.refl _,?_⟩
 try simp only[Qah,pick,QFv,QFw,QFx,QFy,QFz]
 repeat (go_big_quiet_step (fail))
 refine wpQuiet_nil ?_
 go_wp2_with fail
 go_ret2
 exact⟨_,_,_,rfl,Qbc hown (j2.trans (Qab _)).size,(j2.trans (Qab _)).trans j3⟩
end Go.Proofs.YtcbdgnlcknllnaaGreat
namespace Go.Proofs.YtcbdgnlcknllnaaGreat
open Go.RowKit Go.Maps
def ptrV:Option Nat→Value
 | none=>.pointer none
 | some b=>.pointer (some ⟨b,0,none⟩)
def ptrD:Option Nat→DataW Unit
 | none=>.lit (.bool false)
 | some b=>.lit (.int .i64 b)
def ptrR (v:Value):Option (DataW Unit×List MemPlace):=
 match v with
 | .pointer none=>some (ptrD none,[])
 | .pointer (some ⟨b,0,none⟩)=>some (ptrD (some b),[])
 | _=>none
theorem QsI (x:Option Nat):ptrR (ptrV x)=some (ptrD x,[]):=by cases x<;>rfl
theorem QpJ {x y:Option Nat} (h:ptrD x=ptrD y):x=y:=by
 cases x<;>cases y<;>simp[ptrD]at h<;>first|rfl|(subst h;rfl)|(have:(_:Int)=_:=h;congr 1;omega)
theorem Qv5 {v:Value} {x:Option Nat} {ps:List MemPlace} (h:ptrR v=some (ptrD x,ps)):v=ptrV x:=by
 unfold ptrR at h
 split at h
 ·simp only[Option.some.injEq,Prod.mk.injEq]at h
  rw[←QpJ h.1]
  rfl
 ·simp only[Option.some.injEq,Prod.mk.injEq]at h
  rw[←QpJ h.1]
  rfl
 ·cases h
structure PKey (P:Program) (k:TypeId) (α:Type) where
 kv:α→Value
 kl:α→Lit
 ok:∀x,keyOf P k (kv x)=some (kl x)
 inj:∀x y,kv x=kv y→x=y
 law:Keyed P k
def PMap {P:Program} {k:TypeId} {α:Type} (w:World) (K:PKey P k α) (b n:Nat) (f:α→Option Nat):Prop:=
 ∃D:DataW Unit,w.ownsMap P k ptrR b n D∧∀x,D.atKey (K.kl x) (ptrD none)=ptrD (f x)
section
variable {P:Program} {k t e:TypeId} {α:Type} {w w':World} {K:PKey P k α} {b n:Nat} {f:α→Option Nat}
theorem PKey.kl_inj (K:PKey P k α) {x y:α} (h:K.kl x=K.kl y):x=y:=K.inj x y (K.law.inj (K.ok x) (h ▸ K.ok y))
theorem PMap.made (w:World) (K:PKey P k α):PMap (w.alloc (.map #[] 0)) K w.heap.size 0 (fun _=>none):=⟨_,World.ownsMap_made w P k ptrR,fun _=>rfl⟩
theorem PMap.only (h:PMap w K b n f) {g:Nat} (ho:Only g w w') (hne:b≠g):PMap w' K b n f:=by
 obtain⟨D,h1,h2⟩:=h
 exact⟨D,h1.kept ho (by simpa using hne),h2⟩
theorem PMap.grown (h:PMap w K b n f) {row:Option Nat} (ho:w.grownBy w' row) (hne:some b≠row):PMap w' K b n f:=by
 obtain⟨D,h1,h2⟩:=h
 exact⟨D,h1.kept ho hne,h2⟩
theorem PMap.lt (h:PMap w K b n f):b<w.heap.size:=let ⟨_,h1,_⟩:=h;h1.lt
theorem PMap.later (h:PMap w K b n f) (hl:Later w w'):PMap w' K b n f:=by
 refine h.only (hl.onlyAny (b+1)) (by omega)
theorem PMap.look (h:PMap w K b n f) (ht:P.underlying t=some (.map k e)) (hz:(zeroValue e).run P w= .ok (.pointer none) w) (x:α):
 (Instr.lookup t (.map (some b)) (K.kv x) false).run P w= .ok (ptrV (f x)) w:=by
 obtain⟨D,h1,h2⟩:=h
 obtain⟨v,ps,hrun,hv⟩:=h1.lookup K.law ht hz (QsI none) (K.ok x)
 rw[h2]at hv
 rw[hrun,Qv5 hv]
theorem PMap.put [DecidableEq α] (h:PMap w K b n f) (ht:P.underlying t=some (.map k e)) (hn:n<maxLen) (x:α) (g:Nat):
 ∃w',(Instr.mapUpdate t (.map (some b)) (K.kv x) (.pointer (some ⟨g,0,none⟩))).run P w= .ok () w'∧PMap w' K b (n+1) (fun y=>if y=x then some g else f y)∧Only b w w':=by
 obtain⟨D,h1,h2⟩:=h
 obtain⟨w',hrun,h3,h4⟩:=h1.update K.law ht hn (K.ok x) (QsI (some g))
 refine⟨w',hrun,⟨_,h3,fun y=>?_⟩,h4⟩
 by_cases hyx:y=x
 ·subst hyx
  simp only[if_true]
  exact atKey_put_same h1.isMap (K.law.key (K.ok y)) _ _
 ·simp only[hyx,if_false]
  rw[atKey_put_other (fun hc=>hyx (K.kl_inj hc))]
  exact h2 y
variable {ops:Array Oper} {rest:List Oper} {o:Oper} {a:Act} {Q:Exit→Act→World→Prop}
theorem Qjt (hg:o.guard=none) (m x:Operand) (hop:o.op=Op.lookup t m x false) (ht:P.underlying t=some (.map k e)) (hz:(zeroValue e).run P w= .ok (.pointer none) w)
 (hm:a.eval m= .map (some b)) (h:PMap w K b n f) (y:α) (hx:a.eval x=K.kv y) (hK:wpList P ops Q rest (a.put o.dst (ptrV (f y))) w):wpList P ops Q (o :: rest) a w:=by
 refine wpList_plain hg fun K' hK'=>?_
 unfold Oper.wp
 simp[execOp,hop,hm,hx,h.look ht hz y,Result.andThen]
 exact hK' _ _ hK
theorem Qrz [DecidableEq α] (hg:o.guard=none) (m x v:Operand) (hop:o.op=Op.mapUpdate t m x v) (ht:P.underlying t=some (.map k e)) (hm:a.eval m= .map (some b)) (h:PMap w K b n f) (hn:n<maxLen) (y:α) (g:Nat)
 (hx:a.eval x=K.kv y) (hv:a.eval v= .pointer (some ⟨g,0,none⟩)) (hK:∀w',PMap w' K b (n+1) (fun z=>if z=y then some g else f z)→Only b w w'→wpList P ops Q rest (a.put o.dst undef) w'):wpList P ops Q (o :: rest) a w:=by
 refine wpList_plain hg fun K' hK'=>?_
 obtain⟨w',hrun,r1,r2⟩:=h.put ht hn y g
 unfold Oper.wp
 simp[execOp,hop,hm,hx,hv,hrun,Result.andThen]
 exact hK' _ _ (hK w' r1 r2)
end
theorem QB9:(128:Nat)<Tryz.prog.types.size:=of_decide_eq_true (by kernel_rfl)
theorem QCp:Tryz.prog.keyTypeAt (Tryz.prog.types.size+1) 128=true:=by kernel_rfl
theorem QB7:(match Tryz.prog.underlying 128 with|some (.array _ _)|some (.struct _)=>true|_=>false)=true:=by kernel_rfl
theorem QCe:laidOutB Tryz.prog=true:=by kernel_rfl
set_option maxRecDepth 100000 in
theorem QFb:Keyed Tryz.prog 128:=Keyed.of_law (deep_law_laid QCe (m:=3) (by omega) QB9 (by kernel_rfl) QB7)
theorem QsQ:Tryz.prog.cellsOf 128=2:=by kernel_rfl
theorem QzV:Tryz.prog.cellsOf 24=1:=by kernel_rfl
theorem wf64 (x:UInt64):(Lit.int .u64 (x.toNat:Int)).wf=true:=by
 have:=x.toNat_lt
 simp[Lit.wf,IntKind.min,IntKind.max,IntKind.signed,IntKind.bits]
 omega
theorem Quw (d:Nat) (x:UInt64):Tryz.prog.keyLits (d+1) 24 [W64 x]=some [.int .u64 (x.toNat:Int)]:=by
 unfold Program.keyLits
 rw[Tryz.underlying24]
 simp[W64,wf64]
theorem Qtw (d:Nat) (x y:UInt64):Tryz.prog.keyLits (d+2) 128 [W64 x,W64 y]=some [.int .u64 (x.toNat:Int),.int .u64 (y.toNat:Int)]:=by
 unfold Program.keyLits
 rw[Tryz.underlying128]
 simp[QsQ,QzV,Quw]
def QzE:PKey Tryz.prog 128 (UInt64×UInt64) where
 kv x:=.agg #[W64 x.1,W64 x.2]
 kl x:=.string (keyBytes [.int .u64 (x.1.toNat:Int),.int .u64 (x.2.toNat:Int)])
 ok x:=by
  have hf:(Value.agg #[W64 x.1,W64 x.2]).formed Tryz.prog 128=true:=by
   simp[Value.formed,Tryz.underlying128,QsQ]
  unfold keyOf
  rw[Tryz.underlying128]
  have hk:Tryz.prog.keyType 128=true:=QCp
  obtain⟨d,hd⟩:∃d,Tryz.prog.types.size+1=d+2:=⟨Tryz.prog.types.size-1,by have:=QB9;omega⟩
  simp only[hk,hf,Bool.and_self,if_true,hd]
  show (Tryz.prog.keyLits (d+2) 128 [W64 x.1,W64 x.2]).map _=_
  rw[Qtw]
  rfl
 inj x y h:=by
  have h1:[W64 x.1,W64 x.2]=[W64 y.1,W64 y.2]:=congrArg Array.toList (Value.agg.inj h)
  have h2:W64 x.1=W64 y.1:=(List.cons.inj h1).1
  have h3:W64 x.2=W64 y.2:=(List.cons.inj (List.cons.inj h1).2).1
  have e:∀a b:UInt64,W64 a=W64 b→a=b:=fun a b h=>by
   have:(a.toNat:Int)=b.toNat:=by simpa [W64] using h
   exact QHi.1 (by omega)
  exact Prod.ext (e _ _ h2) (e _ _ h3)
 law:=QFb
end Go.Proofs.YtcbdgnlcknllnaaGreat
namespace Go.Proofs.YtcbdgnlcknllnaaGreat
open Go.RowKit
open Go.BigFrame
theorem KeptOk.small {ks:List Prt} (h:KeptOk ks):ks.length≤16:=by
 by_cases hne:ks=[]
 ·simp[hne]
 ·have:=h.ct hne
  omega
structure Ltv where
 lt:Ltr
 va:Option Addr
 vn:Nat
 vc:Nat
def LtC (y:Ltv):List Value:=[W64 y.lt.to,W64 y.lt.id,.int .i64 y.lt.tk,.slice y.va y.vn y.vc]
def lv0:Ltv:=⟨⟨0,0,0,[]⟩,none,0,0⟩
theorem Qzu (y:Ltv):∀u∈LtC y,u.oneCell'=true:=by
 intro u hu
 simp only[LtC,QFP,QFO,or_false]at hu
 rcases hu with rfl|rfl|rfl|rfl<;>rfl
theorem Qks (y:Ltv):(LtC y).length=4:=rfl
section
variable {w w':World} {base sz n:Nat} {e:TypeId} {v:Value} {vs:List Value}
theorem Qm0 {k:Nat} {es:Array MapEntry} {ck:Nat} (h:w.ownsRow base e sz v n vs) (hb:w.heap[k]?=some (.map es ck)) (ho:Only k w w'):w'.ownsRow base e sz v n vs:=by
 refine h.kept ho ?_
 rcases h.2 with ⟨rfl,_⟩|⟨g2,c2,cur2,rfl,_,hh2,_⟩
 ·exact .inl rfl
 ·refine .inr ?_
  intro hc
  have:k=g2:=by simpa [Value.ownBlock] using hc.symm
  subst this
  rw[hb]at hh2
  cases hh2
theorem QiO {k g:Nat} {t:TypeId} {l:List Value} {es:Array MapEntry} {ck:Nat} (h:Blk w g t l) (hb:w.heap[k]?=some (.map es ck)) (ho:Only k w w'):Blk w' g t l:=by
 refine h.only ho fun e=>?_
 subst e
 rw[Blk,hb]at h
 cases h
end
structure LSt (w wr:World) (bm n:Nat) (f:UInt64×UInt64→Option Nat) (K:UInt64×UInt64→List Prt) (v3:Value) (ys:List Ltv):Prop where
 lat:Later w wr
 map:PMap wr QzE bm n f
 low:w.heap.size≤bm
 msg:∀x g,f x=some g→∃pv,MsgAt wr w.heap.size g x.2 (K x) pv
 non:∀x,f x=none→K x=[]
 inj:∀x y g,f x=some g→f y=some g→x=y
 own:wr.ownsRow w.heap.size 83 4 v3 ys.length (ys.flatMap LtC)
 txt:∀y∈ys,OwnB wr w.heap.size y.va y.vn y.vc y.lt.tx
section
variable {w wr w':World} {bm n:Nat} {f:UInt64×UInt64→Option Nat} {K:UInt64×UInt64→List Prt} {v3:Value} {ys:List Ltv}
theorem PMap.obj {P:Program} {k:TypeId} {α:Type} {w:World} {M:PKey P k α} {b n:Nat} {f:α→Option Nat} (h:PMap w M b n f):∃es ck,w.heap[b]?=some (.map es ck):=by
 obtain⟨_,⟨es,ck,h1,_⟩,_⟩:=h
 exact⟨es,ck,h1⟩
theorem LSt.later (h:LSt w wr bm n f K v3 ys) (hl:Later wr w'):LSt w w' bm n f K v3 ys:=
 ⟨h.lat.trans hl,h.map.later hl,h.low,fun x g hx=>(h.msg x g hx).imp fun _ hm=>hm.later hl,h.non,h.inj,Qa7 h.own hl,fun y hy=>Qaq (h.txt y hy) hl⟩
theorem MsgAt.onlyM {base g k:Nat} {id:UInt64} {ks:List Prt} {pv:List Value} {es:Array MapEntry} {ck:Nat} (h:MsgAt wr base g id ks pv) (hb:wr.heap[k]?=some (.map es ck)) (ho:Only k wr w'):MsgAt w' base g id ks pv:=
 ⟨QiO h.blk hb ho,h.low,h.len,fun i v hv=>(h.pcs i v hv).imp (fun h=>h) fun ⟨gp,h1,h2,h3⟩=>⟨gp,h1,h2,QiO h3 hb ho⟩⟩
theorem MsgAt.onlyO {base g k:Nat} {id:UInt64} {ks:List Prt} {pv:List Value} {l:List Value} (h:MsgAt wr base g id ks pv) (hb:Blk wr k 133 l) (hne:g≠k) (ho:Only k wr w'):MsgAt w' base g id ks pv:=
 ⟨h.blk.only ho hne,h.low,h.len,fun i v hv=>(h.pcs i v hv).only hb (by decide) ho⟩
theorem MsgAt.grown {base g b sz m:Nat} {e:TypeId} {v:Value} {vs:List Value} {id:UInt64} {ks:List Prt} {pv:List Value} (h:MsgAt wr base g id ks pv) (hr:wr.ownsRow b e sz v m vs) (h1:(133:TypeId)≠e) (h2:(5:TypeId)≠e) (hg:wr.grownBy w' v.ownBlock):MsgAt w' base g id ks pv:=
 ⟨QcO h.blk hr h1 hg,h.low,h.len,fun i v hv=>(h.pcs i v hv).imp (fun h=>h) fun ⟨gp,k1,k2,k3⟩=>⟨gp,k1,k2,QcO k3 hr h2 hg⟩⟩
theorem LSt.put (h:LSt w wr bm n f K v3 ys) {x0:UInt64×UInt64} {g:Nat} {pv:List Value} (hx:f x0=none) (hm:MsgAt wr w.heap.size g x0.2 [] pv) (hf:∀x,f x≠some g) (hp:PMap w' QzE bm (n+1) (fun x=>if x=x0 then some g else f x)) (ho:Only bm wr w'):
 LSt w w' bm (n+1) (fun x=>if x=x0 then some g else f x) K v3 ys:=by
 obtain⟨es,ck,hb⟩:=h.map.obj
 refine⟨h.lat.only ho h.low,hp,h.low,fun x g' hx'=>?_,fun x hx'=>?_,fun x y g' hx' hy'=>?_,Qm0 h.own hb ho,fun y hy=>?_⟩
 ·by_cases hxx:x=x0
  ·subst hxx
   simp only[if_true,Option.some.injEq]at hx'
   subst hx'
   exact⟨pv,by rw[h.non x hx];exact hm.onlyM hb ho⟩
  ·simp only[hxx,if_false]at hx'
   exact (h.msg x g' hx').imp fun _ hm=>hm.onlyM hb ho
 ·by_cases hxx:x=x0
  ·subst hxx
   simp at hx'
  ·simp only[hxx,if_false]at hx'
   exact h.non x hx'
 ·by_cases hxx:x=x0<;>by_cases hyy:y=x0
  ·exact hxx.trans hyy.symm
  ·simp only[hxx,hyy,if_true,if_false,Option.some.injEq]at hx' hy'
   subst hx'
   exact absurd hy' (hf y)
  ·simp only[hxx,hyy,if_true,if_false,Option.some.injEq]at hx' hy'
   subst hy'
   exact absurd hx' (hf x)
  ·simp only[hxx,hyy,if_false]at hx' hy'
   exact h.inj x y g' hx' hy'
 ·exact Qm0 (h.txt y hy) hb ho
theorem LSt.took (h:LSt w wr bm n f K v3 ys) {x0:UInt64×UInt64} {g:Nat} {pv:List Value} {k':List Prt} (hx:f x0=some g) (hm:MsgAt w' w.heap.size g x0.2 k' pv) (ho:Only g wr w'):LSt w w' bm n f (fun x=>if x=x0 then k' else K x) v3 ys:=by
 obtain⟨pv0,hm0⟩:=h.msg x0 g hx
 obtain⟨es,ck,hb⟩:=h.map.obj
 have hgb:bm≠g:=fun e=>by
  subst e
  have:=hm0.blk
  rw[Blk,hb]at this
  cases this
 refine⟨h.lat.only ho hm0.low,h.map.only ho hgb,h.low,fun x g' hx'=>?_,fun x hx'=>?_,h.inj,QaV h.own hm0.blk (by decide) ho,fun y hy=>?_⟩
 ·by_cases hxx:x=x0
  ·subst hxx
   obtain rfl:g=g':=Option.some.inj (hx.symm.trans hx')
   simp only[if_true]
   exact⟨pv,hm⟩
  ·simp only[hxx,if_false]
   refine (h.msg x g' hx').imp fun _ hm=>hm.onlyO hm0.blk (fun e=>hxx (h.inj x x0 g' hx' (by rw[e];exact hx))) ho
 ·by_cases hxx:x=x0
  ·subst hxx
   rw[hx]at hx'
   cases hx'
  ·simp only[hxx,if_false]
   exact h.non x hx'
 ·exact QaV (h.txt y hy) hm0.blk (by decide) ho
theorem LSt.wrote (h:LSt w wr bm n f K v3 ys) {y:Ltv} {v3':Value} (hown:w'.ownsRow w.heap.size 83 4 v3' (ys.length+1) (ys.flatMap LtC++LtC y)) (hg:wr.grownBy w' v3.ownBlock) (hl:Later w w')
 (ht:OwnB wr w.heap.size y.va y.vn y.vc y.lt.tx):LSt w w' bm n f K v3' (ys++[y]):=by
 obtain⟨es,ck,hb⟩:=h.map.obj
 have hbm:some bm≠v3.ownBlock:=by
  rcases h.own.2 with ⟨rfl,_⟩|⟨g2,c2,cur2,rfl,_,hh2,_⟩
  ·simp[Value.ownBlock]
  ·intro e
   have:bm=g2:=by simpa [Value.ownBlock] using e
   subst this
   rw[hb]at hh2
   cases hh2
 have txt:∀y:Ltv,OwnB wr w.heap.size y.va y.vn y.vc y.lt.tx→OwnB w' w.heap.size y.va y.vn y.vc y.lt.tx:=fun y h2=>QeO h2 h.own (by decide) hg
 refine⟨hl,h.map.grown hg hbm,h.low,fun x g hx=>(h.msg x g hx).imp fun _ hm=>hm.grown h.own (by decide) (by decide) hg,h.non,h.inj,?_,fun z hz=>?_⟩
 ·rw[QFF,List.length_singleton,QHG]
  simpa using hown
 ·rcases QGC.1 hz with hz|hz
  ·exact txt z (h.txt z hz)
  ·obtain rfl:z=y:=by simpa using hz
   exact txt z ht
end
theorem QoM (x:Arv) (h:x.va.oneCell'=true):∀u∈AvC x,u.oneCell'=true:=by
 intro u hu
 rcases QGC.1 hu with hu|hu
 ·exact QiY _ h u hu
 ·simp only[QFP,QGf]at hu
  rcases hu with rfl|rfl|rfl|⟨b,_,rfl⟩<;>rfl
theorem QhC:(Tryz.prog.info? 60).map (·.size)=some 24:=by kernel_rfl
theorem QBv {w:World} {g g':Nat} {t t':TypeId} {l l':List Value} (h:Blk w g t l) (h':Blk w g' t' l') (hne:t≠t'):g≠g':=by
 rintro rfl
 have:=h.symm.trans h'
 simp only[Option.some.injEq,Obj.cells.injEq]at this
 exact hne this.2.1
def pv0:List Value:=QFu 16 (.slice none 0 0)
theorem QCl:(Tryz.prog.info? 133).bind (·.zero)=some (.agg (MsC 0 [] pv0).toArray):=by kernel_rfl
theorem QwD (a:UInt64):Tryz.prog.built 133 [(0,W64 a)]=some (MsC a [] pv0).toArray:=by
 rw[Qa0 (pl:=[(0,1),(1,1),(2,1),(3,16),(19,16)]) Tryz.underlying133 QCl (by kernel_rfl),QaR (vs:=[W64 a]) (off:=0) rfl rfl (by rw[Qkp _ _ _ (by simp[pv0])];simp),Qb5]
 rfl
theorem QCP:(Tryz.prog.info? 83).map (fun i=>(i.zero,i.size,i.bytes))=some (some (.agg (LtC lv0).toArray),4,48):=by kernel_rfl
theorem QzX:(Tryz.prog.info? 83).map (fun i=>(i.zero,i.size))=some (some (.agg (LtC lv0).toArray),4):=by kernel_rfl
theorem QuV:(Tryz.prog.info? 36).map (fun i=>(i.zero,i.size))=some (some (.agg (PaC prt0 (.slice none 0 0)).toArray),5):=by kernel_rfl
theorem QCb:(Tryz.prog.info? 83).bind (·.zero)=some (.agg (LtC lv0).toArray):=by kernel_rfl
theorem Qw1 (y:Ltv):Tryz.prog.built 83 [(0,W64 y.lt.to),(1,W64 y.lt.id),(2,.int .i64 y.lt.tk),(3,.slice y.va y.vn y.vc)]=some (LtC y).toArray:=by
 rw[Qa0 (pl:=[(0,1),(1,1),(2,1),(3,1)]) Tryz.underlying83 QCb (by kernel_rfl),QaR (vs:=[W64 y.lt.to]) (off:=0) rfl rfl (by simp[LtC]),QaR (vs:=[W64 y.lt.id]) (off:=1) rfl rfl (by simp[LtC,Qat]),
  QaR (vs:=[.int .i64 y.lt.tk]) (off:=2) rfl rfl (by simp[LtC,Qat]),QaR (vs:=[.slice y.va y.vn y.vc]) (off:=3) rfl rfl (by simp[LtC,Qat]),Qb5]
 rfl
theorem QeT {w:World} {g:Nat} {t:TypeId} {ar:Arr} {v:Value} (h:Blk w g t (AvC ⟨ar,v⟩)):w.cell? ⟨g,5,none⟩=some (W8 ar.kd)∧w.cell? ⟨g,6,none⟩=some (W64 ar.to)∧w.cell? ⟨g,7,none⟩=some (.int .i64 ar.tk)∧w.cell? ⟨g,0,none⟩=some (W8 ar.pt.kd)∧w.cell? ⟨g,1,none⟩=some (W64 ar.pt.id):=
 ⟨h.cellD 5 rfl,h.cellD 6 rfl,h.cellD 7 rfl,h.cellD 0 rfl,h.cellD 1 rfl⟩
theorem QkJ {w:World} {g:Nat} {t:TypeId} {ar:Arr} {v:Value} (h:Blk w g t (AvC ⟨ar,v⟩)):∀(j:Nat) u,(PaC ar.pt v)[j]?=some u→w.cell? ⟨g,0+j,none⟩=some u:=by
 intro j u hu
 rw[QFX]
 refine h.cellD j ?_
 have hl:=(QFU.1 hu).1
 rw[AvC,QFS hl]
 exact hu
theorem Qz9 (w:World) (base:Nat) (id:UInt64) (hb:base≤w.heap.size):MsgAt (w.alloc (.cells (MsC id [] pv0).toArray 133)) base w.heap.size id [] pv0:=by
 refine⟨Blk.new w _ _,hb,by simp[pv0],fun i v hv=>.inl ⟨?_,rfl⟩⟩
 rw[pv0,QHe]at hv
 split at hv
 ·exact (Option.some.inj hv).symm
 ·cases hv
theorem Qpw (w:World):(zeroValue 129).run Tryz.prog w= .ok (.pointer none) w:=by kernel_rfl
set_option maxRecDepth 100000 in
set_option maxHeartbeats 4000000 in
theorem Qob (A:Option Addr) (n c:Nat) (xs:List Arv) (w:World) (hx:RdF AvC 24 av0 w A n xs) (hok:∀x∈xs,AvOk w x) (hn:n≤1048576):
 Calls Tryz.prog 23 #[.slice A n c] w fun e w'=>∃v ys,e= .returned v∧(∃ bm k f K,LSt w w' bm k f K v ys)∧ys.map (·.lt)=ltrs (xs.map (·.ar)) n:=by
 have hxl:=hx.1
 go_enter Tryz.func23,Tryz.ntmps23
 have hmm:= @run_makeMap Tryz.prog
 go_wp2
 go_loopw [3,14] (fun v3 i wr=>∃(k m:Nat) (f:UInt64×UInt64→Option Nat) (ys:List Ltv),k≤n∧i= .int .i64 k∧m≤k∧ys.length≤k∧LSt w wr w.heap.size m f (Qek ((xs.map (·.ar)).take k)) v3 ys∧ys.map (·.lt)=ltrs (xs.map (·.ar)) k) (fun _ i _=>n-(intOf i).toNat)
 case atStart=>
  refine⟨0,0,fun _=>none,[],by omega,rfl,by omega,by simp,⟨QcT w _,PMap.made w QzE,QFE _,by simp,fun _ _=>rfl,by simp,?_,by simp⟩,rfl⟩
  exact⟨by simp,.inl ⟨rfl,rfl⟩⟩
 case round=>
  clear hmm
  obtain⟨k,m,f,ys,hk,rfl,hm,hyl,S,hys⟩:=hrel
  by_cases hlt:k<n
  ·obtain⟨b,o,rfl,hb,hc⟩:=(hx.later S.lat).at_ hlt
   have hmem:xs.getD k av0∈xs:=by
    rw[QFC,QFB (by omega)]
    exact QGy _
   have har:(xs.map (·.ar))[k]?=some (xs.getD k av0).ar:=by
    rw[QFN,QFC,QFB (by omega)]
    rfl
   have htk:(xs.map (·.ar)).take (k+1)=(xs.map (·.ar)).take k++[(xs.getD k av0).ar]:=by
    rw[List.take_add_one,har]
    rfl
   have hls:=Qu1 (xs.map (·.ar)) k _ har
   have hks:=fun y=>Qpc ((xs.map (·.ar)).take k) y (xs.getD k av0).ar
   have hkok:=QsN ((xs.map (·.ar)).take k)
   rw[←htk]at hks
   obtain⟨A5,n5,c5,hva,hnc5,hrd5⟩:=hok _ hmem
   generalize xs.getD k av0=x at *
   obtain⟨ar,va⟩:=x
   simp only at har htk hls hks hva hrd5
   subst hva
   generalize (xs.map (·.ar)).take k=T at *
   generalize hK':Qek ((xs.map (·.ar)).take (k+1))=K' at *
   have hKs:(fun y=>if mine y ar then tkK pid y.2 (Qek T y) ar.pt else Qek T y)=K':=by
    funext y
    exact (hks y).symm
   have HKs:=hid hKs
   have HLs:=hid hls
   have HY:=hid hys
   clear hks hls hys hKs har htk hmem
   generalize hK:Qek T=K at *
   by_cases hsk:ar.kd=2∧ar.pt.kd=1
   ·obtain⟨hkd,hpk⟩:=hsk
    have hb1:(ar.kd != 2)=false:=by simp[hkd]
    have hb3:(ar.pt.kd != 1)=false:=by simp[hpk]
    have hxm:∀y,mine y ar=decide (y=(ar.to,ar.pt.id)):=by
     intro y
     unfold mine
     rw[hkd,hpk]
     apply QGk.2
     simp only[QFQ,beq_iff_eq,decide_eq_true_eq]
     constructor
     ·rintro⟨⟨_,h1⟩,h2⟩
      exact Prod.ext h1.symm h2.symm
     ·rintro rfl
      simp
    have hKn:(fun y=>if y=(ar.to,ar.pt.id) then tkK pid ar.pt.id (K (ar.to,ar.pt.id)) ar.pt else K y)=K':=by
     rw[←HKs.out]
     funext y
     rw[hxm y]
     by_cases hy:y=(ar.to,ar.pt.id)
     ·subst hy
      simp
     ·simp[hy]
    have HKn:=hid hKn
    clear hKn hxm HKs
    have hfc:f (ar.to,ar.pt.id)=none∨∃g,f (ar.to,ar.pt.id)=some g:=by
     cases f (ar.to,ar.pt.id)
     ·exact .inl rfl
     ·exact .inr ⟨_,rfl⟩
    have hfc2:(f (ar.to,ar.pt.id)=none)∨∃G,f (ar.to,ar.pt.id)=some G:=hfc
    clear hfc
    rcases hfc2 with hfx|⟨G,hfx⟩
    case' inl=>
     go_wp2_with (first
      | (refine Qar ?hw _ _ rfl b (o+k*24) (AvC ⟨ar,.slice A5 n5 c5⟩) hc rfl _ Tryz.underlying60 rfl (by rw[Qas];exact QhC) ?_;(case hw=>rfl))
      | (refine Qaj rfl rfl _ _ _ rfl wr.heap.size _ _ (AvC ⟨ar,.slice A5 n5 c5⟩) (Blk.new wr _ (AvC av0)) rfl rfl 24 QhC (Qas ⟨ar,.slice A5 n5 c5⟩) (Qas av0) (QoM ⟨ar,.slice A5 n5 c5⟩ rfl) ?_;intro w2 hb2 ho2
         obtain⟨e5,e6,e7,e0,e1⟩:=QeT hb2
         have hlt2:wr.heap.size<w2.heap.size:=hb2.lt
         have l2:Later wr w2:=(Qaa wr _).only ho2 (QFE _))
      | (refine Qjt rfl _ _ rfl Tryz.underlying126 (Qpw _) rfl (S.later (l2.trans (Qaa _ _))).map (ar.to,ar.pt.id) rfl ?_;rw[hfx];simp only[ptrV])
      | (refine Qak ?hw 133 _ rfl (MsC ar.pt.id [] pv0) (by simp only[QFI,QFW,QFR];exact QwD _) ?_;(case hw=>rfl))
      | (refine Qrz rfl _ _ _ rfl Tryz.underlying126 rfl (S.later (l2.trans ((Qaa _ _).trans (Qaa _ _)))).map (by unfold maxLen;omega) (ar.to,ar.pt.id) (w2.heap.size+1) rfl rfl ?_;intro w5 hp5 ho5
         have S4:=S.later (l2.trans ((Qaa w2 (.cells #[W64 ar.to,W64 ar.pt.id] 128)).trans (Qaa _ (.cells (MsC ar.pt.id [] pv0).toArray 133))))
         have hb5:=QiO (hb2.later ((Qaa w2 (.cells #[W64 ar.to,W64 ar.pt.id] 128)).trans (Qaa _ (.cells (MsC ar.pt.id [] pv0).toArray 133)))) S4.map.obj.choose_spec.choose_spec ho5)
      | (refine Qar ?hw _ _ rfl wr.heap.size 0 (PaC ar.pt (.slice A5 n5 c5)) (QkJ hb5) rfl _ Tryz.underlying36 rfl (by rw[Qbe];exact Qd4) ?_;(case hw=>rfl))
      | (refine Qdn ?hw 181 _ rfl 36 5 _ (PaC ar.pt (.slice A5 n5 c5)) Tryz.underlying181 QuV (by omega) (by omega) (Qbe _ _) rfl ?_;(case hw=>rfl))
      | fail)
     have em:(w2.alloc (.cells #[W64 ar.to,W64 ar.pt.id] 128)).heap.size=w2.heap.size+1:=by simp
     have hmn:=Qz9 (w2.alloc (.cells #[W64 ar.to,W64 ar.pt.id] 128)) w.heap.size ar.pt.id (by have:=S.lat.size;omega)
     rw[em]at hmn
     have S5a:=S4.put (x0:=(ar.to,ar.pt.id)) (g:=w2.heap.size+1) hfx hmn (fun y hy=>by
      obtain⟨_,hm⟩:=S.msg y _ hy
      have:=hm.blk.lt
      omega) hp5 ho5
     obtain⟨m5,hm5,f5,hG,S5⟩:∃m5,m5≤k+1∧∃f5:UInt64×UInt64→Option Nat,f5 (ar.to,ar.pt.id)=some (w2.heap.size+1)∧LSt w w5 w.heap.size m5 f5 K u3 ys:=⟨m+1,by omega,_,by simp,S5a⟩
     clear S5a hmn em S4 hp5 ho5
     generalize w2.heap.size+1=G at *
    case' inr=>
     go_wp2_with (first
      | (refine Qar ?hw _ _ rfl b (o+k*24) (AvC ⟨ar,.slice A5 n5 c5⟩) hc rfl _ Tryz.underlying60 rfl (by rw[Qas];exact QhC) ?_;(case hw=>rfl))
      | (refine Qaj rfl rfl _ _ _ rfl wr.heap.size _ _ (AvC ⟨ar,.slice A5 n5 c5⟩) (Blk.new wr _ (AvC av0)) rfl rfl 24 QhC (Qas ⟨ar,.slice A5 n5 c5⟩) (Qas av0) (QoM ⟨ar,.slice A5 n5 c5⟩ rfl) ?_;intro w2 hb2 ho2
         obtain⟨e5,e6,e7,e0,e1⟩:=QeT hb2
         have hlt2:wr.heap.size<w2.heap.size:=hb2.lt
         have l2:Later wr w2:=(Qaa wr _).only ho2 (QFE _)
         have hb5:=hb2.later (Qaa w2 (.cells #[W64 ar.to,W64 ar.pt.id] 128)))
      | (refine Qjt rfl _ _ rfl Tryz.underlying126 (Qpw _) rfl (S.later (l2.trans (Qaa _ _))).map (ar.to,ar.pt.id) rfl ?_;rw[hfx];simp only[ptrV])
      | (refine Qar ?hw _ _ rfl wr.heap.size 0 (PaC ar.pt (.slice A5 n5 c5)) (QkJ hb5) rfl _ Tryz.underlying36 rfl (by rw[Qbe];exact Qd4) ?_;(case hw=>rfl))
      | (refine Qdn ?hw 181 _ rfl 36 5 _ (PaC ar.pt (.slice A5 n5 c5)) Tryz.underlying181 QuV (by omega) (by omega) (Qbe _ _) rfl ?_;(case hw=>rfl))
      | fail)
     have S5a:=S.later (l2.trans (Qaa w2 (.cells #[W64 ar.to,W64 ar.pt.id] 128)))
     obtain⟨m5,hm5,f5,hG,S5⟩:∃m5,m5≤k+1∧∃f5:UInt64×UInt64→Option Nat,f5 (ar.to,ar.pt.id)=some G∧LSt w (w2.alloc (.cells #[W64 ar.to,W64 ar.pt.id] 128)) w.heap.size m5 f5 K u3 ys:=⟨m,by omega,f,hfx,S5a⟩
     clear S5a
     have em:(w2.alloc (.cells #[W64 ar.to,W64 ar.pt.id] 128)).heap.size=w2.heap.size+1:=by simp
     rw[←em]
     clear em
     generalize w2.alloc (.cells #[W64 ar.to,W64 ar.pt.id] 128)=w5 at *
    all_goals
     clear S ho2 e5 e6 e7 e0 e1 hlt2 l2 hb2 hfx
     have T6:=S5.later (Qaa w5 (.cells (PaC ar.pt (.slice A5 n5 c5)).toArray 36))
     obtain⟨pv6,M6⟩:=T6.msg (ar.to,ar.pt.id) G hG
     have hb6:=hb5.later (Qaa w5 (.cells (PaC ar.pt (.slice A5 n5 c5)).toArray 36))
     have hav:Avoid (· =G) A5 n5:=fun h0 ad had e=>by
      obtain⟨b',o',hA,hlt',_⟩:=hrd5.2 h0
      rw[hA]at had
      cases had
      have:=M6.low
      simp only at e
      omega
     have hkx:=hkok (ar.to,ar.pt.id)
     have hks:=hkx.small
     refine (QtJ w.heap.size G ar.pt.id (K (ar.to,ar.pt.id)) pv6 ar.pt A5 n5 c5 w5.heap.size 36 _ M6 hkx (hrd5.later T6.lat) hav T6.lat.size (by omega) (Blk.new w5 _ _)).mono ?_
     rintro e w7 ⟨rfl,⟨pv7,M7⟩,O7⟩
     have S7:=T6.took hG M7 O7
     have hb7:=hb6.only O7 (QBv hb6 M6.blk (by decide))
     clear T6 M6 hb6 hav O7 S5 hb5
     rw[HKn.out]at S7
     have hKT:Hid (Qek T (ar.to,ar.pt.id)=K (ar.to,ar.pt.id)):=hid (by rw[hK])
     have hcell:=QeT hb7
     have hok1:=hid (fun h:tkE pid ar.pt.id (K (ar.to,ar.pt.id)) ar.pt=0=>(show tkK pid ar.pt.id (K (ar.to,ar.pt.id)) ar.pt=K (ar.to,ar.pt.id)++[ar.pt] by rw[tkK,if_pos h]))
     have hkn:KeptOk (tkK pid ar.pt.id (K (ar.to,ar.pt.id)) ar.pt):=hkx.snoc
     have HSk:=hid (fun h:Qn9 T ar=[]=>(show ys.map (·.lt)=ltrs (xs.map (·.ar)) (k+1) by rw[HY.out,HLs.out,h,QGb]))
     have HLt:Hid (Qn9 T ar=if ar.kd=2∧ar.pt.kd=1∧tkE pid ar.pt.id (K (ar.to,ar.pt.id)) ar.pt=0∧((K (ar.to,ar.pt.id)).length:Int)+1=ar.pt.ct then [⟨ar.to,ar.pt.id,ar.tk,QoX (K (ar.to,ar.pt.id)++[ar.pt])⟩] else []):=hid (by rw[Qn9,hKT.out])
     by_cases hE:tkE pid ar.pt.id (K (ar.to,ar.pt.id)) ar.pt=0
     ·rw[hE]
      have hap:=hok1.out hE
      rw[hap]at M7 hkn
      have hct:ctOf (K (ar.to,ar.pt.id)++[ar.pt])=ar.pt.ct:=Qmx _ _
      have hlen:((K (ar.to,ar.pt.id)++[ar.pt]).length:Int)=((K (ar.to,ar.pt.id)).length:Nat)+1:=by simp
      have hMi:=QjI w.heap.size G ar.pt.id _ pv7 w7 M7 hkn (by simp)
      have hMb:Hid (∀ (_:((K (ar.to,ar.pt.id)).length:Int)+1=ar.pt.ct) (w':World) (l:Later w7 w'),_):=hid (fun hf w' l=>Qro w.heap.size G ar.pt.id _ pv7 w' (M7.later l) hkn (by simp) (by rw[hlen,hct];exact hf))
      have hle:=(hkn.ct (by simp)).2.2.1
      rw[hct,hlen]at hMi hle
      have hc16:=(Qju (QlY hE).2.1).2.1
      have HE:=hid hE
      clear hct hlen hap hE hok1 M7 hkn hkx hKT
      generalize QoX (K (ar.to,ar.pt.id)++[ar.pt])=WH at *
      generalize (K (ar.to,ar.pt.id)).length=KL at *
      go_wp2_with fail
      refine hMi.mono ?_
      rintro e w8 ⟨rfl,j8⟩
      have S8:=S7.later j8
      have hb8:=hb7.later j8
      obtain⟨e5,e6,e7,e0,e1⟩:=QeT hb8
      clear hMi S7 hb7 hcell
      by_cases hfull:(KL:Int)+1=ar.pt.ct
      ·have hd:decide ((KL:Int)+1<ar.pt.ct)=false:=decide_eq_false (by omega)
       have hB:=hMb.out hfull w8 j8
       have hl1:=hid (HLt.out.trans (if_pos ⟨hkd,hpk,HE.out,hfull⟩))
       clear hMb HSk HLt hfull
       go_wp2_with fail
       refine hB.mono ?_
       rintro e w9 ⟨A9,n9,c9,rfl,hown9,j9⟩
       have S9:=S8.later j9
       have hb9:=hb8.later j9
       have hw9:w.heap.size≤w8.heap.size:=S8.lat.size
       clear S8 hb8 hB e5 e6 e7 e0 e1 hd
       obtain⟨e5,e6,e7,e0,e1⟩:=QeT hb9
       obtain⟨y,hy⟩:∃y:Ltv,y=⟨⟨ar.to,ar.pt.id,ar.tk,WH⟩,A9,n9,c9⟩:=⟨_,rfl⟩
       have hyb:=hid (Qw1 y)
       go_wp2_with (first
        | (refine Qak ?hw 83 _ rfl (LtC y) (by simp only[QFI,QFW,QFR];rw[←hyb.out,hy];rfl) ?_;(case hw=>rfl))
        | (refine Qdn ?hw 80 _ rfl 83 4 _ (LtC y) Tryz.underlying80 QzX (by omega) (by omega) rfl rfl ?_;(case hw=>rfl))
        | (refine Qcp (F:=LtC) (d:=lv0) Qks Qzu (by omega) rfl _ _ _ rfl 83 _ 48 Tryz.underlying80 QCP rfl w _ _ _ (Qa7 S9.own (Qaa _ _)) (S9.lat.trans (Qaa _ _)) (some ⟨w9.heap.size,0,none⟩) 1 1 [y] (QhN Qks (by rw[show [y].flatMap LtC=LtC y by simp];exact Blk.new w9 _ _) rfl) rfl rfl (by omega) (by omega) ?_;intro A10 c10 w10 hown10 hl10 hg10)
        | fail)
       have hown9':=Qaq (Qbc hown9 hw9) (Qaa w9 (.cells (LtC y).toArray 83))
       have hys2:(ys++[y]).map (·.lt)=ltrs (xs.map (·.ar)) (k+1):=by
        rw[QF2,HY.out,HLs.out,hl1.out,hy]
        rfl
       have S10:=(S9.later (Qaa w9 (.cells (LtC y).toArray 83))).wrote (y:=y) (by simpa using hown10) hg10 hl10 (by rw[hy];rw[hy]at hown9';exact hown9')
       exact⟨⟨k+1,m5,f5,ys++[y],by omega,by go_num,by omega,by simp;omega,by rw[hK'];exact S10,hys2⟩,by simp[intOf];omega⟩
      ·have hd:decide ((KL:Int)+1<ar.pt.ct)=true:=decide_eq_true (by omega)
       have hsk:=hid (HSk.out (by rw[HLt.out,if_neg (fun h=>hfull h.2.2.2)]))
       clear HSk HLt hMb hfull
       go_wp2_with fail
       exact⟨⟨k+1,m5,f5,ys,by omega,by go_num,by omega,by omega,by rw[hK'];exact S8,hsk.out⟩,by simp[intOf];omega⟩
     ·have hsk:=hid (HSk.out (by rw[HLt.out,if_neg (fun h=>hE h.2.2.1)]))
      have hE1:((tkE pid ar.pt.id (K (ar.to,ar.pt.id)) ar.pt:Nat):Int)≠0:=by omega
      clear HSk HLt hok1 hkn M7 hKT
      generalize tkE pid ar.pt.id (K (ar.to,ar.pt.id)) ar.pt=E at *
      have hE2:((E:Int) != 0)=true:=by rw[bne_iff_ne];exact hE1
      go_wp2_with fail
      exact⟨⟨k+1,m5,f5,ys,by omega,by go_num,by omega,by omega,by rw[hK'];exact S7,hsk.out⟩,by simp[intOf];omega⟩
   ·have hno:∀y,mine y ar=false:=by
     intro y
     unfold mine
     by_cases h1:ar.kd=2
     ·have h2:(ar.pt.kd==1)=false:=by
       rw[beq_eq_false_iff_ne]
       exact fun h=>hsk ⟨h1,h⟩
      rw[h2]
      simp
     ·have h2:(ar.kd==2)=false:=by simpa using h1
      rw[h2]
      simp
    have hKK:K=K':=by
     rw[←HKs.out]
     funext y
     rw[hno y]
     rfl
    have hl0:Qn9 T ar=[]:=by
     unfold Qn9
     rw[if_neg (fun h=>hsk ⟨h.1,h.2.1⟩)]
    have HLx:=hid (show ys.map (·.lt)=ltrs (xs.map (·.ar)) (k+1) by rw[HY.out,HLs.out,hl0,QGb])
    subst hKK
    have FIN:=hid (fun (w':World) (l:Later wr w')=>S.later l)
    clear HKs HLs HY hl0 hno S
    have hb1:(ar.kd != 2)=true∨((ar.kd != 2)=false∧(ar.pt.kd != 1)=true):=by
     by_cases h1:ar.kd=2
     ·exact .inr ⟨by simp[h1],by rw[bne_iff_ne];exact fun h=>hsk ⟨h1,h⟩⟩
     ·exact .inl (by simpa using h1)
    clear hsk
    rcases hb1 with hb1|⟨hb1,hb3⟩
    all_goals
     go_wp2_with (first
      | (refine Qar ?hw _ _ rfl b (o+k*24) (AvC ⟨ar,.slice A5 n5 c5⟩) hc rfl _ Tryz.underlying60 rfl (by rw[Qas];exact QhC) ?_;(case hw=>rfl))
      | (refine Qaj rfl rfl _ _ _ rfl wr.heap.size _ _ (AvC ⟨ar,.slice A5 n5 c5⟩) (Blk.new wr _ (AvC av0)) rfl rfl 24 QhC (Qas ⟨ar,.slice A5 n5 c5⟩) (Qas av0) (QoM ⟨ar,.slice A5 n5 c5⟩ rfl) ?_;intro w2 hb2 ho2
         obtain⟨e5,e6,e7,e0,e1⟩:=QeT hb2
         have hlt2:wr.heap.size<w2.heap.size:=hb2.lt
         have l2:Later wr w2:=(Qaa wr _).only ho2 (QFE _))
      | fail)
     exact⟨⟨k+1,m,f,ys,by omega,by go_num,by omega,by omega,by rw[hK'];exact FIN.out _ l2,HLx.out⟩,by simp[intOf];omega⟩
  ·obtain rfl:k=n:=by omega
   go_wp2_with fail
   go_ret
   exact⟨_,ys,rfl,⟨_,_,_,_,S⟩,hys⟩
end Go.Proofs.YtcbdgnlcknllnaaGreat
