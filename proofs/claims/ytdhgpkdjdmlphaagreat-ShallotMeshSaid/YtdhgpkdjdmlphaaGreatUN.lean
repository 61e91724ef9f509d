/-
  Lemmas for the last text of this claim (part 14 of 20).
-/
import Derived.ArgAppend
import Derived.BigQuiet
import Derived.BigRegion
import Derived.ChangeOld
import Derived.Deep.RegionWith
import Derived.DeepKeys4
import Derived.JoinedCond
import Derived.LaidMore
import Derived.Laws.BytesArg
import Derived.Laws.CopyOwn
import Derived.Laws.Externs
import Derived.Laws.IdiomStrings
import Derived.Laws.Tables
import Derived.Lib.AppendStr
import Derived.Lib.AppendZerosOnto
import Derived.Lib.Mul64
import Derived.Lib.SlBytesConst
import Derived.LoopN
import Derived.Maps.OwnSet
import Derived.OpenShut
import Derived.OrdersHeld
import Derived.ProofKit
import Derived.Shelf.Spec.BitsCarry
import Derived.ShutString
import Derived.Test.YtdhgpkdjdmlphaaGreatProg
import Derived.Test.YtdhgpkdjdmlphaaGreatRows
import Derived.WalkKit
import Derived.WalkLawsBesides
import Derived.WalkSpells
import Derived.Test.YtdhgpkdjdmlphaaGreatUB
import Derived.Test.YtdhgpkdjdmlphaaGreatUD
import Derived.Test.YtdhgpkdjdmlphaaGreatUG
import Derived.Test.YtdhgpkdjdmlphaaGreatUJ
import Derived.Test.YtdhgpkdjdmlphaaGreatUM
open Bool renaming and_eq_true → QGM, eq_iff_iff → QHh, not_eq_true' → QHs, or_eq_true → QH4, not_eq_false' → QIv, false_or → QIU
open List renaming replicate → QGn, getElem?_cons_succ → QGo, getElem?_cons_zero → QGp, getD_eq_getElem?_getD → QGq, length_map → QGr, getElem?_eq_getElem → QGt, cons_append → QGu, nil_append → QGv, length_append → QGy, set_cons_zero → QGz, set_cons_succ → QGB, map_toArray → QGC, take_of_length_le → QGD, getElem?_append_right → QGE, getElem?_map → QGF, getElem?_append_left → QGG, map_nil → QGH, mem_cons → QGJ, not_mem_nil → QGK, getElem?_eq_some_iff → QGL, length_take → QGP, map_cons → QGR, length_set → QGV, append_nil → QGW, range → QG0, set_append_right → QG1, mem_map → QG2, map_append → QG6, map_replicate → QG8, all_eq_true → QHa, drop_left' → QHc, mem_append → QHd, length_cons → QHe, mem_range → QHg, getElem_mem → QHi, getElem?_range → QHD, getElem?_eq_none → QHF, flatten_cons → QHH, getElem?_take → QHJ, take_left' → QHK, getElem_of_mem → QHQ, any_eq_true → QHV, flatMap_append → QH3, range_succ → QH5, drop_zero → QIk, drop_succ_cons → QIn, length_singleton → QIE, flatten_nil → QIH, any_eq_false → QIK, flatten_append → QIL
open Nat renaming le_refl → QGx, le_trans → QG9, lt_or_ge → QHb, eq_zero_or_pos → QH8, mul_one → QIm, add_mul → QIM, add_assoc → QIO
open Option renaming toList_some → QGs, map_some → QH9, getD_some → QIl
open UInt64 renaming ofNat → QGS, toNat_inj → QIx
open UInt8 renaming ofNat → QG3, toNat_ofNat' → QHy
set_option linter.all false
namespace Go.Proofs.YtdhgpkdjdmlphaaGreat
open Go.RowKit
section
variable {P:Program} {ops:Array Oper} {rest:List Oper} {o:Oper} {a:Act} {w:World} {Q:Exit→Act→World→Prop}
theorem Qc1 (hw:Region.wanted o (yielded ops a.tmps)=true) (t:TypeId) (x:Operand) (ho:o.op= .buildSlice t 1 #[(0,x)]) (e:TypeId) (sz:Nat) (z:Value) (vs:List Value) (ht:P.underlying t=some (.slice e)) (hz:(P.info? e).map (fun i=>(i.zero,i.size))=some (some z,sz)) (hs0:0<sz) (hsm:sz≤65536)
 (hbl:vs.length=sz) (hx:a.eval x= .agg vs.toArray)
 (h:wpList P ops Q rest (a.put o.dst (.slice (some ⟨w.heap.size,0,none⟩) 1 1)) (w.alloc (.cells vs.toArray e))):wpList P ops Q (o :: rest) a w:=
 BigFrame.wpList_want hw fun K hK=>by
  have hr:=Qlc (v:=.agg vs.toArray) ht hz hs0 hsm rfl hbl w
  unfold Oper.wp
  simp only[execOp,ho,QGC,QGR,QGH,hx,Sem.run_bind,hr,Result.andThen_ok,Sem.run_pure]
  exact hK _ _ h
end
end Go.Proofs.YtdhgpkdjdmlphaaGreat
namespace Go.Proofs.YtdhgpkdjdmlphaaGreat
open Go.RowKit
open Go.BigFrame
def okAt (s:ByteArray) (k:Nat):Bool:=
 if h:k<s.size then (decide (97≤s[k].toNat)&&decide (s[k].toNat≤122))||(decide (48≤s[k].toNat)&&decide (s[k].toNat≤57)&&decide (0<k)) else true
def QdU (s:ByteArray):Bool:=decide (1≤s.size)&&decide (s.size≤16)&&(QG0 s.size).all (okAt s)
theorem Qp9 (s:ByteArray) (k:Nat) (h:k<s.size):okAt s k=true↔(97≤(s[k].toNat:Int)∧(s[k].toNat:Int)≤122)∨(48≤(s[k].toNat:Int)∧(s[k].toNat:Int)≤57∧0<k):=by
 rw[okAt,dif_pos h]
 simp only[QH4,QGM,decide_eq_true_eq]
 omega
theorem Qf2 (s:ByteArray):QdU s=true↔1≤s.size∧s.size≤16∧∀j,j<s.size→okAt s j=true:=by
 rw[QdU]
 simp only[QGM,decide_eq_true_eq,QHa,QHg,and_assoc]
theorem QhD {s:ByteArray} (h: ¬(s.size<1∨16<s.size)) (hj:∀j,j<s.size→okAt s j=true):QdU s=true:=(Qf2 s).2 ⟨by omega,by omega,hj⟩
theorem QhC {s:ByteArray} (h:s.size<1∨16<s.size):QdU s=false:=by
 rcases Bool.eq_false_or_eq_true (QdU s) with e|e
 ·have:=(Qf2 s).1 e
  omega
 ·exact e
theorem QeR {s:ByteArray} {k:Nat} (h:k<s.size) (hn: ¬((97≤(s[k].toNat:Int)∧(s[k].toNat:Int)≤122)∨(48≤(s[k].toNat:Int)∧(s[k].toNat:Int)≤57∧0<k))):QdU s=false:=by
 rcases Bool.eq_false_or_eq_true (QdU s) with e|e
 ·exact absurd ((Qp9 s k h).1 (((Qf2 s).1 e).2.2 k h)) hn
 ·exact e
theorem QfH {s:ByteArray} {k:Nat} (h:k<s.size) (hp:∀j,j<k→okAt s j=true) (hn:(97≤(s[k].toNat:Int)∧(s[k].toNat:Int)≤122)∨(48≤(s[k].toNat:Int)∧(s[k].toNat:Int)≤57∧0<k)):∀j,j<k+1→okAt s j=true:=by
 intro j hj
 rcases QHb j k with h1|h1
 ·exact hp j h1
 ·obtain rfl:j=k:=by omega
  exact (Qp9 s j h).2 hn
set_option maxRecDepth 100000 in
theorem Qj4 (s:ByteArray) (w:World) (hs:s.size≤140737488355328):
 Calls Tryz.prog 151 #[.string s] w fun e w'=>e= .returned (.bool (QdU s))∧Later w w':=by
 go_enter Tryz.func151,Tryz.ntmps151
 by_cases hb:s.size<1∨16<s.size
 ·have hbb:(decide ((s.size:Int)<1)||decide (16<(s.size:Int)))=true:=by simp;omega
  rw[QhC hb]
  go_wp2
  all_goals
   go_ret
   exact⟨rfl,Later.refl w⟩
 ·go_wp2
  go_loopw [3,4,5,6] (fun i _ _ _ wr=>∃k:Nat,i= .int .i64 k∧k≤s.size∧(∀ j,j<k→okAt s j=true)∧Later w wr) (fun i _ _ _ _=>s.size-(intOf i).toNat)
  case atStart=>exact⟨0,rfl,by omega,fun j hj=>absurd hj (by omega),Later.refl w⟩
  case round=>
   obtain⟨k,rfl,hk,hp,hl⟩:=hrel
   by_cases hlt:k<s.size
   ·go_wp2
    all_goals
     try simp only[QHs,QIv,decide_eq_true_eq,decide_eq_false_iff_not]at *
     first
      | exact⟨⟨k+1,rfl,by omega,QfH hlt hp (by omega),hl⟩,by simp[intOf];omega⟩
      | (go_ret;refine⟨?_,hl⟩;rw[QeR hlt (by omega)];rfl)
   ·obtain rfl:k=s.size:=by omega
    go_wp2
    go_ret
    refine⟨?_,hl⟩
    rw[QhD hb hp]
    rfl
set_option maxRecDepth 100000 in
theorem Qwf (s:ByteArray) (w:World) (hs:s.size≤140737488355328):
 Calls Tryz.prog 118 #[.string s] w fun e w'=>e= .returned (.bool (QdU s))∧Later w w':=by
 go_enter Tryz.func118,Tryz.ntmps118
 by_cases hb:s.size<1∨16<s.size
 ·have hbb:(decide ((s.size:Int)<1)||decide (16<(s.size:Int)))=true:=by simp;omega
  rw[QhC hb]
  go_wp2
  all_goals
   go_ret
   exact⟨rfl,Later.refl w⟩
 ·go_wp2
  go_loopw [3,4,5] (fun i _ _ wr=>∃k:Nat,i= .int .i64 k∧k≤s.size∧(∀ j,j<k→okAt s j=true)∧Later w wr) (fun i _ _ _=>s.size-(intOf i).toNat)
  case atStart=>exact⟨0,rfl,by omega,fun j hj=>absurd hj (by omega),Later.refl w⟩
  case round=>
   obtain⟨k,rfl,hk,hp,hl⟩:=hrel
   by_cases hlt:k<s.size
   ·rcases QH8 k with rfl|hk0
    ·go_wp2
     all_goals
      try simp only[QHs,QIv,decide_eq_true_eq,decide_eq_false_iff_not]at *
      first
       | exact⟨⟨0+1,rfl,by omega,QfH hlt hp (by omega),hl⟩,by simp[intOf];omega⟩
       | (go_ret;refine⟨?_,hl⟩;rw[QeR hlt (by omega)];rfl)
    ·have hkb:((k:Int)==0)=false:=by simp;omega
     go_wp2
     all_goals
      try simp only[QHs,QIv,decide_eq_true_eq,decide_eq_false_iff_not,hkb]at *
      first
       | exact⟨⟨k+1,rfl,by omega,QfH hlt hp (by omega),hl⟩,by simp[intOf];omega⟩
       | (go_ret;refine⟨?_,hl⟩;rw[QeR hlt (by omega)];rfl)
   ·obtain rfl:k=s.size:=by omega
    go_wp2
    go_ret
    refine⟨?_,hl⟩
    rw[QhD hb hp]
    rfl
structure Nod where
 nm:ByteArray
 id:UInt64
 priv:Y32
 pub:Y32
def QzM:Y32:=⟨QGn 32 0,by simp⟩
def nod0:Nod:=⟨.empty,0,QzM,QzM⟩
def NC (x:Nod):List Value:=.string x.nm :: W64 x.id :: (x.priv.val.map W8++x.pub.val.map W8)
theorem Qas (x:Nod):(NC x).length=66:=by simp[NC,x.priv.2,x.pub.2]
theorem QuZ (x:Nod):∀u∈NC x,u.oneCell'=true:=by
 intro u hu
 simp only[NC,QGJ,QHd,QG2]at hu
 rcases hu with rfl|rfl|⟨b,_,rfl⟩|⟨b,_,rfl⟩<;>rfl
abbrev RdN:World→Option Addr→Nat→List Nod→Prop:=RdF NC 66 nod0
theorem Qhi {w:World} {A:Option Addr} {n:Nat} {xs:List Nod} (h:RdN w A n xs) {k:Nat} (hk:k<n):
 ∃b o,A=some ⟨b,o,none⟩∧b<w.heap.size∧w.cell? ⟨b,o+k*66,none⟩=some (.string (xs.getD k nod0).nm)∧w.cell? ⟨b,o+k*66+1,none⟩=some (W64 (xs.getD k nod0).id):=by
 obtain⟨b,o,hA,hb,hc⟩:=h.at_ hk
 exact⟨b,o,hA,hb,hc 0 _ rfl,hc 1 _ rfl⟩
theorem Qvu (x:Nod) {j:Nat} {v:Value} (h:(x.priv.val.map W8)[j]?=some v):(NC x)[2+j]?=some v:=by
 have hj:j<(x.priv.val.map W8).length:=(QGL.1 h).1
 rw[NC,show 2+j=j+1+1 by omega,QGo,QGo,QGG hj]
 exact h
theorem QzP (x:Nod) {j:Nat} {v:Value} (h:(x.pub.val.map W8)[j]?=some v):(NC x)[34+j]?=some v:=by
 have hp:(x.priv.val.map W8).length=32:=by rw[QGr,x.priv.2]
 rw[NC,show 34+j=j+32+1+1 by omega,QGo,QGo,QGE (by omega),hp,Nat.add_sub_cancel]
 exact h
theorem QxF {w:World} {A:Option Addr} {n:Nat} {xs:List Nod} (h:RdN w A n xs) {k:Nat} (hk:k<n):
 ∃b o,A=some ⟨b,o,none⟩∧b<w.heap.size∧(∀ j v,((xs.getD k nod0).priv.val.map W8)[j]?=some v→w.cell? ⟨b,o+k*66+2+j,none⟩=some v)∧(∀ j v,((xs.getD k nod0).pub.val.map W8)[j]?=some v→w.cell? ⟨b,o+k*66+34+j,none⟩=some v):=by
 obtain⟨b,o,hA,hb,hc⟩:=h.at_ hk
 refine⟨b,o,hA,hb,fun j v hv=>?_,fun j v hv=>?_⟩
 ·rw[QIO _ 2 j];exact hc _ _ (Qvu _ hv)
 ·rw[QIO _ 34 j];exact hc _ _ (QzP _ hv)
def badN (x:Nod):Bool:=x.id==0|| !QdU x.nm
def Qdo (x y:Nod):Bool:=x.nm.toList==y.nm.toList||x.id==y.id
def Qjf (xs:List Nod) (i:Nat):Bool:=(QG0 i).any fun j=>Qdo (xs.getD i nod0) (xs.getD j nod0)
def QaG (xs:List Nod):Nat:=if 64<xs.length then 2 else if xs.any badN then 3 else if (QG0 xs.length).any (Qjf xs) then 4 else 0
theorem QpW {xs:List Nod} {p:Nod→Bool} {k:Nat} (hk:k<xs.length) (h:p (xs.getD k nod0)=true):xs.any p=true:=by
 rw[QHV]
 refine⟨_,QHi hk,?_⟩
 rwa [QGq,QGt hk]at h
theorem QmW {xs:List Nod} {p:Nod→Bool} (h:∀k,k<xs.length→p (xs.getD k nod0)=false):xs.any p=false:=by
 rw[QIK]
 intro x hx
 obtain⟨k,hk,rfl⟩:=QHQ hx
 have:=h k hk
 rw[QGq,QGt hk]at this
 simpa using this
theorem Qfe {n:Nat} {p:Nat→Bool} (h:∀k,k<n→p k=false):(QG0 n).any p=false:=by
 rw[QIK]
 intro k hk
 rw[h k (QHg.1 hk)]
 decide
theorem Qd4 {n k:Nat} {p:Nat→Bool} (hk:k<n) (h:p k=true):(QG0 n).any p=true:=QHV.2 ⟨k,QHg.2 hk,h⟩
theorem QeW {xs:List Nod} (h:64<xs.length):QaG xs=2:=by rw[QaG,if_pos h]
theorem QhX {xs:List Nod} {k:Nat} (h: ¬ 64<xs.length) (hk:k<xs.length) (hb:badN (xs.getD k nod0)=true):QaG xs=3:=by rw[QaG,if_neg h,if_pos (QpW hk hb)]
theorem QhS {xs:List Nod} {i j:Nat} (h: ¬ 64<xs.length) (hf:∀k,k<xs.length→badN (xs.getD k nod0)=false) (hi:i<xs.length) (hj:j<i) (hs:Qdo (xs.getD i nod0) (xs.getD j nod0)=true):QaG xs=4:=by
 rw[QaG,if_neg h,if_neg (by rw[QmW hf];decide),if_pos (Qd4 hi (Qd4 hj hs))]
theorem Qls {xs:List Nod} (h: ¬ 64<xs.length) (hf:∀k,k<xs.length→badN (xs.getD k nod0)=false) (hd:∀k,k<xs.length→Qjf xs k=false):QaG xs=0:=by
 rw[QaG,if_neg h,if_neg (by rw[QmW hf];decide),if_neg (by rw[Qfe hd];decide)]
theorem QiJ {xs:List Nod} {k:Nat} (hk:k<xs.length):xs.getD k nod0∈xs:=by
 rw[QGq,QGt hk]
 exact QHi hk
set_option maxRecDepth 100000 in
theorem QkO (A:Option Addr) (n c:Nat) (xs:List Nod) (w:World) (hx:RdN w A n xs) (hn:n≤1099511627776) (hs:∀x∈xs,x.nm.size≤140737488355328):
 Calls Tryz.prog 119 #[.slice A n c] w fun e w'=>e= .returned (.int .i64 (QaG xs:Nat))∧Later w w':=by
 have hl0:=hx.1
 go_enter Tryz.func119,Tryz.ntmps119
 by_cases h64:64<n
 ·go_wp2
  go_ret
  exact⟨by rw[QeW (by omega)];rfl,Later.refl w⟩
 ·go_wp2
  go_loopw [3,11] (fun _ i wr=>∃k:Nat,i= .int .i64 k∧k≤n∧(∀ j,j<k→badN (xs.getD j nod0)=false)∧Later w wr) (fun _ i _=>n-(intOf i).toNat)
  case atStart=>exact⟨0,rfl,by omega,fun j hj=>absurd hj (by omega),Later.refl w⟩
  case round=>
   obtain⟨k,rfl,hk,hp,hl⟩:=hrel
   by_cases hlt:k<n
   ·obtain⟨b,o,rfl,hb,hc0,hc1⟩:=Qhi (hx.later hl) hlt
    have hwf:=hid (Qj4 (xs.getD k nod0).nm wr (hs _ (QiJ (by omega))))
    have hbad:=hid (fun (h:badN (xs.getD k nod0)=true)=>QhX (xs:=xs) (by omega) (by omega) h)
    have hgood:=hid (fun (h:badN (xs.getD k nod0)=false)=>Qbn (p:=fun j=>badN (xs.getD j nod0)=false) hp h)
    generalize xs.getD k nod0=x at *
    clear hp
    by_cases hid0:x.id=0
    ·go_wp2
     go_ret
     exact⟨by rw[hbad.out (by rw[badN,hid0];rfl)];rfl,hl⟩
    ·have hid1:(x.id==0)=false:=by simpa using hid0
     go_wp2_with fail
     refine (hwf.out).mono ?_
     rintro e w1 ⟨rfl,hl1⟩
     cases hok:QdU x.nm
     ·go_wp2
      go_ret
      exact⟨by rw[hbad.out (by rw[badN,hok,Bool.not_false,Bool.or_true])];rfl,hl.trans hl1⟩
     ·go_wp2
      exact⟨⟨k+1,rfl,by omega,hgood.out (by rw[badN,hid1,hok];rfl),hl.trans hl1⟩,by simp[intOf];omega⟩
   ·obtain rfl:k=n:=by omega
    replace hp:=hid (show ∀j,j<xs.length→badN (xs.getD j nod0)=false by rw[hl0];exact hp)
    go_wp2
    go_loopw [4,5,32] (fun _ _ i wr=>∃m:Nat,i= .int .i64 m∧m≤k∧Hid (∀ j,j<m→Qjf xs j=false)∧Later w wr) (fun _ _ i _=>k-(intOf i).toNat)
    case atStart=>exact⟨0,rfl,by omega,hid (fun j hj=>absurd hj (by omega)),hl⟩
    case round=>
     clear hl
     obtain⟨i,rfl,hi,hq,hl⟩:=hrel
     by_cases hik:i<k
     ·go_wp2
      go_loopw [5] (fun j wr=>∃m:Nat,j= .int .i64 m∧m≤i∧Hid (∀ j,j<m→Qdo (xs.getD i nod0) (xs.getD j nod0)=false)∧Later w wr) (fun j _=>i-(intOf j).toNat)
      case atStart=>exact⟨0,rfl,by omega,hid (fun j hj=>absurd hj (by omega)),hl⟩
      case round=>
       clear hl
       obtain⟨m,rfl,hm,hr,hl⟩:=hrel
       by_cases hmi:m<i
       ·obtain⟨b,o,rfl,hb,hi0,hi1⟩:=Qhi (hx.later hl) hik
        obtain⟨b',o',he,hb',hm0,hm1⟩:=Qhi (hx.later hl) (show m<k by omega)
        simp only[Option.some.injEq,Addr.mk.injEq,and_true]at he
        obtain⟨rfl,rfl⟩:=he
        have hdup:=hid (fun (h:Qdo (xs.getD i nod0) (xs.getD m nod0)=true)=>QhS (xs:=xs) (by omega) hp.out (by omega) hmi h)
        have hgood:=hid (fun (h:Qdo (xs.getD i nod0) (xs.getD m nod0)=false)=>Qbn (p:=fun j=>Qdo (xs.getD i nod0) (xs.getD j nod0)=false) hr.out h)
        generalize xs.getD i nod0=x at *
        generalize xs.getD m nod0=y at *
        cases hnm:(x.nm.toList==y.nm.toList)
        ·go_wp2_with fail
         refine Qaf [] [0,1,2,3,4,5,6,7,8,9,10,11,12,13,14,15,16,17,18,19,20,21,22,23] [] (by as_aux_lemma=>kernel_rfl) (by as_aux_lemma=>kernel_rfl) (by intro _ _ d _ _ h;cases d<;>exact h) ?_
         simp only[Qaj,pick,QGo,QGp,QGs,QGu,QGv]
         repeat (go_big_quiet_step (fail))
         refine wpQuiet_nil ?_
         cases hie:(x.id==y.id)
         ·go_wp2
          exact⟨⟨m+1,rfl,by omega,hid (hgood.out (by rw[Qdo,hnm,hie];rfl)),hl.trans (Qab _)⟩,by simp[intOf];omega⟩
         ·go_wp2
          go_ret
          exact⟨by rw[hdup.out (by rw[Qdo,hnm,hie];rfl)];rfl,hl.trans (Qab _)⟩
        ·go_wp2_with fail
         refine Qaf [] [0,1,2,3,4,5,6,7,8,9,10,11,12,13,14,15,16,17,18,19,20,21,22,23] [] (by as_aux_lemma=>kernel_rfl) (by as_aux_lemma=>kernel_rfl) (by intro _ _ d _ _ h;cases d<;>exact h) ?_
         simp only[Qaj,pick,QGo,QGp,QGs,QGu,QGv]
         repeat (go_big_quiet_step (fail))
         refine wpQuiet_nil ?_
         go_wp2
         go_ret
         exact⟨by rw[hdup.out (by rw[Qdo,hnm];rfl)];rfl,hl.trans (Qab _)⟩
       ·obtain rfl:m=i:=by omega
        have hnext:Hid (∀ j,j<m+1→Qjf xs j=false):=hid (Qbn (p:=fun j=>Qjf xs j=false) hq.out (Qfe hr.out))
        go_wp2
        exact⟨⟨m+1,rfl,by omega,hnext,hl⟩,by simp[intOf];omega⟩
     ·obtain rfl:i=k:=by omega
      go_wp2
      go_ret
      refine⟨?_,hl⟩
      rw[Qls (by omega) hp.out (by rw[hl0];exact hq.out)]
      rfl
set_option maxRecDepth 100000 in
theorem Qko (A:Option Addr) (n c:Nat) (xs:List Nod) (w:World) (hx:RdN w A n xs) (hn:n≤1099511627776) (hs:∀x∈xs,x.nm.size≤140737488355328):
 Calls Tryz.prog 80 #[.slice A n c] w fun e w'=>e= .returned (.int .i64 (QaG xs:Nat))∧Later w w':=by
 have hl0:=hx.1
 go_enter Tryz.func80,Tryz.ntmps80
 by_cases h64:64<n
 ·go_wp2
  go_ret
  exact⟨by rw[QeW (by omega)];rfl,Later.refl w⟩
 ·go_wp2
  go_loopw [3] (fun i wr=>∃k:Nat,i= .int .i64 k∧k≤n∧(∀ j,j<k→badN (xs.getD j nod0)=false)∧Later w wr) (fun i _=>n-(intOf i).toNat)
  case atStart=>exact⟨0,rfl,by omega,fun j hj=>absurd hj (by omega),Later.refl w⟩
  case round=>
   obtain⟨k,rfl,hk,hp,hl⟩:=hrel
   by_cases hlt:k<n
   ·obtain⟨b,o,rfl,hb,hc0,hc1⟩:=Qhi (hx.later hl) hlt
    have hwf:=hid (Qwf (xs.getD k nod0).nm wr (hs _ (QiJ (by omega))))
    have hbad:=hid (fun (h:badN (xs.getD k nod0)=true)=>QhX (xs:=xs) (by omega) (by omega) h)
    have hgood:=hid (fun (h:badN (xs.getD k nod0)=false)=>Qbn (p:=fun j=>badN (xs.getD j nod0)=false) hp h)
    generalize xs.getD k nod0=x at *
    clear hp
    go_wp2_with fail
    refine (hwf.out).mono ?_
    rintro e w1 ⟨rfl,hl1⟩
    replace hc1:=(hl1.below.cell (p:=⟨b,o+k*66+1,none⟩) hb).trans hc1
    cases hok:QdU x.nm
    ·go_wp2
     go_ret
     exact⟨by rw[hbad.out (by rw[badN,hok,Bool.not_false,Bool.or_true])];rfl,hl.trans hl1⟩
    ·by_cases hid0:x.id=0
     ·go_wp2
      go_ret
      exact⟨by rw[hbad.out (by rw[badN,hid0];rfl)];rfl,hl.trans hl1⟩
     ·have hid1:(x.id==0)=false:=by simpa using hid0
      go_wp2
      exact⟨⟨k+1,by go_num,by omega,hgood.out (by rw[badN,hid1,hok];rfl),hl.trans hl1⟩,by simp[intOf];omega⟩
   ·obtain rfl:k=n:=by omega
    replace hp:=hid (show ∀j,j<xs.length→badN (xs.getD j nod0)=false by rw[hl0];exact hp)
    go_wp2
    go_loopw [4,5] (fun i _ wr=>∃m:Nat,i= .int .i64 m∧m≤k∧Hid (∀ j,j<m→Qjf xs j=false)∧Later w wr) (fun i _ _=>k-(intOf i).toNat)
    case atStart=>exact⟨0,rfl,by omega,hid (fun j hj=>absurd hj (by omega)),hl⟩
    case round=>
     clear hl
     obtain⟨i,rfl,hi,hq,hl⟩:=hrel
     by_cases hik:i<k
     ·go_wp2
      go_loopw [5] (fun j wr=>∃m:Nat,j= .int .i64 m∧m≤i∧Hid (∀ j,j<m→Qdo (xs.getD i nod0) (xs.getD j nod0)=false)∧Later w wr) (fun j _=>i-(intOf j).toNat)
      case atStart=>exact⟨0,rfl,by omega,hid (fun j hj=>absurd hj (by omega)),hl⟩
      case round=>
       clear hl
       obtain⟨m,rfl,hm,hr,hl⟩:=hrel
       by_cases hmi:m<i
       ·obtain⟨b,o,rfl,hb,hi0,hi1⟩:=Qhi (hx.later hl) hik
        obtain⟨b',o',he,hb',hm0,hm1⟩:=Qhi (hx.later hl) (show m<k by omega)
        simp only[Option.some.injEq,Addr.mk.injEq,and_true]at he
        obtain⟨rfl,rfl⟩:=he
        have hdup:=hid (fun (h:Qdo (xs.getD i nod0) (xs.getD m nod0)=true)=>QhS (xs:=xs) (by omega) hp.out (by omega) hmi h)
        have hgood:=hid (fun (h:Qdo (xs.getD i nod0) (xs.getD m nod0)=false)=>Qbn (p:=fun j=>Qdo (xs.getD i nod0) (xs.getD j nod0)=false) hr.out h)
        generalize xs.getD i nod0=x at *
        generalize xs.getD m nod0=y at *
        cases hnm:(x.nm.toList==y.nm.toList)
        ·go_wp2_with fail
         refine Qaf [] [0,1,2,3,4,5,6,7,8,9,10,11,12,13,14,15,16,17,18,19,20,21,22,23] [] (by as_aux_lemma=>kernel_rfl) (by as_aux_lemma=>kernel_rfl) (by intro _ _ d _ _ h;cases d<;>exact h) ?_
         simp only[Qaj,pick,QGo,QGp,QGs,QGu,QGv]
         repeat (go_big_quiet_step (fail))
         refine wpQuiet_nil ?_
         cases hie:(x.id==y.id)
         ·go_wp2
          exact⟨⟨m+1,rfl,by omega,hid (hgood.out (by rw[Qdo,hnm,hie];rfl)),hl.trans (Qab _)⟩,by simp[intOf];omega⟩
         ·go_wp2
          go_ret
          exact⟨by rw[hdup.out (by rw[Qdo,hnm,hie];rfl)];rfl,hl.trans (Qab _)⟩
        ·go_wp2_with fail
         refine Qaf [] [0,1,2,3,4,5,6,7,8,9,10,11,12,13,14,15,16,17,18,19,20,21,22,23] [] (by as_aux_lemma=>kernel_rfl) (by as_aux_lemma=>kernel_rfl) (by intro _ _ d _ _ h;cases d<;>exact h) ?_
         simp only[Qaj,pick,QGo,QGp,QGs,QGu,QGv]
         repeat (go_big_quiet_step (fail))
         refine wpQuiet_nil ?_
         go_wp2
         go_ret
         exact⟨by rw[hdup.out (by rw[Qdo,hnm];rfl)];rfl,hl.trans (Qab _)⟩
       ·obtain rfl:m=i:=by omega
        have hnext:Hid (∀ j,j<m+1→Qjf xs j=false):=hid (Qbn (p:=fun j=>Qjf xs j=false) hq.out (Qfe hr.out))
        go_wp2
        exact⟨⟨m+1,rfl,by omega,hnext,hl⟩,by simp[intOf];omega⟩
     ·obtain rfl:i=k:=by omega
      go_wp2
      go_ret
      refine⟨?_,hl⟩
      rw[Qls (by omega) hp.out (by rw[hl0];exact hq.out)]
      rfl
set_option maxRecDepth 100000 in
theorem Qi9 (K:List UInt8) (hK:K.length=32) (w:World):
 Calls Tryz.prog 72 #[.agg (K.map W8).toArray] w fun e w'=>∃g,e= .returned (.slice (some ⟨g,0,none⟩) 32 32)∧w.heap.size≤g∧Blk w' g 5 (K.map W8)∧Later w w':=by
 have hb0:Blk (w.alloc (.cells (K.map W8).toArray 30)) w.heap.size 30 (K.map W8):=Blk.new _ _ _
 go_enter Tryz.func72,Tryz.ntmps72
 go_wp2_with (first
  | (refine QaA rfl _ _ 22 rfl 5 (.int .u8 0) 1 Tryz.underlying22 Qc4 rfl _ _ _ _ 32 rfl rfl rfl rfl (by omega) (by omega) ?_;intro w2 hb2 hl2;rw[show (w.alloc (.cells (K.map W8).toArray 30)).heap.size=w.heap.size+1 by simp]at hb2)
  | (refine Qli 0 32 rfl _ _ _ _ rfl 5 Tryz.underlying22 Qb2 (show Blk w2 (w.heap.size+1) 5 ((QGn 32 0).map W8) by (rw [QG8];exact hb2)) (Qcv (hb0.later hl2) hK) rfl rfl (by simp) ?_;intro w3 hb3 ho3;rw[QlX _ _ (by simpa using hK)]at hb3)
  | fail)
 go_ret
 exact⟨w.heap.size+1,rfl,by omega,hb3,((Qaa _ _).trans hl2).only ho3 (by omega)⟩
section
variable {ops:Array Oper} {rest:List Oper} {o:Oper} {a:Act} {w:World} {Q:Exit→Act→World→Prop}
theorem QpD (hgd:Region.wanted o (yielded ops a.tmps)=true) (x:Operand) (ho:o.op= .load 30 x) {g off:Nat} {K:List UInt8} (hc:∀j v,(K.map W8)[j]?=some v→w.cell? ⟨g,off+j,none⟩=some v) (hl:K.length=32) (hx:a.eval x= .pointer (some ⟨g,off,none⟩))
 (h:wpList Tryz.prog ops Q rest (a.put o.dst (.agg (K.map W8).toArray)) w):wpList Tryz.prog ops Q (o :: rest) a w:=
 Qan hgd _ x ho g off _ hc hx _ Tryz.underlying30 rfl (by rw[QGr,hl];exact Qbf) h
theorem Qxm {J:Act→Prop} (x:Operand) (ho:o.op= .load 30 x) {w0:World} {g off:Nat} {K:List UInt8} (hc:∀j v,(K.map W8)[j]?=some v→w0.cell? ⟨g,off+j,none⟩=some v) (hg:g<w0.heap.size) (hl:K.length=32) (hx:a.eval x= .pointer (some ⟨g,off,none⟩)) (h:J (a.put o.dst (.agg (K.map W8).toArray))):
 o.quiet Tryz.prog a (fun w'=>∃x,w'=grow w0 x) J:=
 QaJ _ x ho g off (K.map W8) (fun w' hw j v hv=>by obtain⟨y,rfl⟩:=hw;exact ((Later.below ⟨y,rfl⟩).cell (p:=⟨g,off+j,none⟩) hg).trans (hc j v hv)) hx _ Tryz.underlying30 rfl (by rw[QGr,hl];exact Qbf) h
end
theorem QjG {w:World} {b off n:Nat} {K:List UInt8} (hb:b<w.heap.size) (hc:∀j v,(K.map W8)[j]?=some v→w.cell? ⟨b,off+j,none⟩=some v) (hn:K.length=n):RdB w (some ⟨b,off,none⟩) n K:=
 ⟨by rw[QGr,hn],fun _=>⟨b,off,rfl,hb,hc⟩⟩
def pubK (K:List UInt8):List UInt8:=QbB K (nb 9)
theorem QpE (K:List UInt8):(pubK K).length=32:=QaY _ _
def fitB (x:Nod):Bool:=pubK x.priv.val==x.pub.val
def Qfh (xs:List Nod):Bool:=QaG xs==0&&xs.all fitB
theorem QAl {xs:List Nod} (h:QaG xs≠0):Qfh xs=false:=by
 rw[Qfh,show (QaG xs==0)=false by simpa using h]
 rfl
theorem Qxn {xs:List Nod} {k:Nat} (hk:k<xs.length) (h:fitB (xs.getD k nod0)=false):Qfh xs=false:=by
 rw[Qfh,show xs.all fitB=false from ?_,Bool.and_false]
 rw[List.all_eq_false]
 exact⟨_,QiJ hk,by rw[h];decide⟩
theorem QBg {xs:List Nod} (h:QaG xs=0) (hf:∀k,k<xs.length→fitB (xs.getD k nod0)=true):Qfh xs=true:=by
 rw[Qfh,h,QGM]
 refine⟨rfl,?_⟩
 rw[QHa]
 intro x hx
 obtain⟨k,hk,rfl⟩:=QHQ hx
 have:=hf k hk
 rwa [QGq,QGt hk]at this
def QFS:List UInt8:=[110,111,100,101]
def keyK (seed:List UInt8) (s:ByteArray):List UInt8:=expB (QbY QFS seed) (strB s) 32
theorem QpK (seed:List UInt8) (s:ByteArray):(keyK seed s).length=32:=Qj1 _ _ _
def keyY (seed:List UInt8) (s:ByteArray):Y32:=⟨keyK seed s,QpK seed s⟩
def pubY (K:List UInt8):Y32:=⟨pubK K,QpE K⟩
def keyed (seed:List UInt8) (i:Nat) (s:ByteArray):Nod:=⟨s,QGS (i+1),keyY seed s,pubY (keyK seed s)⟩
theorem Qew {P:Program} {t:TypeId} {d:TypeDesc} {k:Nat} {v:Value} (hu:P.underlying t=some d) (hd:QbT d=false) {zs:List Value} (hz:zs[k]?=some v) (w:World):(part t zs.toArray k).run P w= .ok v w:=by
 have ha:(isAgg t).run P w= .ok false w:=by
  unfold isAgg
  simp only[Sem.run_bind,run_underlying hu]
  cases d<;>simp_all [QbT]
 unfold part
 simp[Sem.run_bind,ha,Result.andThen_ok,hz]
theorem QnS {P:Program} {d k:Nat} {t:TypeId} {f:Field} {fs:List Field} (hf:f.type=t) (hu:P.underlying t=some .string) (hn:f.name≠ "_") {xs ys:List Value} {p q:ByteArray} (ho:f.offset=k) (hp:xs[k]?=some (.string p)) (hq:ys[k]?=some (.string q)) (w:World):
 (Op.eqFields (d+1) xs.toArray ys.toArray (f :: fs)).run P w=if p.toList==q.toList then (Op.eqFields (d+1) xs.toArray ys.toArray fs).run P w else .ok false w:=by
 rw[Op.eqFields,if_pos hn]
 simp only[Sem.run_bind,hf,ho,Qew hu rfl hp,Qew hu rfl hq,Result.andThen_ok,run_equalIn_string w d t p q hu]
 cases p.toList==q.toList<;>simp
theorem Qlx {P:Program} {d k:Nat} {t:TypeId} {f:Field} {fs:List Field} (hf:f.type=t) (hu:P.underlying t=some (.int .u64)) (hn:f.name≠ "_") {xs ys:List Value} {p q:UInt64} (ho:f.offset=k) (hp:xs[k]?=some (W64 p)) (hq:ys[k]?=some (W64 q)) (w:World):
 (Op.eqFields (d+1) xs.toArray ys.toArray (f :: fs)).run P w=if p==q then (Op.eqFields (d+1) xs.toArray ys.toArray fs).run P w else .ok false w:=by
 rw[Op.eqFields,if_pos hn]
 simp only[Sem.run_bind,hf,ho,Qew hu rfl hp,Qew hu rfl hq,Result.andThen_ok,QiH t _ hu d p q w]
 cases p==q<;>simp
def Qrz (x y:Nod):Bool:=x.nm.toList==y.nm.toList&&(x.id==y.id&&(x.priv.val==y.priv.val&&x.pub.val==y.pub.val))
@[go_sem] theorem QCj (x:Nod):Qrz x x=true:=by simp[Qrz]
theorem Qmw (x:Nod):((NC x).drop 2).take 32=x.priv.val.map W8:=by
 have h1:(x.priv.val.map W8).length=32:=by rw[QGr,x.priv.2]
 rw[NC,QIn,QIn,QIk,QHK h1]
theorem Qqr (x:Nod):((NC x).drop 34).take 32=x.pub.val.map W8:=by
 have h1:(x.priv.val.map W8).length=32:=by rw[QGr,x.priv.2]
 rw[NC,show (34:Nat)=32+1+1 from rfl,QIn,QIn,QHc h1,QGD (by rw[QGr,x.pub.2];omega)]
set_option maxRecDepth 100000 in
theorem Qji (x y:Nod) (w:World) {fs:Array Field} (hu:Tryz.prog.underlying 74=some (.struct fs)):(Op.eqFields 9999 (NC x).toArray (NC y).toArray fs.toList).run Tryz.prog w= .ok (Qrz x y) w:=by
 rw[Tryz.underlying74]at hu
 cases hu
 rw[QnS (d:=9998) (k:=0) rfl Tryz.underlying9 (by decide) rfl rfl rfl,Qlx (d:=9998) (k:=1) rfl Tryz.underlying23 (by decide) rfl rfl rfl,
  Qcp (d:=9997) (k:=2) rfl (by decide) rfl (Qmw x) (Qmw y) x.priv.2 y.priv.2,Qcp (d:=9997) (k:=34) rfl (by decide) rfl (Qqr x) (Qqr y) x.pub.2 y.pub.2,QdD]
 rw[Qrz]
 cases x.nm.toList==y.nm.toList<;>cases x.id==y.id<;>cases x.priv.val==y.priv.val<;>cases x.pub.val==y.pub.val<;>rfl
theorem QBM:Tryz.prog.eqGuardType Tryz.prog.depth 74=false:=by kernel_rfl
@[go_sem high] theorem QAr (op:BinOp) (x y:Operand) (xs ys:Array Value) (w:World):(eqGuard op 74 x y (.agg xs) (.agg ys)).run Tryz.prog w= .ok () w:=run_eqGuard_agg w op _ x y xs ys QBM
set_option maxRecDepth 100000 in
@[go_sem high] theorem QA3 (x y:Nod) (w:World):(binOp .eql 74 (.agg (NC x).toArray) (.agg (NC y).toArray)).run Tryz.prog w= .ok (.bool (Qrz x y)) w:=by
  rw[Qg6 Tryz.underlying74 (by kernel_rfl),Qji x y w Tryz.underlying74]
  rfl
set_option maxRecDepth 100000 in
@[go_sem high] theorem QBE (x y:Nod) (w:World):(binOp .neq 74 (.agg (NC x).toArray) (.agg (NC y).toArray)).run Tryz.prog w= .ok (.bool (!Qrz x y)) w:=by
  rw[Qjw Tryz.underlying74 (by kernel_rfl),Qji x y w Tryz.underlying74]
  rfl
theorem QGa:(Tryz.prog.info? 74).bind (·.zero)=some (.agg (NC nod0).toArray):=by kernel_rfl
theorem QkF:Tryz.prog.built 74 []=some (NC nod0).toArray:=by
 rw[QaQ (pl:=[(0,1),(1,1),(2,32),(34,32)]) Tryz.underlying74 QGa (by kernel_rfl),Qb0]
theorem Qie:(Tryz.prog.info? 74).map (·.size)=some 66:=by kernel_rfl
section
variable {ops:Array Oper} {rest:List Oper} {o:Oper} {a:Act} {w:World} {Q:Exit→Act→World→Prop}
theorem QlC (hgd:Region.wanted o (yielded ops a.tmps)=true) (x:Operand) (ho:o.op= .load 74 x) {g off:Nat} {y:Nod} (hc:∀i v,(NC y)[i]?=some v→w.cell? ⟨g,off+i,none⟩=some v) (hx:a.eval x= .pointer (some ⟨g,off,none⟩))
 (h:wpList Tryz.prog ops Q rest (a.put o.dst (.agg (NC y).toArray)) w):wpList Tryz.prog ops Q (o :: rest) a w:=
 Qan hgd _ x ho g off _ hc hx _ Tryz.underlying74 rfl (by rw[Qas];exact Qie) h
theorem QuK {J:Act→Prop} (x:Operand) (ho:o.op= .load 74 x) {w0:World} {g off:Nat} {y:Nod} (hc:∀i v,(NC y)[i]?=some v→w0.cell? ⟨g,off+i,none⟩=some v) (hg:g<w0.heap.size) (hx:a.eval x= .pointer (some ⟨g,off,none⟩)) (h:J (a.put o.dst (.agg (NC y).toArray))):
 o.quiet Tryz.prog a (fun w'=>∃x,w'=grow w0 x) J:=
 QaJ _ x ho g off (NC y) (fun w' hw j v hv=>by obtain⟨y,rfl⟩:=hw;exact ((Later.below ⟨y,rfl⟩).cell (p:=⟨g,off+j,none⟩) hg).trans (hc j v hv)) hx _ Tryz.underlying74 rfl (by rw[Qas];exact Qie) h
end
theorem QDx:(Tryz.prog.info? 86).bind (·.zero)=some (.agg (NC nod0).toArray):=by kernel_rfl
theorem QeN:(Tryz.prog.info? 86).map (·.size)=some 66:=by kernel_rfl
theorem QsX (l:List Value) (x:Nod) (h:l.length=66):Qar l 0 (NC x)=NC x:=Qav _ _ (by rw[Qas,h])
theorem QjM (x:Nod):Tryz.prog.built 86 [(0,.agg (NC x).toArray)]=some (NC x).toArray:=by
 rw[QaQ (pl:=[(0,66)]) Tryz.underlying86 QDx (by kernel_rfl),QaR (vs:=NC x) (off:=0) rfl (by rw[Qas];rfl) (by rw[Qas,Qas];omega),Qb0,QsX _ _ (Qas _)]
theorem Qh3:Tryz.prog.built 86 []=some (NC nod0).toArray:=by
 rw[QaQ (pl:=[(0,66)]) Tryz.underlying86 QDx (by kernel_rfl),Qb0]
section
variable {ops:Array Oper} {rest:List Oper} {o:Oper} {a:Act} {w:World} {Q:Exit→Act→World→Prop}
theorem QdI {ty:TypeId} (hi:(Tryz.prog.info? ty).map (·.size)=some 66) (hgd:o.guard=none) (hd:o.dst=none) (x y:Operand) (ho:o.op= .store ty x y) {g:Nat} {t:TypeId} {l:List Value} {z:Nod} (hg:Blk w g t l) (hx:a.eval x= .pointer (some ⟨g,0,none⟩)) (hy:a.eval y= .agg (NC z).toArray) (hl:l.length=66)
 (h:∀w',Blk w' g t (NC z)→Only g w w'→wpList Tryz.prog ops Q rest a w'):wpList Tryz.prog ops Q (o :: rest) a w:=
 Qai hgd hd _ x y ho g t l _ hg hx hy 66 hi (Qas _) hl (QuZ _) h
theorem Qrw (hgd:Region.wanted o (yielded ops a.tmps)=true) (x:Operand) (ho:o.op= .load 86 x) {g off:Nat} {y:Nod} (hc:∀i v,(NC y)[i]?=some v→w.cell? ⟨g,off+i,none⟩=some v) (hx:a.eval x= .pointer (some ⟨g,off,none⟩))
 (h:wpList Tryz.prog ops Q rest (a.put o.dst (.agg (NC y).toArray)) w):wpList Tryz.prog ops Q (o :: rest) a w:=
 Qan hgd _ x ho g off _ hc hx _ Tryz.underlying86 rfl (by rw[Qas];exact QeN) h
theorem Qpb {J:Act→Prop} (x:Operand) (ho:o.op= .load 86 x) {w0:World} {g off:Nat} {y:Nod} (hc:∀i v,(NC y)[i]?=some v→w0.cell? ⟨g,off+i,none⟩=some v) (hg:g<w0.heap.size) (hx:a.eval x= .pointer (some ⟨g,off,none⟩)) (h:J (a.put o.dst (.agg (NC y).toArray))):
 o.quiet Tryz.prog a (fun w'=>∃x,w'=grow w0 x) J:=
 QaJ _ x ho g off (NC y) (fun w' hw j v hv=>by obtain⟨y,rfl⟩:=hw;exact ((Later.below ⟨y,rfl⟩).cell (p:=⟨g,off+j,none⟩) hg).trans (hc j v hv)) hx _ Tryz.underlying86 rfl (by rw[Qas];exact QeN) h
end
set_option maxRecDepth 100000 in
theorem Qj9 (x:Nod) (w:World):
 Calls Tryz.prog 60 #[.agg (NC x).toArray] w fun e w'=>∃g,e= .returned (.slice (some ⟨g,0,none⟩) 32 32)∧w.heap.size≤g∧Blk w' g 5 (x.pub.val.map W8)∧Later w w':=by
 have hb0:Blk (w.alloc (.cells (NC x).toArray 86)) w.heap.size 86 (NC x):=Blk.new _ _ _
 have hc:∀j v,(x.pub.val.map W8)[j]?=some v→(w.alloc (.cells (NC x).toArray 86)).cell? ⟨w.heap.size,34+j,none⟩=some v:=fun j v hv=>hb0.cellD _ (QzP x hv)
 go_enter Tryz.func60,Tryz.ntmps60
 go_wp2_with (first
  | (refine QpD rfl _ rfl hc x.pub.2 rfl ?_)
  | fail)
 (with_reducible refine (Qi9 x.pub.val x.pub.2 _).mono ?_);rintro e w2 ⟨g2,rfl,hg2,hb2,l2⟩
 go_wp2
 go_ret
 exact⟨g2,rfl,by simp at hg2;omega,hb2,(Qaa _ _).trans l2⟩
def Qfx (p:Nod→Bool) (xs:List Nod):Nod×Nat:=match xs.find? p with|some x=>(x,0)|none=>(nod0,4)
theorem QiF {xs:List Nod} {p:Nod→Bool} {k:Nat} (hk:k<xs.length) (hp:∀j,j<k→p (xs.getD j nod0)=false) (h:p (xs.getD k nod0)=true):Qfx p xs=(xs.getD k nod0,0):=by
 have:xs.find? p=some (xs.getD k nod0):=by
  rw[List.find?_eq_some_iff_getElem]
  refine⟨h,k,hk,by rw[QGq,QGt hk];rfl,fun j hj=>?_⟩
  have:=hp j hj
  rw[QGq,QGt (by omega)]at this
  simpa using this
 rw[Qfx,this]
theorem Qlp {xs:List Nod} {p:Nod→Bool} (hp:∀j,j<xs.length→p (xs.getD j nod0)=false):Qfx p xs=(nod0,4):=by
 have:xs.find? p=none:=by
  rw[List.find?_eq_none]
  intro x hx
  obtain⟨k,hk,rfl⟩:=QHQ hx
  have:=hp k hk
  rw[QGq,QGt hk]at this
  simpa using this
 rw[Qfx,this]
def Qdf (s:ByteArray) (x:Nod):Bool:=x.nm.toList==s.toList
def byId (i:UInt64) (x:Nod):Bool:=x.id==i
def QbA (p:Nod→Bool) (xs:List Nod):Nod×Nat:=if QaG xs=0 then Qfx p xs else (nod0,QaG xs)
set_option maxRecDepth 100000 in
theorem QAi (A:Option Addr) (n c:Nat) (xs:List Nod) (i:UInt64) (w:World) (hx:RdN w A n xs) (hn:n≤1099511627776) (hs:∀x∈xs,x.nm.size≤140737488355328):
 Calls Tryz.prog 120 #[.slice A n c,W64 i] w fun e w'=>e= .returned (.tuple #[.agg (NC (QbA (byId i) xs).1).toArray,.int .i64 (QbA (byId i) xs).2])∧Later w w':=by
 have hl0:=hx.1
 have hb0:Blk (w.alloc (.cells (NC nod0).toArray 86)) w.heap.size 86 (NC nod0):=Blk.new _ _ _
 have hC:=hid (fun w h=>QkO A n c xs w h hn hs)
 go_enter Tryz.func120,Tryz.ntmps120
 go_wp2_with fail
 refine (hC.out _ (hx.later (Qaa _ _))).mono ?_
 rintro e w1 ⟨rfl,l1⟩
 replace hb0:=hb0.later l1
 have L:=(Qaa w (.cells (NC nod0).toArray 86)).trans l1
 by_cases h0:QaG xs=0
 ·have hres:=hid (show QbA (byId i) xs=Qfx (byId i) xs by rw[QbA,if_pos h0])
  rw[h0]
  clear h0
  go_wp2
  go_loopw [16] (fun j wr=>∃k:Nat,j= .int .i64 k∧k≤n∧Hid (∀ j,j<k→byId i (xs.getD j nod0)=false)∧Blk wr w.heap.size 86 (NC nod0)∧Later w wr) (fun j _=>n-(intOf j).toNat)
  case atStart=>exact⟨0,rfl,by omega,hid (fun j hj=>absurd hj (by omega)),hb0,L⟩
  case round=>
   clear hb0 L
   obtain⟨k,rfl,hk,hp,hb0,L⟩:=hrel
   by_cases hlt:k<n
   ·obtain⟨b,o,rfl,hb,hc⟩:=(hx.later L).at_ hlt
    have hhit:=hid (fun h:byId i (xs.getD k nod0)=true=>QiF (p:=byId i) (by omega) hp.out h)
    have hnext:=hid (fun h:byId i (xs.getD k nod0)=false=>Qbn (p:=fun j=>byId i (xs.getD j nod0)=false) hp.out h)
    generalize xs.getD k nod0=x at *
    have c1:wr.cell? ⟨b,o+k*66+1,none⟩=some (W64 x.id):=hc 1 _ rfl
    cases hie:(x.id==i)
    ·go_wp2
     exact⟨⟨k+1,rfl,by omega,hid (hnext.out hie),hb0,L⟩,by simp[intOf];omega⟩
    ·have hres2:=hid (hres.out.trans (hhit.out hie))
     go_wp2_with (first
      | (refine QlC rfl _ rfl hc rfl ?_)
      | (refine Qah rfl _ _ rfl (NC x) (by simp only[QGC,QGR,QGH];exact QjM x) ?_)
      | (refine QdI QeN rfl rfl _ _ rfl hb0 rfl rfl (Qas _) ?_;intro w9 hb9 ho9)
      | fail)
     exact bodyPost_ret (Qac rfl _ _ _ _ _ _ hb9 rfl Tryz.underlying86 rfl (by rw[Qas];exact QeN)) rfl ⟨by rw[hres2.out];rfl,L.only ho9 (QGx _)⟩
   ·obtain rfl:k=n:=by omega
    have hres2:=hid (hres.out.trans (Qlp (p:=byId i) (xs:=xs) (by rw[hl0];exact hp.out)))
    go_wp2_with (first
     | (refine Qah rfl _ _ rfl (NC nod0) (by simp only[QGC,QGH];exact Qh3) ?_)
     | (refine QdI QeN rfl rfl _ _ rfl hb0 rfl rfl (Qas _) ?_;intro w9 hb9 ho9)
     | fail)
    exact bodyPost_ret (Qac rfl _ _ _ _ _ _ hb9 rfl Tryz.underlying86 rfl (by rw[Qas];exact QeN)) rfl ⟨by rw[hres2.out];rfl,L.only ho9 (QGx _)⟩
 ·have hres:=hid (show QbA (byId i) xs=(nod0,QaG xs) by rw[QbA,if_neg h0])
  have hne:((QaG xs:Int) != 0)=true:=by simpa using h0
  clear h0
  go_wp2_with (first
   | (refine Qah rfl _ _ rfl (NC nod0) (by simp only[QGC,QGH];exact Qh3) ?_)
   | (refine QdI QeN rfl rfl _ _ rfl hb0 rfl rfl (Qas _) ?_;intro w9 hb9 ho9)
   | fail)
  exact bodyPost_ret (Qac rfl _ _ _ _ _ _ hb9 rfl Tryz.underlying86 rfl (by rw[Qas];exact QeN)) rfl ⟨by rw[hres.out];rfl,L.only ho9 (QGx _)⟩
def QbX (s:ByteArray) (i:UInt64) (x:Nod):Bool:=if s.toList.isEmpty=true then byId i x else Qdf s x
set_option maxRecDepth 100000 in
set_option maxHeartbeats 4000000 in
theorem Qtj (A:Option Addr) (n c:Nat) (xs:List Nod) (s:ByteArray) (i:UInt64) (w:World) (hx:RdN w A n xs) (hn:n≤1099511627776) (hs:∀x∈xs,x.nm.size≤140737488355328):
 Calls Tryz.prog 49 #[.slice A n c,.string s,W64 i] w fun e w'=>e= .returned (.tuple #[.agg (NC (QbA (QbX s i) xs).1).toArray,.int .i64 (QbA (QbX s i) xs).2])∧Later w w':=by
 have hl0:=hx.1
 have hb0:Blk (w.alloc (.cells (NC nod0).toArray 74)) w.heap.size 74 (NC nod0):=Blk.new _ _ _
 have hC:=hid (fun w h=>Qko A n c xs w h hn hs)
 go_enter Tryz.func49,Tryz.ntmps49
 go_wp2_with fail
 refine (hC.out _ (hx.later (Qaa _ _))).mono ?_
 rintro e w1 ⟨rfl,l1⟩
 replace hb0:=hb0.later l1
 have L:=(Qaa w (.cells (NC nod0).toArray 74)).trans l1
 by_cases h0:QaG xs=0
 ·have hres:=hid (show QbA (QbX s i) xs=Qfx (QbX s i) xs by rw[QbA,if_pos h0])
  rw[h0]
  clear h0
  go_wp2
  go_loopw [9] (fun j wr=>∃k:Nat,j= .int .i64 k∧k≤n∧Hid (∀ j,j<k→QbX s i (xs.getD j nod0)=false)∧Blk wr w.heap.size 74 (NC nod0)∧Later w wr) (fun j _=>n-(intOf j).toNat)
  case atStart=>exact⟨0,rfl,by omega,hid (fun j hj=>absurd hj (by omega)),hb0,L⟩
  case round=>
   clear hb0 L
   obtain⟨k,rfl,hk,hp,hb0,L⟩:=hrel
   by_cases hlt:k<n
   ·obtain⟨b,o,rfl,hb,hc⟩:=(hx.later L).at_ hlt
    have hhit:=hid (fun h:QbX s i (xs.getD k nod0)=true=>QiF (p:=QbX s i) (by omega) hp.out h)
    have hnext:=hid (fun h:QbX s i (xs.getD k nod0)=false=>Qbn (p:=fun j=>QbX s i (xs.getD j nod0)=false) hp.out h)
    generalize xs.getD k nod0=x at *
    have c0:wr.cell? ⟨b,o+k*66,none⟩=some (.string x.nm):=hc 0 _ rfl
    have c1:wr.cell? ⟨b,o+k*66+1,none⟩=some (W64 x.id):=hc 1 _ rfl
    have hE:=hid (show QbX s i x=if s.toList.isEmpty=true then x.id==i else x.nm.toList==s.toList from rfl)
    cases he:s.toList.isEmpty
    all_goals (cases hnm:(x.nm.toList==s.toList)<;>cases hie:(x.id==i))
    all_goals
     go_wp2_with (first
      | (refine QlC rfl _ rfl hc rfl ?_)
      | (refine QdI Qie rfl rfl _ _ rfl hb0 rfl rfl (Qas _) ?_;intro w9 hb9 ho9)
      | fail)
     first
      | exact⟨⟨k+1,by go_num,by omega,hid (hnext.out (by rw[hE.out,he,hnm,hie];rfl)),hb0,L⟩,by simp[intOf];omega⟩
      | exact bodyPost_ret (Qac rfl _ _ _ _ _ _ hb9 rfl Tryz.underlying74 rfl (by rw[Qas];exact Qie)) rfl ⟨by rw[hres.out.trans (hhit.out (by rw[hE.out,he,hnm,hie];rfl))];rfl,L.only ho9 (QGx _)⟩
   ·obtain rfl:k=n:=by omega
    have hres2:=hid (hres.out.trans (Qlp (p:=QbX s i) (xs:=xs) (by rw[hl0];exact hp.out)))
    go_wp2_with (first
     | (refine Qah rfl _ _ rfl (NC nod0) (by simp only[QGC,QGH];exact QkF) ?_)
     | (refine QdI Qie rfl rfl _ _ rfl hb0 rfl rfl (Qas _) ?_;intro w9 hb9 ho9)
     | fail)
    exact bodyPost_ret (Qac rfl _ _ _ _ _ _ hb9 rfl Tryz.underlying74 rfl (by rw[Qas];exact Qie)) rfl ⟨by rw[hres2.out];rfl,L.only ho9 (QGx _)⟩
 ·have hres:=hid (show QbA (QbX s i) xs=(nod0,QaG xs) by rw[QbA,if_neg h0])
  have hne:((QaG xs:Int) != 0)=true:=by simpa using h0
  clear h0
  go_wp2_with (first
   | (refine Qah rfl _ _ rfl (NC nod0) (by simp only[QGC,QGH];exact QkF) ?_)
   | (refine QdI Qie rfl rfl _ _ rfl hb0 rfl rfl (Qas _) ?_;intro w9 hb9 ho9)
   | fail)
  exact bodyPost_ret (Qac rfl _ _ _ _ _ _ hb9 rfl Tryz.underlying74 rfl (by rw[Qas];exact Qie)) rfl ⟨by rw[hres.out];rfl,L.only ho9 (QGx _)⟩
def QcO (b:List UInt8):Nat:=beN (subB b 28 2) 0
def QhH (b:List UInt8):Prt:=⟨b.getD 16 0,QGS (beN (subB b 20 8) 0),((b.getD 17 0).toNat:Int),((b.getD 18 0).toNat:Int),subB b 30 (QcO b)⟩
def parE (b:List UInt8):Nat:=
 if b.length≠480 then 2 else if b.take 16≠QGn 16 0 then 7 else if b.getD 16 0<1∨3<b.getD 16 0 then 1
 else if b.getD 19 0≠0∨450<QcO b then 3 else if prtE (QhH b)≠0∨b.drop (30+QcO b)≠QGn (450-QcO b) 0 then 3 else 0
def parP (b:List UInt8):Prt:=if parE b=0 then QhH b else prt0
end Go.Proofs.YtdhgpkdjdmlphaaGreat
namespace Go.Proofs.YtdhgpkdjdmlphaaGreat
open Go.RowKit
structure Arv where
 ar:Arr
 va:Value
def av0:Arv:=⟨⟨prt0,0,0,0,QaH⟩,.slice none 0 0⟩
def AvC (x:Arv):List Value:=PaC x.ar.pt x.va++(W8 x.ar.kd :: W64 x.ar.to :: .int .i64 x.ar.tk :: x.ar.ma.val.map W8)
theorem Qam (x:Arv):(AvC x).length=24:=by simp[AvC,PaC,x.ar.ma.2]
def AvOk (w:World) (x:Arv):Prop:=∃A n c,x.va= .slice A n c∧n≤c∧RdB w A n x.ar.pt.da
theorem AvOk.later {w w':World} {x:Arv} (h:AvOk w x) (hl:Later w w'):AvOk w' x:=by
 obtain⟨A,n,c,h1,h2,h3⟩:=h
 exact⟨A,n,c,h1,h2,h3.later hl⟩
structure Vst where
 cm:Cmd
 id:UInt64
 tk:Int
def vst0:Vst:=⟨cmd0,0,0⟩
def VC (x:Vst):List Value:=CC x.cm++[W64 x.id,.int .i64 x.tk]
theorem QaP (x:Vst):(VC x).length=22:=by simp[VC,Qao]
def QcR (vs:List Vst):Vst:=vs.getD (vs.length-1) vst0
def arr0:Arr:=⟨prt0,0,0,0,QaH⟩
def arvE (vs:List Vst) (b:List UInt8):Nat:=
 if vs.length=0∨b.length≠480 then 2 else if (QcR vs).cm.kd=4 then 0 else if (QcR vs).cm.kd≠2∧(QcR vs).cm.kd≠3 then 3
 else if parE b≠0 then parE b else if (parP b).kd≠(if (QcR vs).cm.kd=3 then 2 else 1) then 10 else 0
def arvA (vs:List Vst) (b:List UInt8) (tk:Int):Arr:=
 if arvE vs b≠0 then arr0 else if (QcR vs).cm.kd=4 then ⟨prt0,4,(QcR vs).id,tk,(QcR vs).cm.ma⟩ else ⟨parP b,(QcR vs).cm.kd,(QcR vs).id,tk,QaH⟩
theorem QiB {vs:List Vst} {b:List UInt8} {tk:Int} (h:arvE vs b≠0):arvA vs b tk=arr0:=if_pos h
section
variable {vs:List Vst} {b:List UInt8} (tk:Int)
theorem Qp7 (h:vs.length=0∨b.length≠480):arvE vs b=2∧arvA vs b tk=arr0:=by
 have e:arvE vs b=2:=if_pos h
 exact⟨e,QiB (by rw[e];decide)⟩
theorem Qwt (h: ¬(vs.length=0∨b.length≠480)) (hk:(QcR vs).cm.kd=4):arvE vs b=0∧arvA vs b tk=⟨prt0,(QcR vs).cm.kd,(QcR vs).id,tk,(QcR vs).cm.ma⟩:=by
 have e:arvE vs b=0:=by rw[arvE,if_neg h,if_pos hk]
 exact⟨e,by rw[arvA,if_neg (by rw[e];decide),if_pos hk,hk]⟩
theorem Qxo (h: ¬(vs.length=0∨b.length≠480)) (h4:(QcR vs).cm.kd≠4) (h2:(QcR vs).cm.kd≠2) (h3:(QcR vs).cm.kd≠3):arvE vs b=3∧arvA vs b tk=arr0:=by
 have e:arvE vs b=3:=by rw[arvE,if_neg h,if_neg h4,if_pos ⟨h2,h3⟩]
 exact⟨e,QiB (by rw[e];decide)⟩
theorem QBO (h: ¬(vs.length=0∨b.length≠480)) (h23:(QcR vs).cm.kd=2∨(QcR vs).cm.kd=3) (hp:parE b≠0):arvE vs b=parE b∧arvA vs b tk=arr0:=by
 have e:arvE vs b=parE b:=by
  rw[arvE,if_neg h,if_neg (by rcases h23 with h|h<;>rw[h]<;>decide),if_neg (by rcases h23 with h|h<;>rw[h]<;>decide),if_pos hp]
 exact⟨e,QiB (by rw[e];exact hp)⟩
theorem Qyd (h: ¬(vs.length=0∨b.length≠480)) (h23:(QcR vs).cm.kd=2∨(QcR vs).cm.kd=3) (hp:parE b=0) (ht:(parP b).kd≠(if (QcR vs).cm.kd=3 then 2 else 1)):arvE vs b=10∧arvA vs b tk=arr0:=by
 have e:arvE vs b=10:=by
  rw[arvE,if_neg h,if_neg (by rcases h23 with h|h<;>rw[h]<;>decide),if_neg (by rcases h23 with h|h<;>rw[h]<;>decide),if_neg (not_not_intro hp),if_pos ht]
 exact⟨e,QiB (by rw[e];decide)⟩
theorem QqQ (h: ¬(vs.length=0∨b.length≠480)) (h23:(QcR vs).cm.kd=2∨(QcR vs).cm.kd=3) (hp:parE b=0) (ht:(parP b).kd=(if (QcR vs).cm.kd=3 then 2 else 1)):arvE vs b=0∧arvA vs b tk=⟨parP b,(QcR vs).cm.kd,(QcR vs).id,tk,QaH⟩:=by
 have e:arvE vs b=0:=by
  rw[arvE,if_neg h,if_neg (by rcases h23 with h|h<;>rw[h]<;>decide),if_neg (by rcases h23 with h|h<;>rw[h]<;>decide),if_neg (not_not_intro hp),if_neg (not_not_intro ht)]
 exact⟨e,by rw[arvA,if_neg (by rw[e];decide),if_neg (by rcases h23 with h|h<;>rw[h]<;>decide)]⟩
end
theorem QdF {w:World} {g:Nat} {t:TypeId} {v:Vst} (h:Blk w g t (VC v)):w.cell? ⟨g,0,none⟩=some (W8 v.cm.kd)∧w.cell? ⟨g,20,none⟩=some (W64 v.id)∧∀j u,(v.cm.ma.val.map W8)[j]?=some u→w.cell? ⟨g,4+j,none⟩=some u:=by
 have hc:=Qao v.cm
 refine⟨h.cellD 0 rfl,h.cellD 20 ?_,fun j u hu=>h.cellD (4+j) ?_⟩
 ·rw[VC,QGE (by omega),hc]
  rfl
 ·have hj:=(QGL.1 hu).1
  rw[QGr,v.cm.ma.2]at hj
  rw[VC,QGG (by omega),show (4+j)=j+1+1+1+1 by omega]
  exact hu
theorem Qv4 (p:Prt) (kd:UInt8) (to:UInt64) (tk:Int) (m m':Y16) (v:Value):Qar (AvC ⟨⟨p,kd,to,tk,m⟩,v⟩) 8 (m'.val.map W8)=AvC ⟨⟨p,kd,to,tk,m'⟩,v⟩:=by
 simp[AvC,PaC,Qar,m.2,m'.2]
theorem Qqm (p p':Prt) (kd:UInt8) (to:UInt64) (tk:Int) (m:Y16) (v v':Value):Qar (AvC ⟨⟨p,kd,to,tk,m⟩,v⟩) 0 (PaC p' v')=AvC ⟨⟨p',kd,to,tk,m⟩,v'⟩:=by
 simp[AvC,PaC,Qar]
end Go.Proofs.YtdhgpkdjdmlphaaGreat
namespace Go.Proofs.YtdhgpkdjdmlphaaGreat
open Go.RowKit
open Go.BigFrame
def ctOf (ks:List Prt):Int:=(ks.getLast?.map (·.ct)).getD 0
def hvOf (ks:List Prt):List Bool:=(QG0 16).map fun (i:Nat)=>ks.any (fun q=>q.ix==(i:Int))
def MsC (id:UInt64) (ks:List Prt) (pv:List Value):List Value:=W64 id :: .int .i64 (ctOf ks) :: .int .i64 (ks.length:Nat) :: ((hvOf ks).map Value.bool++pv)
theorem Qk6 (id:UInt64) (ks:List Prt) (pv:List Value) (h:pv.length=16):(MsC id ks pv).length=35:=by simp[MsC,hvOf,h]
theorem QqA {ks:List Prt} (h:KeptOk ks) (hne:ks≠[]) (p:Prt):ks.any (fun q=>(pid q).ct != p.ct||(pid q).ix==p.ix)=((p.ct != ctOf ks)||ks.any (fun q=>q.ix==p.ix)):=by
 have hl:ks.getLast?=some (ks.getLast hne):=List.getLast?_eq_some_getLast hne
 have hm:=List.getLast_mem hne
 generalize ks.getLast hne=l at hl hm
 have hc:ctOf ks=l.ct:=by rw[ctOf,hl];rfl
 rw[hc]
 have hs:=fun q hq=>h.same q hq l hm
 by_cases hp:p.ct=l.ct
 ·have e:(p.ct != l.ct)=false:=by simp[hp]
  rw[e,QIU]
  apply QHh.2
  rw[QHV,QHV]
  constructor
  ·rintro⟨q,hq,hb⟩
   refine⟨q,hq,?_⟩
   have:(q.ct != p.ct)=false:=by simp[hs q hq,hp]
   simpa [this] using hb
  ·rintro⟨q,hq,hb⟩
   exact⟨q,hq,by simp[hb]⟩
 ·have e:(p.ct != l.ct)=true:=by simp[hp]
  rw[e,Bool.true_or,QHV]
  exact⟨l,hm,by simp only[QH4,bne_iff_ne];exact .inl (fun e=>hp (Eq.symm e))⟩
theorem Qir (ks:List Prt) {i:Nat} (h:i<16):((hvOf ks).map Value.bool)[i]?=some (.bool (ks.any (fun q=>q.ix==(i:Int)))):=by
 simp[hvOf,h]
theorem QvY (ks:List Prt) (p:Prt) {i:Nat} (h:i<16) (hp:p.ix=(i:Int)):((hvOf ks).map Value.bool).set i (.bool true)=(hvOf (ks++[p])).map Value.bool:=by
 apply List.ext_getElem?
 intro j
 rw[List.getElem?_set]
 by_cases hij:i=j
 ·subst hij
  rw[if_pos rfl,if_pos (by simp[hvOf,h]),Qir _ h]
  simp[hp]
 ·rw[if_neg hij]
  by_cases hj:j<16
  ·have hne:(p.ix==(j:Int))=false:=by
    rw[hp,beq_eq_false_iff_ne]
    omega
   rw[Qir _ hj,Qir _ hj,List.any_append]
   simp[hne]
  ·rw[QHF (by simp[hvOf];omega),QHF (by simp[hvOf];omega)]
theorem QnU (ks:List Prt) (p:Prt):ctOf (ks++[p])=p.ct:=by simp[ctOf]
theorem Qxr (id:UInt64) (ks:List Prt) (pv:List Value) (p:Prt) {i:Nat} (h:i<16) (hp:p.ix=(i:Int)) (v:Value):
 (((((MsC id ks pv).set 1 (.int .i64 p.ct)).set 2 (.int .i64 ((ks.length:Int)+1))).set (3+i) (.bool true)).set (19+i) v)=MsC id (ks++[p]) (pv.set i v):=by
 have hl:((hvOf ks).map Value.bool).length=16:=by simp[hvOf]
 have e1:3+i=i+1+1+1:=by omega
 have e2:19+i=(i+16)+1+1+1:=by omega
 rw[MsC,MsC,e1,e2]
 simp only[QGB,QGz]
 rw[List.set_append_left _ _ (by omega),QG1 _ _ (by rw[QGV];omega),QGV,hl,QvY ks p h hp,QnU,QGy,QIE]
 simp
theorem Qwn {ks:List Prt} {p:Prt} {i:Nat} (hp:p.ix=(i:Int)) (hn:∀q∈ks,q.ix≠p.ix) (j:Nat):daAt (ks++[p]) j=if j=i then p.da else daAt ks j:=by
 unfold daAt
 rw[List.find?_append]
 by_cases hij:j=i
 ·subst hij
  rw[if_pos rfl]
  have h1:ks.find? (fun q=>q.ix==(j:Int))=none:=by
   rw[List.find?_eq_none]
   intro q hq
   have:=hn q hq
   rw[hp]at this
   simpa using this
  rw[h1]
  simp[hp]
 ·rw[if_neg hij]
  have h1:[p].find? (fun q=>q.ix==(j:Int))=none:=by
   rw[List.find?_eq_none]
   intro q hq
   obtain rfl:q=p:=by simpa using hq
   simp[hp]
   omega
  rw[h1]
  cases ks.find? (fun q=>q.ix==(j:Int))<;>rfl
def PieceAt (w:World) (base:Nat) (v:Value) (da:List UInt8):Prop:=(v= .slice none 0 0∧da=[])∨∃gp,v= .slice (some ⟨gp,0,none⟩) da.length da.length∧base≤gp∧Blk w gp 5 (da.map W8)
structure MsgAt (w:World) (base g:Nat) (id:UInt64) (ks:List Prt) (pv:List Value):Prop where
 blk:Blk w g 204 (MsC id ks pv)
 low:base≤g
 len:pv.length=16
 pcs:∀i v,pv[i]?=some v→PieceAt w base v (daAt ks i)
section
variable {w w':World} {base g:Nat} {id:UInt64} {ks:List Prt} {pv:List Value}
theorem PieceAt.later {v:Value} {da:List UInt8} (h:PieceAt w base v da) (hl:Later w w'):PieceAt w' base v da:=
 h.imp (fun h=>h) fun ⟨gp,h1,h2,h3⟩=>⟨gp,h1,h2,h3.later hl⟩
theorem PieceAt.only {v:Value} {da:List UInt8} {t:TypeId} {l:List Value} (h:PieceAt w base v da) (hg:Blk w g t l) (hne:t≠5) (ho:Only g w w'):PieceAt w' base v da:=
 h.imp (fun h=>h) fun ⟨gp,h1,h2,h3⟩=>⟨gp,h1,h2,h3.only ho (fun e=>by
  subst e
  have:=hg.symm.trans h3
  simp only[Option.some.injEq,Obj.cells.injEq]at this
  exact hne this.2.1)⟩
theorem MsgAt.later (h:MsgAt w base g id ks pv) (hl:Later w w'):MsgAt w' base g id ks pv:=⟨h.blk.later hl,h.low,h.len,fun i v hv=>(h.pcs i v hv).later hl⟩
theorem MsgAt.cells (h:MsgAt w base g id ks pv):w.cell? ⟨g,0,none⟩=some (W64 id)∧w.cell? ⟨g,1,none⟩=some (.int .i64 (ctOf ks))∧w.cell? ⟨g,2,none⟩=some (.int .i64 (ks.length:Nat)):=
 ⟨h.blk.cellD 0 rfl,h.blk.cellD 1 rfl,h.blk.cellD 2 rfl⟩
theorem MsgAt.have_ (h:MsgAt w base g id ks pv) {i:Nat} (hi:i<16):w.cell? ⟨g,3+i,none⟩=some (.bool (ks.any (fun q=>q.ix==(i:Int)))):=by
 refine h.blk.cellD (3+i) ?_
 rw[MsC,show 3+i=i+1+1+1 by omega,QGo,QGo,QGo,QGG (by simp[hvOf,hi])]
 exact Qir ks hi
end
set_option maxRecDepth 100000 in
set_option maxHeartbeats 4000000 in
theorem QoT (base g:Nat) (id:UInt64) (ks:List Prt) (pv:List Value) (p:Prt) (A:Option Addr) (n c:Nat) (w:World) (hm:MsgAt w base g id ks pv) (hk:KeptOk ks) (hr:RdB w A n p.da) (hav:Avoid (· =g) A n) (hb:base≤w.heap.size) (hkl:ks.length≤1048576):
 Calls Tryz.prog 122 #[.pointer (some ⟨g,0,none⟩),.agg (PaC p (.slice A n c)).toArray] w fun e w'=>e= .returned (.int .i64 (tkE pid id ks p:Nat))∧(∃ pv',MsgAt w' base g id (tkK pid id ks p) pv')∧Only g w w':=by
 have hlen:=hr.len
 have hck:=hid (fun w=>Qhy p A n c hlen w)
 have hE:Hid (tkE pid id ks p=if p.kd≠1∨prtE p≠0 then 3 else if p.id≠id then 4 else if ks.any (fun q=>(pid q).ct != p.ct||(pid q).ix==p.ix) then 3 else 0):=hid rfl
 have hok:=hid (fun h=>QiT (p:=p) h)
 obtain⟨c0,c1,c2⟩:=hm.cells
 have hgl:=hm.blk.lt
 obtain⟨kd,id',ix,ct,da⟩:=p
 have HM:=hid hm
 have B1:=Qbk w 25 (PaC ⟨kd,id',ix,ct,da⟩ (.slice A n c))
 obtain⟨d0,d1,d2,d3,d4⟩:=Qbx (B1.nth 0 rfl)
 have c0':=HM.out.later B1.lat |>.cells
 clear hm
 go_enter Tryz.func122,Tryz.ntmps122
 have fin:∀(w':World) (E:Nat),Bag w w' [(w.heap.size,25,PaC ⟨kd,id',ix,ct,da⟩ (.slice A n c))]→tkE pid id ks ⟨kd,id',ix,ct,da⟩=E→E≠0→tkE pid id ks ⟨kd,id',ix,ct,da⟩=E∧(∃ pv',MsgAt w' base g id (tkK pid id ks ⟨kd,id',ix,ct,da⟩) pv')∧Only g w w':=by
  intro w' E B hE h0
  refine⟨hE,⟨pv,?_⟩,B.lat.onlyAny g⟩
  rw[tkK,if_neg (by rw[show pid _=(_:Prt) from rfl,hE];exact h0)]
  exact HM.out.later B.lat
 have FIN:=hid fin
 clear fin
 by_cases hkd:kd=1
 ·subst hkd
  go_wp2_with (first
   | (refine QdP rfl _ rfl (B1.nth 0 rfl) rfl ?_)
   | fail)
  (refine (hck.out _).mono ?_);rintro e w2 ⟨rfl,j2⟩
  have B2:=B1.later j2
  clear d0 d1 d2 d3 d4 c0' c0 c1 c2 hck j2 B1
  by_cases hpe:prtE ⟨1,id',ix,ct,da⟩=0
  ·rw[hpe]
   obtain⟨k1,k2,k3,k4,k5⟩:=hok.out hpe
   obtain⟨i,rfl⟩:∃i:Nat,ix=i:=⟨ix.toNat,by omega⟩
   have M2:=HM.out.later B2.lat
   obtain⟨m0,m1,m2⟩:=M2.cells
   obtain⟨d0,d1,d2,d3,d4⟩:=Qbx (B2.nth 0 rfl)
   have mh:=M2.have_ (i:=i) (by omega)
   go_wp2_with fail
   refine Qaf [] [0,1,2,3,4,5,6] [] (by as_aux_lemma=>kernel_rfl) (by as_aux_lemma=>kernel_rfl) (by intro _ _ d _ _ h;cases d<;>exact h) ?_
   simp only[Qaj,pick,QGo,QGp,QGs,QGu,QGv]
   repeat (go_big_quiet_step (fail))
   refine wpQuiet_nil ?_
   by_cases hid1:id'=id
   ·have hb0:(id' != id)=false:=by simpa using hid1
    rw[hb0]
    go_wp2_with fail
    have hi16:(i:Int)<16:=by omega
    by_cases hacc:ks.any (fun q=>(pid q).ct != ct||(pid q).ix==(i:Int))=true
    ·have h3:tkE pid id ks ⟨1,id',i,ct,da⟩=3:=by rw[hE.out,if_neg (by rintro (h|h)<;>first|exact h rfl|exact h hpe),if_neg (fun h=>h hid1),if_pos hacc]
     have hne:ks≠[]:=by
      rintro rfl
      simp at hacc
     have hpos:decide (0<ks.length)=true:=decide_eq_true (List.length_pos_iff.2 hne)
     have hor:=QqA hk hne ⟨1,id',i,ct,da⟩
     rw[hacc]at hor
     have H3:=hid (FIN.out _ 3 (B2.later ((Qab _).trans (Qab _))) h3 (by omega))
     clear FIN HM hE hok h3 hacc
     generalize ks.any (fun q=>q.ix==(i:Int))=HV at *
     generalize ctOf ks=CT at *
     by_cases hct:ct=CT
     ·have hb1:(ct != CT)=false:=by simp[hct]
      have hHV:HV=true:=by
       rw[hb1,QIU]at hor
       exact hor.symm
      subst hHV
      clear hor
      refine Qaf [] [0,1,2,3,4,5,6,7,8,9,10,11,12,13,14,15,16,17,18,19,20,21,22] [] (by as_aux_lemma=>kernel_rfl) (by as_aux_lemma=>kernel_rfl) (by intro _ _ d _ _ h;cases d<;>exact h) ?_
      simp only[Qaj,pick,QGo,QGp,QGs,QGu,QGv]
      repeat (go_big_quiet_step (fail))
      refine wpQuiet_nil ?_
      go_wp2_with fail
      go_ret
      exact⟨by rw[H3.out.1];rfl,H3.out.2⟩
     ·have hb1:(ct != CT)=true:=by simp[hct]
      clear hor
      refine Qaf [] [0,1,2,3,4,5,6,7,8,9,10,11,12,13,14,15,16,17,18,19,20,21,22] [] (by as_aux_lemma=>kernel_rfl) (by as_aux_lemma=>kernel_rfl) (by intro _ _ d _ _ h;cases d<;>exact h) ?_
      simp only[Qaj,pick,QGo,QGp,QGs,QGu,QGv]
      repeat (go_big_quiet_step (fail))
      refine wpQuiet_nil ?_
      go_wp2_with fail
      go_ret
      exact⟨by rw[H3.out.1];rfl,H3.out.2⟩
    ·have h0:tkE pid id ks ⟨1,id',i,ct,da⟩=0:=by rw[hE.out,if_neg (by rintro (h|h)<;>first|exact h rfl|exact h hpe),if_neg (fun h=>h hid1),if_neg hacc]
     obtain⟨_,_,_,hz⟩:=Qiz h0
     have HZ:=hid hz
     have H0:=hid h0
     clear hz h0 FIN hE hok
     have hP:=B2.nth 0 rfl
     have hglt:w.heap.size≠g:=by omega
     have hML:=hid (Qk6 id ks pv M2.len)
     have hM:=M2.blk
     have CP:=hid (fun (w:World)=>Qe2 A n c da w)
     have FIN:Hid (∀ (w6:World) (gp:Nat),Blk w6 g 204 (((((MsC id ks pv).set 1 (.int .i64 ct)).set 2 (.int .i64 ((ks.length:Int)+1))).set (3+i) (.bool true)).set (19+i) (.slice (some ⟨gp,0,none⟩) n n))→base≤gp→Blk w6 gp 5 (da.map W8)→Only g w w6→
      (∃ pv',MsgAt w6 base g id (tkK pid id ks ⟨1,id',i,ct,da⟩) pv')∧Only g w w6):=by
      refine hid fun w6 gp hB hgp hD ho=>⟨⟨pv.set i (.slice (some ⟨gp,0,none⟩) n n),?_⟩,ho⟩
      have hp:(⟨1,id',i,ct,da⟩:Prt).ix=(i:Int):=rfl
      have hq:∀q∈ks,q.ix≠(⟨1,id',i,ct,da⟩:Prt).ix:=fun q hq=>(HZ.out q hq).2
      rw[tkK,if_pos H0.out]
      refine⟨?_,HM.out.low,by rw[QGV];exact HM.out.len,fun j v hv=>?_⟩
      ·rw[←Qxr id ks pv ⟨1,id',i,ct,da⟩ (by omega) hp]
       exact hB
      ·rw[Qwn hp hq]
       rw[List.getElem?_set]at hv
       by_cases hij:i=j
       ·subst hij
        rw[if_pos rfl,if_pos (by rw[HM.out.len];omega)]at hv
        rw[if_pos rfl,←Option.some.inj hv,←hlen]
        exact .inr ⟨gp,rfl,hgp,hD⟩
       ·rw[if_neg hij]at hv
        rw[if_neg (fun e=>hij e.symm)]
        exact (HM.out.pcs j v hv).only HM.out.blk (by decide) ho
     have hac2:(decide (0<ks.length)=true∧(ct != ctOf ks)=false∧ks.any (fun q=>q.ix==(i:Int))=false)∨decide (0<ks.length)=false:=by
      by_cases hne:ks=[]
      ·exact .inr (by simp[hne])
      ·have hor:=QqA hk hne ⟨1,id',i,ct,da⟩
       have hf:ks.any (fun q=>(pid q).ct != ct||(pid q).ix==(i:Int))=false:=by simpa using hacc
       rw[hf]at hor
       have hor':=hor.symm
       rw[Bool.or_eq_false_iff]at hor'
       exact .inl ⟨decide_eq_true (List.length_pos_iff.2 hne),hor'.1,hor'.2⟩
     generalize ks.any (fun q=>q.ix==(i:Int))=HV at *
     have kl:=hkl
     clear hacc
     have HC2:=hid (show ∀v:Value,((MsC id ks pv).set 1 v)[2]?=some (.int .i64 (ks.length:Nat)) from fun v=>rfl)
     generalize hMC:MsC id ks pv=MC at *
     generalize ks.length=KL at *
     generalize ctOf ks=CT at *
     rcases hac2 with ⟨hpos,h2,h3⟩|hpos
     case' inl=>subst h3
     all_goals
      refine Qaf [] [0,1,2,3,4,5,6,7,8,9,10,11,12,13,14,15,16,17,18,19,20,21,22] [] (by as_aux_lemma=>kernel_rfl) (by as_aux_lemma=>kernel_rfl) (by intro _ _ d _ _ h;cases d<;>exact h) ?_
      simp only[Qaj,pick,QGo,QGp,QGs,QGu,QGv]
      repeat (go_big_quiet_step (fail))
      refine wpQuiet_nil ?_
      go_wp2_with (first
       | (refine Qad rfl rfl _ _ _ rfl g 1 _ _ hM.drew.drew rfl ?hl rfl (by kernel_rfl) ?_;(case hl=>rw[hML.out];omega);intro v3 w3 hv3 hb3 ho3;simp[go_sem]at hv3;subst hv3
          have q3:=hP.drew.drew.only ho3 hglt
          obtain⟨e0,e1,e2,e3,e4⟩:=Qbx q3
          have f2:w3.cell? ⟨g,2,none⟩=some (.int .i64 (KL:Nat)):=hb3.cellD 2 (HC2.out _))
       | (refine Qad rfl rfl _ _ _ rfl g 2 _ _ hb3 rfl ?hl rfl (by kernel_rfl) ?_;(case hl=>rw[QGV,hML.out];omega);intro v4 w4 hv4 hb4 ho4;simp[go_sem]at hv4;subst hv4
          have q4:=q3.only ho4 hglt
          obtain⟨g0,g1,g2,g3,g4⟩:=Qbx q4)
       | fail)
      clear e0 e1 e2 e3 e4 f2
      refine Qaf [] [0,1,2,3,4,5] [6] (by as_aux_lemma=>kernel_rfl) (by as_aux_lemma=>kernel_rfl) (by intro _ _ d _ _ h;cases d<;>exact h) ?_
      simp only[Qaj,pick,QGo,QGp,QGs,QGu,QGv]
      repeat (go_big_quiet_step (fail))
      refine wpQuiet_nil ?_
      clear g0 g1 g2 g3 g4
      go_wp2_with (first
       | (refine Qad rfl rfl _ _ _ rfl g (3+i) _ _ hb4.drew rfl ?hl rfl (by kernel_rfl) ?_;(case hl=>rw[QGV,QGV,hML.out];omega);intro v6 w6 hv6 hb6 ho6;simp[go_sem]at hv6;subst hv6
          have q6:=q4.drew.only ho6 hglt
          obtain⟨d0,d1,d2,d3,d4⟩:=Qbx q6)
       | fail)
      have O6:Only g w w6:=(((((B2.lat.trans ((Qab _).trans (Qab _))).thenOnly ho3).trans ho4).later (Qab _)).trans ho6)
      have hr6:RdB w6 A n da:=Rd.onlyAvoid (Rd.later (Rd.onlyAvoid (Rd.onlyAvoid (hr.later (B2.lat.trans ((Qab _).trans (Qab _)))) hav ho3 rfl) hav ho4 rfl) (Qab _)) hav ho6 rfl
      clear ho3 ho4 ho6 hb3 hb4 q3 q4 q6 hM hP
      refine Qaf [([0,1,2,3,4,6,7],5)] [8] [9] (by as_aux_lemma=>kernel_rfl) (by as_aux_lemma=>kernel_rfl) (by intro _ _ d _ _ h;cases d<;>exact h) ?_
      simp only[Qaj,pick,QGo,QGp,QGs,QGu,QGv]
      repeat (go_big_quiet_step (fail))
      refine wpQuiet_nil ?_
      go_wp2_with fail
      (refine (CP.out _ (hr6.later (Qab _)) (by omega)).mono ?_);rintro e w8 ⟨rfl,hD8,j8⟩
      go_wp2_with fail
      try refine⟨by first|assumption|exact Qab _|exact Qaa _ _|exact Later.refl _,?_⟩
      try simp only[Qaj,pick,QGo,QGp,QGs,QGu,QGv]
      repeat (go_big_quiet_step (fail))
      refine wpQuiet_nil ?_
      have j68:=(Qab _).trans j8
      have hb8:=hb6.later j68
      have O8w:w.heap.size≤w6.drew.heap.size:=O6.size
      have O8:Only g w w8:=O6.later j68
      have hg8:base≤w6.drew.heap.size:=by
       have:=O6.size
       have e:w6.drew.heap.size=w6.heap.size:=rfl
       omega
      clear d0 d1 d2 d3 d4 O6 hb6
      go_wp2_with (first
       | (refine Qad rfl rfl _ _ _ rfl g (19+i) _ _ hb8 rfl ?hl rfl (by kernel_rfl) ?_;(case hl=>rw[QGV,QGV,QGV,hML.out];omega);intro v9 w9 hv9 hb9 ho9;simp[go_sem]at hv9;subst hv9)
       | fail)
      have hD9:=hD8.only ho9 (fun e=>by
       have:w.heap.size≤w6.drew.heap.size:=O8w
       omega)
      have FF:=FIN.out w9 w6.drew.heap.size hb9 hg8 hD9 (O8.trans ho9)
      clear FIN
      go_ret
      exact⟨by rw[H0.out];rfl,FF⟩
   ·have hb0:(id' != id)=true:=by simpa using hid1
    have h4:tkE pid id ks ⟨1,id',i,ct,da⟩=4:=by rw[hE.out,if_neg (by rintro (h|h)<;>first|exact h rfl|exact h hpe),if_pos hid1]
    have H4:=hid (FIN.out _ 4 (B2.later (Qab _)) h4 (by omega))
    clear FIN HM hE hok h4
    rw[hb0]
    go_wp2_with fail
    go_ret
    exact⟨by rw[H4.out.1];rfl,H4.out.2⟩
  ·have hb1:((prtE ⟨1,id',ix,ct,da⟩:Nat):Int)≠0:=by omega
   have h3:tkE pid id ks ⟨1,id',ix,ct,da⟩=3:=by rw[hE.out,if_pos (.inr hpe)]
   generalize prtE ⟨1,id',ix,ct,da⟩=E0 at *
   have hb2:((E0:Int) != 0)=true:=by simpa using hb1
   have H3:=hid (FIN.out w2 3 B2 h3 (by omega))
   clear FIN HM hE hok h3
   go_wp2_with fail
   go_ret
   exact⟨by rw[H3.out.1];rfl,H3.out.2⟩
 ·have hb1:(kd != 1)=true:=by simpa using hkd
  have h3:tkE pid id ks ⟨kd,id',ix,ct,da⟩=3:=by rw[hE.out,if_pos (.inl hkd)]
  have H3:=hid (FIN.out _ 3 B1 h3 (by omega))
  clear FIN HM hE hok hck h3
  go_wp2_with fail
  go_ret
  exact⟨by rw[H3.out.1];rfl,H3.out.2⟩
theorem KeptOk.ct {ks:List Prt} (h:KeptOk ks) (hne:ks≠[]):1≤ctOf ks∧ctOf ks≤16∧(ks.length:Int)≤ctOf ks∧∀q∈ks,q.ct=ctOf ks:=by
 have hl:ks.getLast?=some (ks.getLast hne):=List.getLast?_eq_some_getLast hne
 have hm:=List.getLast_mem hne
 generalize ks.getLast hne=l at hl hm
 have hc:ctOf ks=l.ct:=by rw[ctOf,hl];rfl
 obtain⟨h1,h2,_⟩:=QiT (h.good l hm).2
 have hs:∀q∈ks,q.ct=l.ct:=fun q hq=>h.same q hq l hm
 rw[hc]
 exact⟨h1,h2,h.le hs (by omega),hs⟩
theorem QBa {ks:List Prt} (h:KeptOk ks) (i:Nat):(daAt ks i).length≤450:=by
 unfold daAt
 cases hf:ks.find? (fun q=>q.ix==(i:Int)) with
 | none=>simp
 | some r=>exact (QiT (h.good r (List.mem_of_find?_eq_some hf)).2).2.2.2.2
theorem Qs6 {f:Nat→List UInt8} {c:Nat} (h:∀i,(f i).length≤c):∀n,((QG0 n).map f).flatten.length≤n*c
 | 0=>by simp
 | n+1=>by
   have:=Qs6 h n
   have:=h n
   rw[QH5,QG6,QIL,QGy,QIM]
   simp only[QGR,QGH,QHH,QIH,QGW]
   omega
set_option maxRecDepth 100000 in
set_option maxHeartbeats 4000000 in
theorem Qws (base g:Nat) (id:UInt64) (ks:List Prt) (pv:List Value) (p:Prt) (A:Option Addr) (n c:Nat) (bt:Nat) (t:TypeId) (w:World) (hm:MsgAt w base g id ks pv) (hk:KeptOk ks) (hr:RdB w A n p.da) (hav:Avoid (· =g) A n) (hb:base≤w.heap.size) (hkl:ks.length≤1048576)
 (hbt:Blk w bt t (PaC p (.slice A n c))):
 Calls Tryz.prog 86 #[.pointer (some ⟨g,0,none⟩),.slice (some ⟨bt,0,none⟩) 1 1] w fun e w'=>e= .returned (.int .i64 (tkE pid id ks p:Nat))∧(∃ pv',MsgAt w' base g id (tkK pid id ks p) pv')∧Only g w w':=by
 have H:=hid (fun (w':World) (l:Later w w')=>QoT base g id ks pv p A n c w' (hm.later l) hk (hr.later l) hav (QG9 hb l.size) hkl)
 generalize tkE pid id ks p=E at *
 generalize tkK pid id ks p=K at *
 clear hm hk hr hav
 go_enter Tryz.func86,Tryz.ntmps86
 go_wp2
 go_loopw [5,11] (fun f i wr=>(i= .int .i64 0∧f= .int .i64 0∧Later w wr)∨(i= .int .i64 1∧f= .int .i64 (E:Nat)∧(∃ pv',MsgAt wr base g id K pv')∧Only g w wr)) (fun _ i _=>1-(intOf i).toNat)
 case atStart=>exact .inl ⟨rfl,rfl,Later.refl w⟩
 case round=>
  rcases hrel with ⟨rfl,rfl,L⟩|⟨rfl,rfl,h2,h3⟩
  ·have hbt':=hbt.later L
   have hbl:=hbt'.lt
   have B1:=Qbk wr 25 pz0
   go_wp2_with (first
    | (refine QdP rfl _ rfl hbt' rfl ?_)
    | (refine Qco rfl rfl _ _ rfl (B1.nth 0 rfl) rfl rfl rfl rfl ?_;intro w2 hb2 ho2
       have l2:Later wr w2:=B1.lat.only ho2 (QGx _))
    | (refine QdP rfl _ rfl hb2 rfl ?_)
    | fail)
   (refine (H.out _ (L.trans l2)).mono ?_);rintro e w3 ⟨rfl,hM3,o3⟩
   have O3:Only g w w3:=(L.trans l2).thenOnly o3
   clear H hbt' B1 hb2 ho2 l2 o3 L
   by_cases hE:E=0
   ·subst hE
    go_wp2_with fail
    exact⟨.inr ⟨by go_num,rfl,hM3,O3⟩,by simp[intOf]⟩
   ·have hE1:((E:Int) != 0)=true:=by
     rw[bne_iff_ne]
     omega
    go_wp2_with fail
    exact⟨.inr ⟨by go_num,rfl,hM3,O3⟩,by simp[intOf]⟩
  ·go_wp2_with fail
   go_ret
   exact⟨rfl,h2,h3⟩
set_option maxRecDepth 100000 in
theorem Qjn (base g:Nat) (id:UInt64) (ks:List Prt) (pv:List Value) (w:World) (hm:MsgAt w base g id ks pv) (hk:KeptOk ks) (hne:ks≠[]):
 Calls Tryz.prog 87 #[.pointer (some ⟨g,0,none⟩)] w fun e w'=>e= .returned (.int .i64 (ctOf ks-(ks.length:Int)))∧Later w w':=by
 obtain⟨c0,c1,c2⟩:=hm.cells
 obtain⟨h1,h2,h3,_⟩:=hk.ct hne
 have hpos:=List.length_pos_iff.2 hne
 generalize ctOf ks=CT at *
 generalize ks.length=KL at *
 have h0:decide ((KL:Int)=0)=false:=decide_eq_false (by omega)
 go_enter Tryz.func87,Tryz.ntmps87
 go_wp2_with fail
 refine Qaf [] [0,1,2,3,4,5,6,7,8,9] [] (by as_aux_lemma=>kernel_rfl) (by as_aux_lemma=>kernel_rfl) (by intro _ _ d _ _ h;cases d<;>exact h) ?_
 simp only[Qaj,pick,QGo,QGp,QGs,QGu,QGv]
 repeat (go_big_quiet_step (fail))
 refine wpQuiet_nil ?_
 go_wp2_with fail
 go_ret
 exact⟨rfl,Qab w⟩
set_option maxRecDepth 100000 in
set_option maxHeartbeats 1000000 in
theorem QrJ (base g:Nat) (id:UInt64) (ks:List Prt) (pv:List Value) (w:World) (hm:MsgAt w base g id ks pv) (hk:KeptOk ks) (hne:ks≠[]) (hf:(ks.length:Int)=ctOf ks):
 Calls Tryz.prog 88 #[.pointer (some ⟨g,0,none⟩)] w fun e w'=>∃A n c,e= .returned (.tuple #[.slice A n c,.int .i64 0])∧OwnB w' w.heap.size A n c (Qmr ks)∧Later w w':=by
 have HM:=hid (fun (w':World) (l:Later w w')=>Qjn base g id ks pv w' (hm.later l) hk hne)
 obtain⟨h1,h2,h3,_⟩:=hk.ct hne
 have hw:=Qqo hk
 have hfl:(QG0 ks.length).flatMap (daAt ks)=((QG0 ks.length).map (daAt ks)).flatten:=by rw[List.flatMap_def]
 rw[hfl]at hw
 have hle:=Qs6 (QBa hk) ks.length
 have hP:Hid (∀ w',Later w w'→Parts w' (fun _=>False) (some ⟨g,19,none⟩) ks.length ((QG0 ks.length).map (daAt ks))):=by
  refine hid fun w' l=>⟨pv.take ks.length,?_,fun _ _ _ h=>h,by rw[QGP,hm.len,QGr,List.length_range];omega,fun j v p hv hp=>?_⟩
  ·refine⟨by rw[QGP,hm.len];omega,fun _=>⟨g,19,rfl,(hm.blk.later l).lt,fun j u hu=>?_⟩⟩
   rw[QHJ]at hu
   split at hu
   ·refine (hm.blk.later l).cellD (19+j) ?_
    have hl:((hvOf ks).map Value.bool).length=16:=by simp[hvOf]
    rw[MsC,show 19+j=(16+j)+1+1+1 by omega,QGo,QGo,QGo,QGE (by omega),hl,show 16+j-16=j by omega]
    exact hu
   ·cases hu
  ·rw[QHJ]at hv
   split at hv
   ·rename_i hj
    rw[QGF,QHD hj]at hp
    obtain rfl:daAt ks j=p:=Option.some.inj hp
    rcases (hm.later l).pcs j v hv with ⟨rfl,e⟩|⟨gp,rfl,_,hb⟩
    ·exact⟨none,0,0,rfl,QGx _,by rw[e];exact QiE w',fun _ _ h=>by cases h⟩
    ·exact⟨_,_,_,rfl,QGx _,hb.rd (by simp),fun _ _ _ h=>h⟩
   ·cases hv
 obtain⟨c0,c1,c2⟩:=hm.cells
 have HJ:=hid (fun (w':World) (l:Later w w')=>QcT (some ⟨g,19,none⟩) ks.length 16 _ w' (hP.out w' l) (by omega) (by omega))
 rw[←hf]at h2 HM c1
 rw[Int.sub_self]at HM
 rw[←hw]at HJ
 generalize Qmr ks=W at *
 generalize ks.length=KL at *
 clear hP hw hfl hle hf
 go_enter Tryz.func88,Tryz.ntmps88
 go_wp2_with fail
 (refine (HM.out _ (Later.refl w)).mono ?_);rintro e w2 ⟨rfl,j2⟩
 have hb2:=hm.blk.later j2
 have d1:w2.cell? ⟨g,1,none⟩=some (.int .i64 (KL:Nat)):=(j2.below.cell (p:=⟨g,1,none⟩) hm.blk.lt).trans c1
 go_wp2_with fail
 refine Qaf [([0,1,2,3,4,5,6,7],8)] [9,10] [] (by as_aux_lemma=>kernel_rfl) (by as_aux_lemma=>kernel_rfl) (by intro _ _ d _ _ h;cases d<;>exact h) ?_
 simp only[Qaj,pick,QGo,QGp,QGs,QGu,QGv]
 repeat (go_big_quiet_step (fail))
 refine wpQuiet_nil ?_
 go_wp2_with fail
 (refine (HJ.out _ (j2.trans (Qab _))).mono ?_);rintro e w3 ⟨A',c',rfl,hown,j3⟩
 go_wp2_with fail
 try refine⟨by first|assumption|exact Qab _|exact Qaa _ _|exact Later.refl _,?_⟩
 try simp only[Qaj,pick,QGo,QGp,QGs,QGu,QGv]
 repeat (go_big_quiet_step (fail))
 refine wpQuiet_nil ?_
 go_wp2_with fail
 go_ret2
 exact⟨_,_,_,rfl,Qcq hown (j2.trans (Qab _)).size,(j2.trans (Qab _)).trans j3⟩
end Go.Proofs.YtdhgpkdjdmlphaaGreat
namespace Go.Proofs.YtdhgpkdjdmlphaaGreat
open Go.RowKit Go.Maps
def ptrV:Option Nat→Value
 | none=>.pointer none
 | some b=>.pointer (some ⟨b,0,none⟩)
def ptrD:Option Nat→DataW Unit
 | none=>.lit (.bool false)
 | some b=>.lit (.int .i64 b)
def ptrR (v:Value):Option (DataW Unit×List MemPlace):=
 match v with
 | .pointer none=>some (ptrD none,[])
 | .pointer (some ⟨b,0,none⟩)=>some (ptrD (some b),[])
 | _=>none
theorem QtG (x:Option Nat):ptrR (ptrV x)=some (ptrD x,[]):=by cases x<;>rfl
theorem QqS {x y:Option Nat} (h:ptrD x=ptrD y):x=y:=by
 cases x<;>cases y<;>simp[ptrD]at h<;>first|rfl|(subst h;rfl)|(have:(_:Int)=_:=h;congr 1;omega)
theorem QxO {v:Value} {x:Option Nat} {ps:List MemPlace} (h:ptrR v=some (ptrD x,ps)):v=ptrV x:=by
 unfold ptrR at h
 split at h
 ·simp only[Option.some.injEq,Prod.mk.injEq]at h
  rw[←QqS h.1]
  rfl
 ·simp only[Option.some.injEq,Prod.mk.injEq]at h
  rw[←QqS h.1]
  rfl
 ·cases h
structure PKey (P:Program) (k:TypeId) (α:Type) where
 kv:α→Value
 kl:α→Lit
 ok:∀x,keyOf P k (kv x)=some (kl x)
 inj:∀x y,kv x=kv y→x=y
 law:Keyed P k
def PMap {P:Program} {k:TypeId} {α:Type} (w:World) (K:PKey P k α) (b n:Nat) (f:α→Option Nat):Prop:=
 ∃D:DataW Unit,w.ownsMap P k ptrR b n D∧∀x,D.atKey (K.kl x) (ptrD none)=ptrD (f x)
section
variable {P:Program} {k t e:TypeId} {α:Type} {w w':World} {K:PKey P k α} {b n:Nat} {f:α→Option Nat}
theorem PKey.kl_inj (K:PKey P k α) {x y:α} (h:K.kl x=K.kl y):x=y:=K.inj x y (K.law.inj (K.ok x) (h ▸ K.ok y))
theorem PMap.made (w:World) (K:PKey P k α):PMap (w.alloc (.map #[] 0)) K w.heap.size 0 (fun _=>none):=⟨_,World.ownsMap_made w P k ptrR,fun _=>rfl⟩
theorem PMap.only (h:PMap w K b n f) {g:Nat} (ho:Only g w w') (hne:b≠g):PMap w' K b n f:=by
 obtain⟨D,h1,h2⟩:=h
 exact⟨D,h1.kept ho (by simpa using hne),h2⟩
theorem PMap.grown (h:PMap w K b n f) {row:Option Nat} (ho:w.grownBy w' row) (hne:some b≠row):PMap w' K b n f:=by
 obtain⟨D,h1,h2⟩:=h
 exact⟨D,h1.kept ho hne,h2⟩
theorem PMap.lt (h:PMap w K b n f):b<w.heap.size:=let ⟨_,h1,_⟩:=h;h1.lt
theorem PMap.later (h:PMap w K b n f) (hl:Later w w'):PMap w' K b n f:=by
 refine h.only (hl.onlyAny (b+1)) (by omega)
theorem PMap.look (h:PMap w K b n f) (ht:P.underlying t=some (.map k e)) (hz:(zeroValue e).run P w= .ok (.pointer none) w) (x:α):
 (Instr.lookup t (.map (some b)) (K.kv x) false).run P w= .ok (ptrV (f x)) w:=by
 obtain⟨D,h1,h2⟩:=h
 obtain⟨v,ps,hrun,hv⟩:=h1.lookup K.law ht hz (QtG none) (K.ok x)
 rw[h2]at hv
 rw[hrun,QxO hv]
theorem PMap.put [DecidableEq α] (h:PMap w K b n f) (ht:P.underlying t=some (.map k e)) (hn:n<maxLen) (x:α) (g:Nat):
 ∃w',(Instr.mapUpdate t (.map (some b)) (K.kv x) (.pointer (some ⟨g,0,none⟩))).run P w= .ok () w'∧PMap w' K b (n+1) (fun y=>if y=x then some g else f y)∧Only b w w':=by
 obtain⟨D,h1,h2⟩:=h
 obtain⟨w',hrun,h3,h4⟩:=h1.update K.law ht hn (K.ok x) (QtG (some g))
 refine⟨w',hrun,⟨_,h3,fun y=>?_⟩,h4⟩
 by_cases hyx:y=x
 ·subst hyx
  simp only[if_true]
  exact atKey_put_same h1.isMap (K.law.key (K.ok y)) _ _
 ·simp only[hyx,if_false]
  rw[atKey_put_other (fun hc=>hyx (K.kl_inj hc))]
  exact h2 y
variable {ops:Array Oper} {rest:List Oper} {o:Oper} {a:Act} {Q:Exit→Act→World→Prop}
theorem QiR (hg:o.guard=none) (m x:Operand) (hop:o.op=Op.lookup t m x false) (ht:P.underlying t=some (.map k e)) (hz:(zeroValue e).run P w= .ok (.pointer none) w)
 (hm:a.eval m= .map (some b)) (h:PMap w K b n f) (y:α) (hx:a.eval x=K.kv y) (hK:wpList P ops Q rest (a.put o.dst (ptrV (f y))) w):wpList P ops Q (o :: rest) a w:=by
 refine wpList_plain hg fun K' hK'=>?_
 unfold Oper.wp
 simp[execOp,hop,hm,hx,h.look ht hz y,Result.andThen]
 exact hK' _ _ hK
theorem Qs1 [DecidableEq α] (hg:o.guard=none) (m x v:Operand) (hop:o.op=Op.mapUpdate t m x v) (ht:P.underlying t=some (.map k e)) (hm:a.eval m= .map (some b)) (h:PMap w K b n f) (hn:n<maxLen) (y:α) (g:Nat)
 (hx:a.eval x=K.kv y) (hv:a.eval v= .pointer (some ⟨g,0,none⟩)) (hK:∀w',PMap w' K b (n+1) (fun z=>if z=y then some g else f z)→Only b w w'→wpList P ops Q rest (a.put o.dst undef) w'):wpList P ops Q (o :: rest) a w:=by
 refine wpList_plain hg fun K' hK'=>?_
 obtain⟨w',hrun,r1,r2⟩:=h.put ht hn y g
 unfold Oper.wp
 simp[execOp,hop,hm,hx,hv,hrun,Result.andThen]
 exact hK' _ _ (hK w' r1 r2)
end
theorem QCp:(199:Nat)<Tryz.prog.types.size:=of_decide_eq_true (by kernel_rfl)
theorem QC5:Tryz.prog.keyTypeAt (Tryz.prog.types.size+1) 199=true:=by kernel_rfl
theorem QCR:(match Tryz.prog.underlying 199 with|some (.array _ _)|some (.struct _)=>true|_=>false)=true:=by kernel_rfl
theorem QCB:laidOutB Tryz.prog=true:=by kernel_rfl
set_option maxRecDepth 100000 in
theorem QFa:Keyed Tryz.prog 199:=Keyed.of_law (deep_law_laid QCB (m:=3) (by omega) QCp (by kernel_rfl) QCR)
theorem Qt9:Tryz.prog.cellsOf 199=2:=by kernel_rfl
theorem QB7:Tryz.prog.cellsOf 23=1:=by kernel_rfl
theorem wf64 (x:UInt64):(Lit.int .u64 (x.toNat:Int)).wf=true:=by
 have:=x.toNat_lt
 simp[Lit.wf,IntKind.min,IntKind.max,IntKind.signed,IntKind.bits]
 omega
theorem Qur (d:Nat) (x:UInt64):Tryz.prog.keyLits (d+1) 23 [W64 x]=some [.int .u64 (x.toNat:Int)]:=by
 unfold Program.keyLits
 rw[Tryz.underlying23]
 simp[W64,wf64]
theorem Qte (d:Nat) (x y:UInt64):Tryz.prog.keyLits (d+2) 199 [W64 x,W64 y]=some [.int .u64 (x.toNat:Int),.int .u64 (y.toNat:Int)]:=by
 unfold Program.keyLits
 rw[Tryz.underlying199]
 simp[Qt9,QB7,Qur]
def QBj:PKey Tryz.prog 199 (UInt64×UInt64) where
 kv x:=.agg #[W64 x.1,W64 x.2]
 kl x:=.string (keyBytes [.int .u64 (x.1.toNat:Int),.int .u64 (x.2.toNat:Int)])
 ok x:=by
  have hf:(Value.agg #[W64 x.1,W64 x.2]).formed Tryz.prog 199=true:=by
   simp[Value.formed,Tryz.underlying199,Qt9]
  unfold keyOf
  rw[Tryz.underlying199]
  have hk:Tryz.prog.keyType 199=true:=QC5
  obtain⟨d,hd⟩:∃d,Tryz.prog.types.size+1=d+2:=⟨Tryz.prog.types.size-1,by have:=QCp;omega⟩
  simp only[hk,hf,Bool.and_self,if_true,hd]
  show (Tryz.prog.keyLits (d+2) 199 [W64 x.1,W64 x.2]).map _=_
  rw[Qte]
  rfl
 inj x y h:=by
  have h1:[W64 x.1,W64 x.2]=[W64 y.1,W64 y.2]:=congrArg Array.toList (Value.agg.inj h)
  have h2:W64 x.1=W64 y.1:=(List.cons.inj h1).1
  have h3:W64 x.2=W64 y.2:=(List.cons.inj (List.cons.inj h1).2).1
  have e:∀a b:UInt64,W64 a=W64 b→a=b:=fun a b h=>by
   have:(a.toNat:Int)=b.toNat:=by simpa [W64] using h
   exact QIx.1 (by omega)
  exact Prod.ext (e _ _ h2) (e _ _ h3)
 law:=QFa
end Go.Proofs.YtdhgpkdjdmlphaaGreat
namespace Go.Proofs.YtdhgpkdjdmlphaaGreat
open Go.RowKit
open Go.BigFrame
theorem KeptOk.small {ks:List Prt} (h:KeptOk ks):ks.length≤16:=by
 by_cases hne:ks=[]
 ·simp[hne]
 ·have:=h.ct hne
  omega
structure Ltv where
 lt:Ltr
 va:Option Addr
 vn:Nat
 vc:Nat
def LtC (y:Ltv):List Value:=[W64 y.lt.to,W64 y.lt.id,.int .i64 y.lt.tk,.slice y.va y.vn y.vc]
def lv0:Ltv:=⟨⟨0,0,0,[]⟩,none,0,0⟩
theorem Qz9 (y:Ltv):∀u∈LtC y,u.oneCell'=true:=by
 intro u hu
 simp only[LtC,QGJ,QGK,or_false]at hu
 rcases hu with rfl|rfl|rfl|rfl<;>rfl
theorem Qk4 (y:Ltv):(LtC y).length=4:=rfl
section
variable {w w':World} {base sz n:Nat} {e:TypeId} {v:Value} {vs:List Value}
theorem QmV {k:Nat} {es:Array MapEntry} {ck:Nat} (h:w.ownsRow base e sz v n vs) (hb:w.heap[k]?=some (.map es ck)) (ho:Only k w w'):w'.ownsRow base e sz v n vs:=by
 refine h.kept ho ?_
 rcases h.2 with ⟨rfl,_⟩|⟨g2,c2,cur2,rfl,_,hh2,_⟩
 ·exact .inl rfl
 ·refine .inr ?_
  intro hc
  have:k=g2:=by simpa [Value.ownBlock] using hc.symm
  subst this
  rw[hb]at hh2
  cases hh2
theorem QjS {k g:Nat} {t:TypeId} {l:List Value} {es:Array MapEntry} {ck:Nat} (h:Blk w g t l) (hb:w.heap[k]?=some (.map es ck)) (ho:Only k w w'):Blk w' g t l:=by
 refine h.only ho fun e=>?_
 subst e
 rw[Blk,hb]at h
 cases h
end
structure LSt (w wr:World) (bm n:Nat) (f:UInt64×UInt64→Option Nat) (K:UInt64×UInt64→List Prt) (v3:Value) (ys:List Ltv):Prop where
 lat:Later w wr
 map:PMap wr QBj bm n f
 low:w.heap.size≤bm
 msg:∀x g,f x=some g→∃pv,MsgAt wr w.heap.size g x.2 (K x) pv
 non:∀x,f x=none→K x=[]
 inj:∀x y g,f x=some g→f y=some g→x=y
 own:wr.ownsRow w.heap.size 140 4 v3 ys.length (ys.flatMap LtC)
 txt:∀y∈ys,OwnB wr w.heap.size y.va y.vn y.vc y.lt.tx
section
variable {w wr w':World} {bm n:Nat} {f:UInt64×UInt64→Option Nat} {K:UInt64×UInt64→List Prt} {v3:Value} {ys:List Ltv}
theorem PMap.obj {P:Program} {k:TypeId} {α:Type} {w:World} {M:PKey P k α} {b n:Nat} {f:α→Option Nat} (h:PMap w M b n f):∃es ck,w.heap[b]?=some (.map es ck):=by
 obtain⟨_,⟨es,ck,h1,_⟩,_⟩:=h
 exact⟨es,ck,h1⟩
theorem LSt.later (h:LSt w wr bm n f K v3 ys) (hl:Later wr w'):LSt w w' bm n f K v3 ys:=
 ⟨h.lat.trans hl,h.map.later hl,h.low,fun x g hx=>(h.msg x g hx).imp fun _ hm=>hm.later hl,h.non,h.inj,QaB h.own hl,fun y hy=>QaF (h.txt y hy) hl⟩
theorem MsgAt.onlyM {base g k:Nat} {id:UInt64} {ks:List Prt} {pv:List Value} {es:Array MapEntry} {ck:Nat} (h:MsgAt wr base g id ks pv) (hb:wr.heap[k]?=some (.map es ck)) (ho:Only k wr w'):MsgAt w' base g id ks pv:=
 ⟨QjS h.blk hb ho,h.low,h.len,fun i v hv=>(h.pcs i v hv).imp (fun h=>h) fun ⟨gp,h1,h2,h3⟩=>⟨gp,h1,h2,QjS h3 hb ho⟩⟩
theorem MsgAt.onlyO {base g k:Nat} {id:UInt64} {ks:List Prt} {pv:List Value} {l:List Value} (h:MsgAt wr base g id ks pv) (hb:Blk wr k 204 l) (hne:g≠k) (ho:Only k wr w'):MsgAt w' base g id ks pv:=
 ⟨h.blk.only ho hne,h.low,h.len,fun i v hv=>(h.pcs i v hv).only hb (by decide) ho⟩
theorem MsgAt.grown {base g b sz m:Nat} {e:TypeId} {v:Value} {vs:List Value} {id:UInt64} {ks:List Prt} {pv:List Value} (h:MsgAt wr base g id ks pv) (hr:wr.ownsRow b e sz v m vs) (h1:(204:TypeId)≠e) (h2:(5:TypeId)≠e) (hg:wr.grownBy w' v.ownBlock):MsgAt w' base g id ks pv:=
 ⟨Qdi h.blk hr h1 hg,h.low,h.len,fun i v hv=>(h.pcs i v hv).imp (fun h=>h) fun ⟨gp,k1,k2,k3⟩=>⟨gp,k1,k2,Qdi k3 hr h2 hg⟩⟩
theorem LSt.put (h:LSt w wr bm n f K v3 ys) {x0:UInt64×UInt64} {g:Nat} {pv:List Value} (hx:f x0=none) (hm:MsgAt wr w.heap.size g x0.2 [] pv) (hf:∀x,f x≠some g) (hp:PMap w' QBj bm (n+1) (fun x=>if x=x0 then some g else f x)) (ho:Only bm wr w'):
 LSt w w' bm (n+1) (fun x=>if x=x0 then some g else f x) K v3 ys:=by
 obtain⟨es,ck,hb⟩:=h.map.obj
 refine⟨h.lat.only ho h.low,hp,h.low,fun x g' hx'=>?_,fun x hx'=>?_,fun x y g' hx' hy'=>?_,QmV h.own hb ho,fun y hy=>?_⟩
 ·by_cases hxx:x=x0
  ·subst hxx
   simp only[if_true,Option.some.injEq]at hx'
   subst hx'
   exact⟨pv,by rw[h.non x hx];exact hm.onlyM hb ho⟩
  ·simp only[hxx,if_false]at hx'
   exact (h.msg x g' hx').imp fun _ hm=>hm.onlyM hb ho
 ·by_cases hxx:x=x0
  ·subst hxx
   simp at hx'
  ·simp only[hxx,if_false]at hx'
   exact h.non x hx'
 ·by_cases hxx:x=x0<;>by_cases hyy:y=x0
  ·exact hxx.trans hyy.symm
  ·simp only[hxx,hyy,if_true,if_false,Option.some.injEq]at hx' hy'
   subst hx'
   exact absurd hy' (hf y)
  ·simp only[hxx,hyy,if_true,if_false,Option.some.injEq]at hx' hy'
   subst hy'
   exact absurd hx' (hf x)
  ·simp only[hxx,hyy,if_false]at hx' hy'
   exact h.inj x y g' hx' hy'
 ·exact QmV (h.txt y hy) hb ho
theorem LSt.took (h:LSt w wr bm n f K v3 ys) {x0:UInt64×UInt64} {g:Nat} {pv:List Value} {k':List Prt} (hx:f x0=some g) (hm:MsgAt w' w.heap.size g x0.2 k' pv) (ho:Only g wr w'):LSt w w' bm n f (fun x=>if x=x0 then k' else K x) v3 ys:=by
 obtain⟨pv0,hm0⟩:=h.msg x0 g hx
 obtain⟨es,ck,hb⟩:=h.map.obj
 have hgb:bm≠g:=fun e=>by
  subst e
  have:=hm0.blk
  rw[Blk,hb]at this
  cases this
 refine⟨h.lat.only ho hm0.low,h.map.only ho hgb,h.low,fun x g' hx'=>?_,fun x hx'=>?_,h.inj,QaV h.own hm0.blk (by decide) ho,fun y hy=>?_⟩
 ·by_cases hxx:x=x0
  ·subst hxx
   obtain rfl:g=g':=Option.some.inj (hx.symm.trans hx')
   simp only[if_true]
   exact⟨pv,hm⟩
  ·simp only[hxx,if_false]
   refine (h.msg x g' hx').imp fun _ hm=>hm.onlyO hm0.blk (fun e=>hxx (h.inj x x0 g' hx' (by rw[e];exact hx))) ho
 ·by_cases hxx:x=x0
  ·subst hxx
   rw[hx]at hx'
   cases hx'
  ·simp only[hxx,if_false]
   exact h.non x hx'
 ·exact QaV (h.txt y hy) hm0.blk (by decide) ho
theorem LSt.wrote (h:LSt w wr bm n f K v3 ys) {y:Ltv} {v3':Value} (hown:w'.ownsRow w.heap.size 140 4 v3' (ys.length+1) (ys.flatMap LtC++LtC y)) (hg:wr.grownBy w' v3.ownBlock) (hl:Later w w')
 (ht:OwnB wr w.heap.size y.va y.vn y.vc y.lt.tx):LSt w w' bm n f K v3' (ys++[y]):=by
 obtain⟨es,ck,hb⟩:=h.map.obj
 have hbm:some bm≠v3.ownBlock:=by
  rcases h.own.2 with ⟨rfl,_⟩|⟨g2,c2,cur2,rfl,_,hh2,_⟩
  ·simp[Value.ownBlock]
  ·intro e
   have:bm=g2:=by simpa [Value.ownBlock] using e
   subst this
   rw[hb]at hh2
   cases hh2
 have txt:∀y:Ltv,OwnB wr w.heap.size y.va y.vn y.vc y.lt.tx→OwnB w' w.heap.size y.va y.vn y.vc y.lt.tx:=fun y h2=>QcI h2 h.own (by decide) hg
 refine⟨hl,h.map.grown hg hbm,h.low,fun x g hx=>(h.msg x g hx).imp fun _ hm=>hm.grown h.own (by decide) (by decide) hg,h.non,h.inj,?_,fun z hz=>?_⟩
 ·rw[QGy,QIE,QH3]
  simpa using hown
 ·rcases QHd.1 hz with hz|hz
  ·exact txt z (h.txt z hz)
  ·obtain rfl:z=y:=by simpa using hz
   exact txt z ht
end
end Go.Proofs.YtdhgpkdjdmlphaaGreat
namespace Go.Proofs.YtdhgpkdjdmlphaaGreat
open Go.ChangeShapes Go.WideShapes Go.ChangeAt Go.RowKit
end Go.Proofs.YtdhgpkdjdmlphaaGreat
namespace Go.Proofs.YtdhgpkdjdmlphaaGreat
open Go.ChangeShapes Go.WideShapes Go.ChangeAt Go.RowKit
open _root_.Go.Proofs.YtdhgpkdjdmlphaaGreat.Rows (uptoBulk uptoBulkAll uptoSmall)
theorem Qw8 {H:Type} (d:DataW H):1≤uptoBulk d:=by
 cases d with
 | lit l=>cases l<;>simp[uptoBulk]
 | _=>simp[uptoBulk]
theorem Qqz {H:Type} {d:DataW H} {l:List (DataW H)} (h:d∈l):uptoBulk d≤uptoBulkAll l:=by
 induction l with
 | nil=>cases h
 | cons x r ih=>
   simp only[uptoBulkAll]
   cases QGJ.1 h with
   | inl e=>subst e;omega
   | inr e=>have:=ih e;omega
theorem QlK {H:Type} (l:List (DataW H)):l.length≤uptoBulkAll l:=by
 induction l with
 | nil=>simp[uptoBulkAll]
 | cons x r ih=>have:=Qw8 x;simp only[uptoBulkAll,QHe];omega
section
variable {H:Type} {enc:TypeId×Value→H} {P:Program} {w:World} {base:Nat} {sp:Nat→Bool} {held:Bool}
theorem Qxd {a:Addr} {c:List Value} (h:w.cells? base a 1=some c):∃u,c=[u]∧w.cell? a=some u:=by
 have e0:a.add 0=a:=by simp[Addr.add]
 unfold World.cells? at h
 split at h
 ·simp only[QH5,List.range_zero,QGv,List.mapM_cons,List.mapM_nil,e0]at h
  cases hcc:w.cell? a with
  | none=>simp[hcc]at h
  | some u=>simp[hcc]at h;exact⟨u,h.symm,rfl⟩
 ·cases h
theorem QiK {a:Addr} {u:Value} (h:w.cell? a=some u):a.spot=none∧a.block<w.heap.size:=by
 unfold World.cell? at h
 split at h
 ·rename_i c t fz hc
  refine⟨?_,(Array.getElem?_eq_some_iff.1 hc).1⟩
  cases hs:a.spot with
  | none=>rfl
  | some x=>simp[hs]at h
 ·cases h
theorem QxQ {t e:TypeId} {fuel:Nat} {v:Value} {x:DataW H×List MemPlace} (ht:P.underlying t=some (.slice e)) (hc:P.cellsOf e=1) (h:DataW.trod enc P w base sp held fuel t [v]=some x):
 ∃A n c,∃(vs:List Value) (xs:List (DataW H×List MemPlace)),v= .slice A n c∧n≤c∧c≤maxLen∧Rd w A n vs∧xs.length=n∧
  (∀ (j:Nat) u,vs[j]?=some u→∃y f,xs[j]?=some y∧DataW.trod enc P w base sp held f e [u]=some y)∧uptoBulkAll (xs.map (·.1))+1≤uptoBulk x.1:=by
 rcases DataW.trod_slice ht h with ⟨hcs,rfl⟩|⟨a,len,cap,elems,rest,n,rfl,hcs,rfl,hb,hl,hm,hlen,hel,hsp,hns⟩
 ·obtain rfl:v= .slice none 0 0:=by simpa using hcs
  exact⟨none,0,0,[],[],rfl,QGx _,Nat.zero_le _,⟨rfl,fun h=>absurd h (by omega)⟩,rfl,fun j u hu=>by simp at hu,by simp[uptoBulk,uptoBulkAll]⟩
 ·obtain rfl:v= .slice (some a) len cap:=by simpa using hcs
  have each:∀i,i<len→∃u y,w.cell? (a.add i)=some u∧elems[i]?=some y∧DataW.trod enc P w base sp held n e [u]=some y:=by
   intro i hi
   have hE:=hel i hi
   rw[hc,QIm]at hE
   have hy:elems[i]?=some (elems[i]'(by omega)):=QGt _
   rw[hy,Option.bind_eq_some_iff]at hE
   obtain⟨c1,hc1,hy1⟩:=hE
   obtain⟨u,rfl,hu⟩:=Qxd hc1
   exact⟨u,_,hu,hy,hy1⟩
  refine⟨some a,len,cap,(QG0 len).map fun i=>(w.cell? (a.add i)).getD undef,elems,rfl,hl,hm,⟨by simp,fun h0=>?_⟩,hlen,fun j u hu=>?_,?_⟩
  ·obtain⟨u,y,hu,_,_⟩:=each 0 h0
   have e0:a.add 0=a:=by simp[Addr.add]
   rw[e0]at hu
   obtain⟨h1,h2⟩:=QiK hu
   obtain⟨b,o,s⟩:=a
   simp only at h1
   subst h1
   refine⟨b,o,rfl,h2,fun j v hv=>?_⟩
   rw[QGF]at hv
   have hj:j<len:=by
    rcases QHb j len with h|h
    ·exact h
    ·rw[QHF (by simpa using h)]at hv
     cases hv
   obtain⟨u',y',hu',_,_⟩:=each j hj
   rw[QHD hj]at hv
   simp only[QH9,Option.some.injEq,hu',QIl]at hv
   rw[←Qdb,hu',hv]
  ·rw[QGF]at hu
   have hj:j<len:=by
    rcases QHb j len with h|h
    ·exact h
    ·rw[QHF (by simpa using h)]at hu
     cases hu
   obtain⟨u',y',hu',hy',ht'⟩:=each j hj
   rw[QHD hj]at hu
   simp only[QH9,Option.some.injEq,hu',QIl]at hu
   exact⟨y',n,hy',hu ▸ ht'⟩
  ·simp only[uptoBulk]
   omega
theorem QsP {t e:TypeId} {fuel:Nat} {v:Value} {x:DataW H×List MemPlace} (ht:P.underlying t=some (.slice e)) (he:P.underlying e=some (.int .u8)) (hc:P.cellsOf e=1) (h:DataW.trod enc P w base sp held fuel t [v]=some x):
 ∃A n c bs,v= .slice A n c∧n≤c∧c≤maxLen∧RdB w A n bs∧bs.length+1≤uptoBulk x.1:=by
 obtain⟨A,n,c,vs,xs,rfl,h1,h2,h3,h4,h5,h6⟩:=QxQ ht hc h
 have hb:∀(j:Nat) u,vs[j]?=some u→∃b:UInt8,u=W8 b:=by
  intro j u hu
  obtain⟨y,f,_,hy⟩:=h5 j u hu
  obtain⟨m,hm,rfl,hw⟩:=DataW.trod_int he hy
  obtain rfl:u= .int .u8 m:=by simpa using hm
  have hr:0≤m∧m≤255:=by simpa [Lit.wf,IntKind.min,IntKind.max,IntKind.signed,IntKind.bits] using hw
  exact⟨QG3 m.toNat,by rw[W8,QHy];congr 1;omega⟩
 have hl:∀l:List Value,(∀ (j:Nat) u,l[j]?=some u→∃b:UInt8,u=W8 b)→∃bs:List UInt8,l=bs.map W8:=by
  intro l
  induction l with
  | nil=>exact fun _=>⟨[],rfl⟩
  | cons u l ih=>
    intro hl
    obtain⟨b,rfl⟩:=hl 0 u rfl
    obtain⟨bs,rfl⟩:=ih fun j v hv=>hl (j+1) v (by simpa using hv)
    exact⟨b :: bs,rfl⟩
 obtain⟨bs,rfl⟩:=hl vs hb
 refine⟨A,n,c,bs,rfl,h1,h2,h3,?_⟩
 have e1:bs.length=n:=by have:=h3.1;simpa using this
 have e2:=QlK (xs.map (·.1))
 rw[QGr,h4]at e2
 omega
end
theorem QCy:Tryz.prog.cellsOf 5=1:=by kernel_rfl
section
variable {H:Type} {enc:TypeId×Value→H} {w:World} {base b0:Nat} {sp:Nat→Bool} {held:Bool} {r:Reach}
set_option maxRecDepth 100000 in
theorem QsU {t:TypeId} {v:Value} {d:DataW H} {ps:List MemPlace} (ht:Tryz.prog.underlying t=some (.slice 5)) (hval:Value.okWide Tryz.prog w r b0 t v) (h:DataW.Trod enc Tryz.prog w base sp held t v d ps):
 ∃A n c bs,v= .slice A n c∧n≤c∧c≤maxLen∧RdB w A n bs∧bs.length+1≤uptoBulk d:=by
 obtain⟨A,n,c,rfl⟩:=okWide_slice ht hval
 obtain⟨f,hf⟩:=h
 obtain⟨A',n',c',bs,h1,h2⟩:=QsP ht Tryz.underlying5 QCy hf
 exact⟨A',n',c',bs,h1,h2⟩
end
theorem Qqx {α β:Type} (f:α→Option β):∀(l:List α) (ys:List β),l.mapM f=some ys→ys.length=l.length∧∀(i:Nat) x,l[i]?=some x→f x=ys[i]?
 | [],ys,h=>by
   simp only[List.mapM_nil,pure,Option.some.injEq]at h
   subst h
   exact⟨rfl,fun i x hx=>by simp at hx⟩
 | a :: l,ys,h=>by
   rw[List.mapM_cons]at h
   simp only[bind,Option.bind_eq_some_iff,pure,Option.some.injEq]at h
   obtain⟨y,hy,ys',h',rfl⟩:=h
   obtain⟨h1,h2⟩:=Qqx f l ys' h'
   refine⟨by simp[h1],fun i x hx=>?_⟩
   cases i with
   | zero=>
     obtain rfl:a=x:=by simpa using hx
     simpa using hy
   | succ i=>simpa using h2 i x (by simpa using hx)
theorem QkK {w:World} {base k:Nat} {a:Addr} {cs:List Value} (h:w.cells? base a k=some cs):cs.length=k∧∀i,i<k→w.cell? (a.add i)=cs[i]?:=by
 unfold World.cells? at h
 split at h
 ·obtain⟨h1,h2⟩:=Qqx _ _ _ h
  exact⟨by simpa using h1,fun i hi=>h2 i i (by rw[QHD hi])⟩
 ·cases h
section
variable {H:Type} {enc:TypeId×Value→H} {P:Program} {w:World} {base b0:Nat} {sp:Nat→Bool} {held:Bool} {r:Reach}
theorem Qnb {α:Type} {F:α→List Value} {sz:Nat} (d0:α) {G:α→Nat→Prop} {t e:TypeId} (ht:P.underlying t=some (.slice e)) (hc:P.cellsOf e=sz) (h0:0<sz) (hF:∀x,(F x).length=sz) (hG:∀y m n,m≤n→G y m→G y n)
 (el:∀fuel cs x,DataW.trod enc P w base sp held fuel e cs=some x→∃y,cs=F y∧G y (uptoBulk x.1)) {fuel:Nat} {v:Value} {x:DataW H×List MemPlace} (h:DataW.trod enc P w base sp held fuel t [v]=some x):
 ∃A n c xs,v= .slice A n c∧n≤c∧RdF F sz d0 w A n xs∧n+1≤uptoBulk x.1∧∀y∈xs,G y (uptoBulk x.1):=by
 rcases DataW.trod_slice ht h with ⟨hcs,rfl⟩|⟨a,len,cap,elems,rest,n,rfl,hcs,rfl,hb,hl,hm,hlen,hel,hsp,hns⟩
 ·obtain rfl:v= .slice none 0 0:=by simpa using hcs
  exact⟨none,0,0,[],rfl,QGx _,Qfo w,by simp[uptoBulk],by simp⟩
 ·obtain rfl:v= .slice (some a) len cap:=by simpa using hcs
  have each:∀i,∃y:α,i<len→(w.cells? base (a.add (i*sz)) sz=some (F y)∧G y (uptoBulkAll (elems.map (·.1)))):=by
   intro i
   by_cases hi:i<len
   ·have hE:=hel i hi
    rw[hc]at hE
    have hy:elems[i]?=some (elems[i]'(by omega)):=QGt _
    rw[hy,Option.bind_eq_some_iff]at hE
    obtain⟨c1,hc1,hy1⟩:=hE
    obtain⟨y,rfl,hg⟩:=el _ _ _ hy1
    exact⟨y,fun _=>⟨hc1,hG _ _ _ (Qqz (QG2.2 ⟨_,QHi _,rfl⟩)) hg⟩⟩
   ·exact⟨d0,fun h=>absurd h hi⟩
  obtain⟨f,hf⟩:=Classical.axiomOfChoice each
  have hfl:∀j,j<len→((QG0 len).map f).getD j d0=f j:=by
   intro j hj
   rw[QGq,QGF,QHD hj]
   rfl
  have e2:=QlK (elems.map (·.1))
  rw[QGr,hlen]at e2
  refine⟨some a,len,cap,(QG0 len).map f,rfl,hl,⟨by simp,fun h1=>?_⟩,?_,fun y hy=>?_⟩
  ·have e0:a.add (0*sz)=a:=by simp[Addr.add]
   have h00:=(QkK (hf 0 h1).1).2 0 h0
   rw[e0]at h00
   have e1:a.add 0=a:=by simp[Addr.add]
   rw[e1,QGt (by rw[hF];exact h0)]at h00
   obtain⟨h1,h2⟩:=QiK h00
   obtain⟨b,o,s⟩:=a
   simp only at h1
   subst h1
   refine⟨b,o,rfl,h2,fun j i v hj hv=>?_⟩
   rw[hfl j hj]at hv
   have hi:i<sz:=by
    have:=(QGL.1 hv).1
    rwa [hF]at this
   have:=(QkK (hf j hj).1).2 i hi
   rw[Qdb,Qdb]at this
   rw[this]
   exact hv
  ·simp only[uptoBulk]
   omega
  ·obtain⟨j,hj,rfl⟩:=QG2.1 hy
   refine hG _ _ _ ?_ (hf j (QHg.1 hj)).2
   simp only[uptoBulk]
   omega
end
section
variable {H:Type} {enc:TypeId×Value→H} {w:World} {base b0:Nat} {sp:Nat→Bool} {held:Bool} {r:Reach}
end
end Go.Proofs.YtdhgpkdjdmlphaaGreat
namespace Go.Proofs.YtdhgpkdjdmlphaaGreat
open Go.RowKit
open Go.ChangeShapes Go.WideShapes Go.ChangeAt
open _root_.Go.Proofs.YtdhgpkdjdmlphaaGreat.Rows (uptoBulk uptoBulkAll uptoSmall)
open Go.ChangeMaps (open_string shut_string)
structure Emt where
 tk:Int
 id:UInt64
 bs:List UInt8
 A:Option Addr
 n:Nat
 c:Nat
def emt0:Emt:=⟨0,0,[],none,0,0⟩
def EmC (e:Emt):List Value:=[.int .i64 e.tk,W64 e.id,.slice e.A e.n e.c]
theorem QhF (e:Emt):(EmC e).length=3:=rfl
theorem Quu (e:Emt):∀u∈EmC e,u.oneCell'=true:=by
 intro u hu
 simp only[EmC,QGJ,QGK,or_false]at hu
 rcases hu with rfl|rfl|rfl<;>rfl
def EmOk (w:World) (e:Emt):Prop:=e.n≤e.c∧RdB w e.A e.n e.bs
theorem EmOk.later {w w':World} {e:Emt} (h:EmOk w e) (l:Later w w'):EmOk w' e:=⟨h.1,h.2.later l⟩
section
variable {H:Type} {enc:TypeId×Value→H} {w:World} {base b0:Nat} {sp:Nat→Bool} {held:Bool} {r:Reach}
end
end Go.Proofs.YtdhgpkdjdmlphaaGreat
