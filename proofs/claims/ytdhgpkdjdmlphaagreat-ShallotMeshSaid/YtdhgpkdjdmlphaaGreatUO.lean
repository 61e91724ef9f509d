/-
  Lemmas for the last text of this claim (part 15 of 20).
-/
import Derived.ArgAppend
import Derived.BigQuiet
import Derived.BigRegion
import Derived.ChangeOld
import Derived.Deep.RegionWith
import Derived.DeepKeys4
import Derived.JoinedCond
import Derived.LaidMore
import Derived.Laws.BytesArg
import Derived.Laws.CopyOwn
import Derived.Laws.Externs
import Derived.Laws.IdiomStrings
import Derived.Laws.Tables
import Derived.Lib.AppendStr
import Derived.Lib.AppendZerosOnto
import Derived.Lib.Mul64
import Derived.Lib.SlBytesConst
import Derived.LoopN
import Derived.Maps.OwnSet
import Derived.OpenShut
import Derived.OrdersHeld
import Derived.ProofKit
import Derived.Shelf.Spec.BitsCarry
import Derived.ShutString
import Derived.Test.YtdhgpkdjdmlphaaGreatProg
import Derived.Test.YtdhgpkdjdmlphaaGreatRows
import Derived.WalkKit
import Derived.WalkLawsBesides
import Derived.WalkSpells
import Derived.Test.YtdhgpkdjdmlphaaGreatUB
import Derived.Test.YtdhgpkdjdmlphaaGreatUD
import Derived.Test.YtdhgpkdjdmlphaaGreatUE
import Derived.Test.YtdhgpkdjdmlphaaGreatUM
import Derived.Test.YtdhgpkdjdmlphaaGreatUN
open Bool renaming or_eq_true → QH4
open List renaming replicate → QGn, getElem?_cons_succ → QGo, getElem?_cons_zero → QGp, getD_eq_getElem?_getD → QGq, length_map → QGr, getElem?_eq_getElem → QGt, cons_append → QGu, nil_append → QGv, setIfInBounds_toArray → QGw, length_append → QGy, set_cons_zero → QGz, length_replicate → QGA, set_cons_succ → QGB, map_toArray → QGC, take_of_length_le → QGD, getElem?_append_right → QGE, getElem?_map → QGF, getElem?_append_left → QGG, map_nil → QGH, append_assoc → QGI, mem_cons → QGJ, not_mem_nil → QGK, getElem?_eq_some_iff → QGL, length_take → QGP, length_drop → QGQ, map_cons → QGR, append_nil → QGW, take_append_drop → QGX, range → QG0, set_append_right → QG1, mem_map → QG2, map_append → QG6, map_replicate → QG8, drop_left' → QHc, mem_append → QHd, take_append_of_le_length → QHf, getElem_mem → QHi, getElem?_drop → QHA, flatMap_cons → QHB, drop_append_of_le_length → QHC, getElem?_range → QHD, getElem?_eq_none → QHF, flatten_cons → QHH, replicate_append_replicate → QHI, getElem?_take → QHJ, take_left' → QHK, mem_singleton → QHO, getElem_of_mem → QHQ, any_eq_true → QHV, map_take → QH0, replicate_succ → QH2, drop_eq_nil_of_le → QIh, drop_zero → QIk, drop_succ_cons → QIn, take_add_one → QIr, drop_append → QIG, flatten_nil → QIH, any_eq_false → QIK, take_zero → QIS
open Nat renaming le_refl → QGx, lt_of_lt_of_le → QGN, zero_add → QGT, le_trans → QG9, lt_or_ge → QHb, sub_self → QHG, mul_one → QIm, le_of_eq → QIs, add_sub_cancel_left → QIt
open Option renaming toList_some → QGs
open UInt64 renaming ofNat → QGS
set_option linter.all false
namespace Go.Proofs.YtdhgpkdjdmlphaaGreat
open Go.RowKit
structure Hp where
 nod:Nod
 delay:Int
 flags:Int
def hp0:Hp:=⟨nod0,0,0⟩
def HC (x:Hp):List Value:=NC x.nod++[.int .i64 x.delay,.int .i64 x.flags]
theorem Qa4 (x:Hp):(HC x).length=68:=by rw[HC,QGy,Qas];rfl
theorem QtC (x:Hp):∀u∈HC x,u.oneCell'=true:=by
 intro u hu
 rw[HC]at hu
 rcases QHd.1 hu with h|h
 ·exact QuZ _ u h
 ·simp only[QGJ,QGK,or_false]at h
  rcases h with rfl|rfl<;>rfl
abbrev RdH:World→Option Addr→Nat→List Hp→Prop:=RdF HC 68 hp0
theorem Qqp (x:Hp) {i:Nat} {v:Value} (h:(NC x.nod)[i]?=some v):(HC x)[i]?=some v:=by
 rw[HC,QGG (QGL.1 h).1]
 exact h
theorem QlD (x:Hp):(HC x)[66]?=some (.int .i64 x.delay):=by
 rw[HC,QGE (by rw[Qas];omega),Qas]
 rfl
theorem Qmk (x:Hp):(HC x)[67]?=some (.int .i64 x.flags):=by
 rw[HC,QGE (by rw[Qas];omega),Qas]
 rfl
end Go.Proofs.YtdhgpkdjdmlphaaGreat
namespace Go.Proofs.YtdhgpkdjdmlphaaGreat
open Go.RowKit
open Go.BigFrame
structure Stp where
 nm:ByteArray
 delay:Int
 flags:Int
def stp0:Stp:=⟨.empty,0,0⟩
def SC (x:Stp):List Value:=[.string x.nm,.int .i64 x.delay,.int .i64 x.flags]
theorem QmT (x:Stp):(SC x).length=3:=rfl
theorem QCQ (x:Stp):∀u∈SC x,u.oneCell'=true:=by
 intro u hu
 simp only[SC,QGJ,QGK,or_false]at hu
 rcases hu with rfl|rfl|rfl<;>rfl
abbrev RdS:World→Option Addr→Nat→List Stp→Prop:=RdF SC 3 stp0
def badS (t:Stp):Bool:=decide (t.delay<0)||decide (1000000<t.delay)||decide (t.flags<0)||decide (255<t.flags)
def Qny (xs:List Nod) (t:Stp):Hp:=⟨(Qfx (Qdf t.nm) xs).1,t.delay,t.flags⟩
def Qgn (xs:List Nod) (t:Stp):Bool:=(Qfx (Qdf t.nm) xs).2 != 0
def QbR (xs:List Nod) (ts:List Stp):Nat:=if ts.any badS then 1 else if ts.length<1∨5<ts.length then 2 else if QaG xs≠0 then QaG xs else if ts.any (Qgn xs) then 4 else 0
def QaD (xs:List Nod) (ts:List Stp):List Hp:=ts.map (Qny xs)
theorem QgQ {ts:List Stp} {p:Stp→Bool} {k:Nat} (hk:k<ts.length) (h:p (ts.getD k stp0)=true):ts.any p=true:=by
 rw[QHV]
 refine⟨_,QHi hk,?_⟩
 rwa [QGq,QGt hk]at h
theorem Qe0 {ts:List Stp} {p:Stp→Bool} (h:∀k,k<ts.length→p (ts.getD k stp0)=false):ts.any p=false:=by
 rw[QIK]
 intro x hx
 obtain⟨k,hk,rfl⟩:=QHQ hx
 have:=h k hk
 rw[QGq,QGt hk]at this
 simpa using this
theorem QtK {xs:List Nod} {ts:List Stp} {k:Nat} (hk:k<ts.length) (h:badS (ts.getD k stp0)=true):QbR xs ts=1:=by rw[QbR,if_pos (QgQ hk h)]
theorem QrN {xs:List Nod} {ts:List Stp} (hb:∀k,k<ts.length→badS (ts.getD k stp0)=false) (h:ts.length<1∨5<ts.length):QbR xs ts=2:=by
 rw[QbR,if_neg (by rw[Qe0 hb];decide),if_pos h]
theorem QoG {xs:List Nod} {ts:List Stp} (hb:∀k,k<ts.length→badS (ts.getD k stp0)=false) (h: ¬(ts.length<1∨5<ts.length)) (hc:QaG xs≠0):QbR xs ts=QaG xs:=by
 rw[QbR,if_neg (by rw[Qe0 hb];decide),if_neg h,if_pos hc]
theorem Qsm {xs:List Nod} {ts:List Stp} {k:Nat} (hb:∀k,k<ts.length→badS (ts.getD k stp0)=false) (h: ¬(ts.length<1∨5<ts.length)) (hc:QaG xs=0) (hk:k<ts.length) (hm:Qgn xs (ts.getD k stp0)=true):QbR xs ts=4:=by
 rw[QbR,if_neg (by rw[Qe0 hb];decide),if_neg h,if_neg (fun f=>f hc),if_pos (QgQ hk hm)]
theorem Qx5 {xs:List Nod} {ts:List Stp} (hb:∀k,k<ts.length→badS (ts.getD k stp0)=false) (h: ¬(ts.length<1∨5<ts.length)) (hc:QaG xs=0) (hm:∀k,k<ts.length→Qgn xs (ts.getD k stp0)=false):QbR xs ts=0:=by
 rw[QbR,if_neg (by rw[Qe0 hb];decide),if_neg h,if_neg (fun f=>f hc),if_neg (by rw[Qe0 hm];decide)]
theorem QsV {xs:List Nod} (hc:QaG xs=0) {i j:Nat} {s:ByteArray} (hi:i<xs.length) (hj:j<i) (h:Qdf s (xs.getD i nod0)=true):Qdf s (xs.getD j nod0)=false:=by
 cases e:Qdf s (xs.getD j nod0)
 ·rfl
 ·have hs:Qdo (xs.getD i nod0) (xs.getD j nod0)=true:=by
   rw[Qdf,beq_iff_eq]at h e
   rw[Qdo,h,e]
   simp
  rw[QaG]at hc
  split at hc
  ·omega
  ·split at hc
   ·omega
   ·rw[if_pos (Qd4 hi (Qd4 hj hs))]at hc
    omega
theorem QuB {xs:List Nod} (hc:QaG xs=0) {i:Nat} {s:ByteArray} (hi:i<xs.length) (h:Qdf s (xs.getD i nod0)=true):Qfx (Qdf s) xs=(xs.getD i nod0,0):=
 QiF hi (fun _ hj=>QsV hc hi hj h) h
theorem Qzm:(Tryz.prog.info? 125).map (·.size)=some 3:=by kernel_rfl
theorem QFJ:(Tryz.prog.info? 147).map (fun i=>(i.zero,i.size,i.bytes))=some (some (.agg (HC hp0).toArray),68,104):=by kernel_rfl
theorem QDG:(Tryz.prog.info? 76).map (fun i=>(i.zero,i.size,i.bytes))=some (some (.agg (HC hp0).toArray),68,104):=by kernel_rfl
theorem QA6:(Tryz.prog.info? 76).map (fun i=>(i.zero,i.size))=some (some (.agg (HC hp0).toArray),68):=by kernel_rfl
theorem QFk:(Tryz.prog.info? 147).bind (·.zero)=some (.agg (HC hp0).toArray):=by kernel_rfl
theorem QDp:(Tryz.prog.info? 76).bind (·.zero)=some (.agg (HC hp0).toArray):=by kernel_rfl
section
variable {ops:Array Oper} {rest:List Oper} {o:Oper} {a:Act} {w:World} {Q:Exit→Act→World→Prop}
theorem Qyo (hgd:Region.wanted o (yielded ops a.tmps)=true) (x:Operand) (ho:o.op= .load 125 x) {g off:Nat} {y:Stp} (hc:∀i v,(SC y)[i]?=some v→w.cell? ⟨g,off+i,none⟩=some v) (hx:a.eval x= .pointer (some ⟨g,off,none⟩))
 (h:wpList Tryz.prog ops Q rest (a.put o.dst (.agg (SC y).toArray)) w):wpList Tryz.prog ops Q (o :: rest) a w:=
 Qan hgd _ x ho g off _ hc hx _ Tryz.underlying125 rfl Qzm h
theorem QuL (hgd:o.guard=none) (hd:o.dst=none) (x y:Operand) (ho:o.op= .store 125 x y) {g:Nat} {t:TypeId} {l:List Value} {z:Stp} (hg:Blk w g t l) (hx:a.eval x= .pointer (some ⟨g,0,none⟩)) (hy:a.eval y= .agg (SC z).toArray) (hl:l.length=3)
 (h:∀w',Blk w' g t (SC z)→Only g w w'→wpList Tryz.prog ops Q rest a w'):wpList Tryz.prog ops Q (o :: rest) a w:=
 Qai hgd hd _ x y ho g t l _ hg hx hy 3 Qzm rfl hl (QCQ _) h
end
theorem QgE (p q r v:List Value) (k:Nat) (hk:p.length=k) (h:q.length=v.length):Qar (p++q++r) k v=p++v++r:=by
 subst hk
 rw[Qar,show p.length+v.length=(p++q).length by rw[QGy,h],QHc rfl,QGI p q r,QHK rfl]
theorem QzD (x:Nod) (d f:Int):Qar (Qar (Qar (HC hp0) 0 (NC x)) 66 [.int .i64 d]) 67 [.int .i64 f]=HC ⟨x,d,f⟩:=by
 have h1:Qar (HC hp0) 0 (NC x)=NC x++[.int .i64 0]++[.int .i64 0]:=by
  have:=QgE [] (NC nod0) [.int .i64 0,.int .i64 0] (NC x) 0 rfl (by rw[Qas,Qas])
  rw[QGv,QGv]at this
  rw[QGI]
  exact this
 have h2:=QgE (NC x) [.int .i64 0] [.int .i64 0] [.int .i64 d] 66 (Qas x) rfl
 have h3:=QgE (NC x++[.int .i64 d]) [.int .i64 0] [] [.int .i64 f] 67 (by rw[QGy,Qas];rfl) rfl
 rw[QGW,QGW]at h3
 rw[h1,h2,h3,HC,QGI]
 rfl
theorem QtN (x:Nod) (d f:Int):Tryz.prog.built 147 [(0,.agg (NC x).toArray),(1,.int .i64 d),(2,.int .i64 f)]=some (HC ⟨x,d,f⟩).toArray:=by
 rw[QaQ (pl:=[(0,66),(66,1),(67,1)]) Tryz.underlying147 QFk (by kernel_rfl),QaR (vs:=NC x) (off:=0) rfl (by rw[Qas];rfl) (by rw[Qas,Qa4];omega),
  QaR (vs:=[.int .i64 d]) (off:=66) rfl rfl (by rw[QaW _ _ _ (by rw[Qas,Qa4];omega),Qa4];simp),QaR (vs:=[.int .i64 f]) (off:=67) rfl rfl (by rw[QaW _ _ _ (by rw[QaW _ _ _ (by rw[Qas,Qa4];omega),Qa4];simp),QaW _ _ _ (by rw[Qas,Qa4];omega),Qa4];simp),Qb0,QzD]
theorem Qrv (x:Nod) (d f:Int):Tryz.prog.built 76 [(0,.agg (NC x).toArray),(1,.int .i64 d),(2,.int .i64 f)]=some (HC ⟨x,d,f⟩).toArray:=by
 rw[QaQ (pl:=[(0,66),(66,1),(67,1)]) Tryz.underlying76 QDp (by kernel_rfl),QaR (vs:=NC x) (off:=0) rfl (by rw[Qas];rfl) (by rw[Qas,Qa4];omega),
  QaR (vs:=[.int .i64 d]) (off:=66) rfl rfl (by rw[QaW _ _ _ (by rw[Qas,Qa4];omega),Qa4];simp),QaR (vs:=[.int .i64 f]) (off:=67) rfl rfl (by rw[QaW _ _ _ (by rw[QaW _ _ _ (by rw[Qas,Qa4];omega),Qa4];simp),QaW _ _ _ (by rw[Qas,Qa4];omega),Qa4];simp),Qb0,QzD]
theorem Ql1 (t:Stp):badS t=true↔(t.delay<0∨1000000<t.delay∨t.flags<0∨255<t.flags):=by
 rw[badS]
 simp only[QH4,decide_eq_true_eq,or_assoc]
theorem QAc {t:Stp} (h: ¬(t.delay<0∨1000000<t.delay∨t.flags<0∨255<t.flags)):badS t=false:=by
 cases e:badS t
 ·rfl
 ·exact absurd ((Ql1 t).1 e) h
theorem QzV {p:Nat→Prop} {k:Nat} (h:∀j,j<k→p j) (hk:p k):∀j,j<k+1→p j:=Qbn h hk
theorem Qpf (xs:List Nod) (ts:List Stp) (k:Nat) (h:k<ts.length):(QaD xs ts).take (k+1)=(QaD xs ts).take k++[Qny xs (ts.getD k stp0)]:=by
 rw[QIr,QaD,QGF,QGq,QGt h]
 rfl
theorem QxL (w:World) (t:TypeId) (x:Hp):Blk (w.alloc (.cells (HC x).toArray t)) w.heap.size t ([x].flatMap HC):=by
 rw[QHB,List.flatMap_nil,QGW]
 exact Blk.new w t _
def S32 (b:Nat):Value:=.slice (some ⟨b,0,none⟩) 32 32
theorem Qw4 (gs:List Nat) (k b:Nat) (hg:gs.length=k) (n:Nat) (hk:k<n) (z:Value):(gs.map S32++QGn (n-k) z).set k (S32 b)=(gs++[b]).map S32++QGn (n-(k+1)) z:=by
 have hl:(gs.map S32).length=k:=by rw[QGr,hg]
 rw[QG1 _ _ (by omega),hl,QHG,show n-k=n-(k+1)+1 by omega,QH2,QGz,QG6,QGI]
 rfl
set_option maxRecDepth 100000 in
set_option maxHeartbeats 2000000 in
theorem Qm5 (A:Option Addr) (n c:Nat) (xs:List Hp) (w:World) (hx:RdH w A n xs) (hn:n≤1099511627776):
 Calls Tryz.prog 16 #[.slice A n c] w fun e w'=>∃(g:Nat) (gs:List Nat),e= .returned (.slice (some ⟨g,0,none⟩) n n)∧w.heap.size≤g∧Blk w' g 22 (gs.map S32)∧gs.length=n∧(∀ (j b:Nat),gs[j]?=some b→g<b∧Blk w' b 5 ((xs.getD j hp0).nod.pub.val.map W8))∧gs.Pairwise (· <·)∧Later w w':=by
 have hxl:=hx.1
 go_enter Tryz.func16,Tryz.ntmps16
 go_wp2_with (first
  | (refine QaA rfl _ _ 48 rfl 22 (.slice none 0 0) 24 Tryz.underlying48 Qt3 rfl _ _ _ _ n rfl rfl rfl rfl (by omega) (by omega) ?_;intro w1 hb1 hl1)
  | fail)
 have hgl:w.heap.size≤w.heap.size:=QGx _
 generalize hge:w.heap.size=g at hb1 ⊢
 replace hgl:w.heap.size≤g:=QIs hge
 clear hge
 go_loopw [10] (fun i wr=>∃(k:Nat) (gs:List Nat),i= .int .i64 k∧k≤n∧gs.length=k∧Blk wr g 22 (gs.map S32++QGn (n-k) (.slice none 0 0))∧Hid (∀ (j b:Nat),gs[j]?=some b→g<b∧b<wr.heap.size∧Blk wr b 5 ((xs.getD j hp0).nod.pub.val.map W8))∧Hid (gs.Pairwise (· <·))∧Later w wr) (fun i _=>n-(intOf i).toNat)
 case atStart=>exact⟨0,[],rfl,by omega,rfl,hb1,hid (fun j b h=>by simp at h),hid List.Pairwise.nil,hl1⟩
 case round=>
  clear hb1 hl1
  obtain⟨k,gs,rfl,hk,hgs,hb,hall,hpw,L⟩:=hrel
  by_cases hlt:k<n
  ·obtain⟨b,o,rfl,hbb,hc⟩:=(hx.later L).at_ hlt
   have hcn:∀i v,(NC (xs.getD k hp0).nod)[i]?=some v→wr.cell? ⟨b,o+k*68+i,none⟩=some v:=fun i v hv=>hc i v (Qqp _ hv)
   have hlast:=hid (show ∀b':Nat,(gs++[b'])[k]?=some b' from fun b'=>by rw[QGE (by omega),hgs,QHG];rfl)
   generalize hz:xs.getD k hp0=z at hcn
   have hzz:=hid hz
   clear hz hc
   have hgw:g<wr.heap.size:=hb.lt
   go_wp2_with (first
    | (refine Qrw rfl _ rfl hcn rfl ?_)
    | fail)
   (with_reducible refine (Qj9 z.nod _).mono ?_);rintro e w2 ⟨g2,rfl,hg2,hp2,l2⟩
   replace hb:=hb.later l2
   have hlen:(gs.map S32++QGn (n-k) (Value.slice none 0 0)).length=n:=by simp;omega
   go_wp2_with (first
    | (refine Qad rfl rfl _ _ _ rfl g k _ _ hb rfl ?hl rfl (by kernel_rfl) ?_;(case hl=>rw[hlen];exact hlt);intro v w3 hv hb3 ho3;have hv':v=S32 g2:=hv.symm;subst hv';rw[Qw4 gs k g2 hgs n hlt]at hb3)
    | fail)
   refine⟨⟨k+1,gs++[g2],rfl,by omega,by rw[QGy,hgs];rfl,hb3,?_,?_,(L.trans l2).only ho3 hgl⟩,by simp[intOf];omega⟩
   ·refine hid fun j b' h=>?_
    rcases QHb j k with hj|hj
    ·rw[QGG (by omega)]at h
     obtain⟨h1,h2,h3⟩:=hall.out j b' h
     have h4:=(h3.later l2).only ho3 (by omega)
     exact⟨h1,h4.lt,h4⟩
    ·have hjk:j=k:=by
      have:=(QGL.1 h).1
      rw[QGy,hgs]at this
      simp at this
      omega
     subst hjk
     rw[hlast.out g2]at h
     obtain rfl:g2=b':=by simpa using h
     have h4:=hp2.only ho3 (by omega)
     rw[hzz.out]
     exact⟨by omega,h4.lt,h4⟩
   ·refine hid (List.pairwise_append.2 ⟨hpw.out,List.pairwise_singleton _ _,fun a ha b' hb'=>?_⟩)
    obtain rfl:b'=g2:=by simpa using hb'
    obtain⟨j,hj⟩:=List.getElem?_of_mem ha
    have:=(hall.out j a hj).2.1
    omega
  ·obtain rfl:k=n:=by omega
   rw[QHG,List.replicate_zero,QGW]at hb
   go_wp2
   go_ret
   exact⟨g,gs,rfl,hgl,hb,hgs,fun j b h=>⟨(hall.out j b h).1,(hall.out j b h).2.2⟩,hpw.out,L⟩
theorem Qyj (b:List UInt8) (h:b.length=768):putB (b.take 288++QGn 480 0) 288 ((b.drop 288).take 480)=b:=by
 rw[QeT _ _ _ 288 (by rw[QGP];omega) (by rw[QGA,QGP,QGQ];omega),QGD (l:=b.drop 288) (by rw[QGQ];omega),QGX]
set_option maxRecDepth 100000 in
set_option maxHeartbeats 4000000 in
theorem Qsw (A:Option Addr) (c:Nat) (b:List UInt8) (w:World) (hb:RdB w A 768 b) (hc:768≤c):
 Calls Tryz.prog 14 #[.slice A 768 c] w fun e w'=>e= .returned (.tuple #[.agg (b.map W8).toArray,.int .i64 0])∧Later w w':=by
 have hbl:=hb.len
 obtain⟨b0,p,rfl,hb00,_⟩:=hb.2 (by omega)
 have HZ:=hid zcP
 have HH:=hid zcH
 have B0:Bag w (w.alloc (.cells Tryz.zeroCells37 37)) [(w.heap.size,37,(QGn 768 (0:UInt8)).map W8)]:=(Bag.none w).add (Qaa _ _) (by simp) (QGx _) ((Blk.new w _ Tryz.zeroCells37.toList).cast zcP)
 have l0:((QGn 768 (0:UInt8)).map W8).length=768:=by rw[QGr,QGA]
 have lh:((QGn 288 (0:UInt8)).map W8).length=288:=by rw[QGr,QGA]
 have hhl:(b.take 288).length=288:=by rw[QGP];omega
 have hH:=hid (fun (w:World) h=>Qsf (some ⟨b0,p,none⟩) c (b.take 288) w h (by omega))
 have hp1:=QkU (b.take 288) hhl
 have hp1l:(b.take 288++QGn 480 (0:UInt8)).length=768:=by rw[QGy,hhl,QGA]
 have hput:=hid (Qyj b hbl)
 have h288:Hid (∀ w,RdB w (some ⟨b0,p,none⟩) 768 b→RdB w (some ⟨b0,p+288,none⟩) 480 (b.drop 288)):=hid (fun w h=>by
  have:=RdB.cut h (k:=288) (c:=769) (by omega) (by omega)
  rw[show cutA (some ⟨b0,p,none⟩) 288 769=some ⟨b0,p+288,none⟩ by rw[cutA,if_neg (by omega)];rfl]at this
  exact this)
 have hcc:cutA (some ⟨b0,p,none⟩) 288 c=some ⟨b0,p+288,none⟩:=by rw[cutA,if_neg (by omega)];rfl
 have HT:Hid (∀ w,RdB w (some ⟨b0,p,none⟩) 768 b→RdB w (some ⟨b0,p,none⟩) 288 (b.take 288)):=hid (fun w h=>RdB.take h (by omega))
 generalize QGn 768 (0:UInt8)=Z at *
 generalize QGn 288 (0:UInt8)=ZH at *
 generalize b.take 288++QGn 480 (0:UInt8)=P1 at *
 generalize b.take 288=hd at *
 go_enter Tryz.func14,Tryz.ntmps14
 go_wp2_with fail
 generalize hW:w.alloc _=w1
 replace B0:Bag w w1 [(w.heap.size,37,Z.map W8)]:=by rw[←hW];exact B0
 clear hW
 (with_reducible refine (hH.out _ (HT.out _ (hb.later B0.lat))).mono ?_);rintro e w2 ⟨rfl,l2⟩
 replace B0:=B0.later l2
 go_wp2_with (first
  | (refine Qee rfl rfl _ _ rfl ((Blk.new w2 _ Tryz.zeroCells34.toList).cast HH.out) rfl rfl hhl lh ?_;intro w3 hb3 ho3
     have B1:=B0.push (Qaa _ _) (QGx _) ho3 hb3)
  | (refine QkZ rfl _ rfl (B1.nth 0 rfl) hhl rfl ?_)
  | (refine Qah rfl 37 _ rfl (P1.map W8) (by simp only[QGC,QGR,QGH];exact hp1) ?_)
  | (refine Qbd rfl rfl _ _ rfl ((Blk.new w3 _ Tryz.zeroCells37.toList).cast HZ.out) rfl rfl hp1l l0 ?_;intro w4 hb4 ho4
     have B2:=B1.push (Qaa _ _) (QGx _) ho4 hb4)
  | fail)
 have B3:=B2.drew
 have hlb:b0<w4.drew.heap.size:=QGN hb00 B3.lat.size
 refine Qaf [] [0,1,2,3] [4] (by as_aux_lemma=>kernel_rfl) (by as_aux_lemma=>kernel_rfl) (by intro _ _ d _ _ h;cases d<;>exact h) ?_
 simp only[Qaj,pick,QGo,QGp,QGs,QGu,QGv]
 repeat (go_big_quiet_step (fail))
 refine wpQuiet_nil ?_
 go_wp2_with (first
  | (refine Qax rfl _ _ _ _ rfl 5 Tryz.underlying22 Qb2 w3.heap.size 288 480 480 _ _ (B3.nth 0 rfl) (some ⟨b0,p+288,none⟩) 480 (c-288) ((b.drop 288).map W8) (h288.out _ (hb.later B3.lat)) (QaX _) rfl rfl (by rw[QGr];omega) ?_;intro w5 hb5 ho5;rw[←QH0,QcK,hput.out]at hb5
     have B4:=B3.write 0 rfl ho5 hb5)
  | (refine QhV rfl _ rfl (B4.nth 0 rfl) hbl rfl ?_)
  | (refine Qbd rfl rfl _ _ rfl (B4.nth 2 rfl) rfl rfl hbl l0 ?_;intro w6 hb6 ho6)
  | fail)
 exact bodyPost_ret (Qac rfl _ _ _ _ _ _ hb6 rfl Tryz.underlying37 rfl (by rw[QGr,hbl];exact Qcb)) rfl ⟨rfl,(B4.write 2 rfl ho6 hb6).lat⟩
set_option maxRecDepth 100000 in
set_option maxHeartbeats 2000000 in
theorem Qrd (b:List UInt8) (hl:b.length=768) (w:World):
 Calls Tryz.prog 13 #[.agg (b.map W8).toArray] w fun e w'=>∃A' c',e= .returned (.slice A' 768 c')∧OwnB w' w.heap.size A' 768 c' b∧Later w w':=by
 have hb:Blk (w.alloc (.cells (b.map W8).toArray 37)) w.heap.size 37 (b.map W8):=Blk.new _ _ _
 have s0:(subB b 0 288).length=288:=Qaq (by omega)
 have s1:(subB b 288 480).length=480:=Qaq (by omega)
 have hfl:[subB b 0 288,subB b 288 480].flatten=b:=by
  rw[subB,subB,QHH,QHH,QIH,QGW,QIk,QGD (l:=b.drop 288) (by rw[QGQ];omega),QGX]
 have hJ:=hid (fun B d (w:World) hp=>QcT B 2 d [subB b 0 288,subB b 288 480] w hp (by omega) (by rw[hfl];omega))
 rw[hfl,hl]at hJ
 have hB:=hid (fun (w:World)=>Qss (subB b 0 288) s0 w)
 have L:=Qaa w (.cells (b.map W8).toArray 37)
 have Rs:Hid (subB b 0 288=subB b 0 288):=hid rfl
 generalize hS:subB b 0 288=S0 at *
 replace hS:=hid hS
 go_enter Tryz.func13,Tryz.ntmps13
 go_wp2_with fail
 generalize hW:w.alloc _=w1 at *
 clear hW
 refine Qaf [([0,1,3,4],2),([],5),([],6)] [7] [] (by as_aux_lemma=>kernel_rfl) (by as_aux_lemma=>kernel_rfl) (by intro _ _ d _ _ h;cases d<;>exact h) ?_
 simp only[Qaj,pick,QGo,QGp,QGs,QGu,QGv]
 repeat (first|go_big_quiet_skip|(go_big_quiet_want;(refine QhP 0 288 _ rfl hb.drew rfl Tryz.underlying34 rfl Qc5 hS.out s0 ?_);simp only[Act.put,QGw,QGB,QGz];go_big_quiet_on)|(go_big_quiet_step (fail)))
 refine wpQuiet_nil ?_
 go_wp2_with fail
 (with_reducible refine (hB.out _).mono ?_);rintro e w2 ⟨A2,c2,rfl,o2,l2⟩
 go_wp2_with fail
 try refine⟨by first|assumption|exact Qab _|exact Qaa _ _|exact Later.refl _,?_⟩
 try simp only[Qaj,pick,QGo,QGp,QGs,QGu,QGv]
 repeat (go_big_quiet_step (fail))
 refine wpQuiet_nil ?_
 have l3:=Qaa w2 (.cells #[.slice A2 288 c2,.slice (some ⟨w.heap.size,288,none⟩) 480 480] 22)
 have hb3:=((hb.later (Qab _)).later l2).later l3
 have P3:=QfG (bad:=fun _=>False) (ps:=[S0,subB b 288 480]) ((Blk.new w2 22 [.slice A2 288 c2,.slice (some ⟨w.heap.size,288,none⟩) 480 480]).rd rfl) (Qb6 _ _) ⟨Qba (o2.later l3).rd o2.cap,Qba (Qcc hb3 rfl s1) (QGx _),trivial⟩
 go_wp2_with fail
 try refine⟨by first|assumption|exact Qab _|exact Qaa _ _|exact Later.refl _,?_⟩
 try simp only[Qaj,pick,QGo,QGp,QGs,QGu,QGv]
 repeat (go_big_quiet_step (fail))
 refine wpQuiet_nil ?_
 go_wp2_with fail
 (refine (hJ.out _ _ _ P3).mono ?_);rintro e w4 ⟨A4,c4,rfl,o4,l4⟩
 go_wp2_with fail
 try refine⟨by first|assumption|exact Qab _|exact Qaa _ _|exact Later.refl _,?_⟩
 try simp only[Qaj,pick,QGo,QGp,QGs,QGu,QGv]
 repeat (go_big_quiet_step (fail))
 refine wpQuiet_nil ?_
 go_wp2_with fail
 go_ret
 exact⟨_,_,rfl,o4.mono (((L.trans (Qab _)).trans l2).trans l3).size,(((L.trans (Qab _)).trans l2).trans l3).trans l4⟩
theorem Ql7:(Tryz.prog.info? 66).map (·.size)=some 20:=by kernel_rfl
theorem QFT:(Tryz.prog.info? 66).bind (·.zero)=some (.agg (CC cmd0).toArray):=by kernel_rfl
theorem Qsv (c:Cmd):Tryz.prog.built 66 [(0,.agg (CC c).toArray)]=some (CC c).toArray:=by
 rw[QaQ (pl:=[(0,20)]) Tryz.underlying66 QFT (by kernel_rfl),QaR (vs:=CC c) (off:=0) rfl (by rw[Qao];rfl) (by rw[Qao,Qao];omega),Qb0,Qav _ _ (by rw[Qao,Qao])]
def PC (c:Cmd) (P:List UInt8) (v:Value):List Value:=CC c++(P.map W8++[v])
def nil8:Value:=.slice none 0 0
def z768:List UInt8:=QGn 768 0
theorem QaT:z768.length=768:=QGA
theorem Qb1 (c:Cmd) {P:List UInt8} (h:P.length=768) (v:Value):(PC c P v).length=789:=by
 rw[PC,QGy,QGy,Qao,QGr,h]
 rfl
theorem QDz (c:Cmd) (P:List UInt8) {v:Value} (h:v.oneCell'=true):∀u∈PC c P v,u.oneCell'=true:=by
 intro u hu
 rw[PC]at hu
 rcases QHd.1 hu with hu|hu
 ·exact QqX c u hu
 ·rcases QHd.1 hu with hu|hu
  ·exact QaX P u hu
  ·rw[QHO.1 hu];exact h
theorem QgK:(Tryz.prog.info? 68).map (·.size)=some 789:=by kernel_rfl
theorem QzT:(Tryz.prog.info? 68).bind (·.zero)=some (.agg (PC cmd0 z768 nil8).toArray):=by
 rw[PC,z768,QG8]
 kernel_rfl
theorem zcPe:Tryz.zeroCells68.toList=PC cmd0 z768 nil8:=by
 rw[PC,z768,QG8]
 kernel_rfl
theorem QnA:Tryz.prog.built 68 []=some (PC cmd0 z768 nil8).toArray:=by
 rw[QaQ (pl:=[(0,20),(20,768),(788,1)]) Tryz.underlying68 QzT (by kernel_rfl),Qb0]
theorem QvQ {A B vs:List Value} (h:vs.length=A.length):Qar (A++B) 0 vs=vs++B:=by
 rw[Qar,QIS,QGv,QGT,h,List.drop_left]
theorem Quf (c:Cmd):Tryz.prog.built 68 [(0,.agg (CC c).toArray)]=some (PC c z768 nil8).toArray:=by
 rw[QaQ (pl:=[(0,20),(20,768),(788,1)]) Tryz.underlying68 QzT (by kernel_rfl),QaR (vs:=CC c) (off:=0) rfl (by rw[Qao];rfl) (by rw[Qao,Qb1 _ QaT];omega),Qb0,PC,PC,QvQ (by rw[Qao,Qao])]
theorem QnY (c:Cmd) (P:List UInt8) (v:Value):∀j u,(CC c)[j]?=some u→(PC c P v)[0+j]?=some u:=fun j u h=>by
 rw[QGT,PC,QGG (QGL.1 h).1]
 exact h
theorem QCO (c:Cmd) (P:List UInt8) (v:Value):∀j u,(P.map W8)[j]?=some u→(PC c P v)[20+j]?=some u:=fun j u h=>by
 rw[PC,QGE (by rw[Qao];omega),Qao,QIt,QGG (QGL.1 h).1]
 exact h
theorem Qz3 (c:Cmd) {P:List UInt8} (h:P.length=768) (v:Value):(PC c P v)[788]?=some v:=by
 rw[PC,QGE (by rw[Qao];omega),Qao,QGE (by rw[QGr,h];omega),QGr,h]
 rfl
theorem QA5 (c:Cmd) {P:List UInt8} (h:P.length=768) (v v':Value):(PC c P v).set 788 v'=PC c P v':=by
 rw[PC,QG1 _ _ (by rw[Qao];omega),Qao,QG1 _ _ (by rw[QGr,h];omega),QGr,h]
 rfl
theorem Qt8 (c:Cmd) {P vs:List UInt8} (v:Value) (k:Nat) (h:k+vs.length≤P.length):Qar (PC c P v) (20+k) (vs.map W8)=PC c (putB P k vs) v:=by
 have hc:=Qao c
 rw[PC,PC,←QcK,Qar,Qar,List.take_append,hc,QGD (by omega),QIt,QHf (by rw[QGr];omega),QIG,hc,QIh (by omega),QGv,QGr,show 20+k+vs.length-20=k+vs.length by omega,QHC (by rw[QGr];omega)]
 simp only[QGI]
section
variable {ops:Array Oper} {rest:List Oper} {o:Oper} {a:Act} {w:World} {Q:Exit→Act→World→Prop}
theorem QeB (hgd:o.guard=none) (hd:o.dst=none) (x y:Operand) (ho:o.op= .store 68 x y) {g:Nat} {t:TypeId} {l:List Value} {c:Cmd} {P:List UInt8} {v:Value} (hg:Blk w g t l) (hx:a.eval x= .pointer (some ⟨g,0,none⟩)) (hy:a.eval y= .agg (PC c P v).toArray) (hP:P.length=768) (hv:v.oneCell'=true) (hl:l.length=789)
 (h:∀w',Blk w' g t (PC c P v)→Only g w w'→wpList Tryz.prog ops Q rest a w'):wpList Tryz.prog ops Q (o :: rest) a w:=
 Qai hgd hd _ x y ho g t l _ hg hx hy 789 QgK (Qb1 c hP v) hl (QDz c P hv) h
theorem Qs5 (hw:Region.wanted o (yielded ops a.tmps)=true) (x:Operand) (ho:o.op= .load 68 x) {g:Nat} {t:TypeId} {c:Cmd} {P:List UInt8} {v:Value} (hb:Blk w g t (PC c P v)) (hP:P.length=768) (hx:a.eval x= .pointer (some ⟨g,0,none⟩))
 (h:wpList Tryz.prog ops Q rest (a.put o.dst (.agg (PC c P v).toArray)) w):wpList Tryz.prog ops Q (o :: rest) a w:=
 Qan hw _ x ho g 0 _ (fun j v hv=>by rw[QGT];exact hb.cellD j hv) hx _ Tryz.underlying68 rfl (by rw[Qb1 c hP];exact QgK) h
theorem QtU (hw:Region.wanted o (yielded ops a.tmps)=true) (x:Operand) (ho:o.op= .load 66 x) {g:Nat} {t:TypeId} {c:Cmd} {P:List UInt8} {v:Value} (hb:Blk w g t (PC c P v)) (hx:a.eval x= .pointer (some ⟨g,0,none⟩))
 (h:wpList Tryz.prog ops Q rest (a.put o.dst (.agg (CC c).toArray)) w):wpList Tryz.prog ops Q (o :: rest) a w:=
 Qan hw _ x ho g 0 _ (fun j v hv=>hb.cellD _ (QnY _ _ _ j v hv)) hx _ Tryz.underlying66 rfl (by rw[Qao];exact Ql7) h
end
set_option maxRecDepth 100000 in
theorem Qp5 (c:Cmd) (w:World):Calls Tryz.prog 31 #[.agg (CC c).toArray] w fun e w'=>e= .returned (.bool (!(c.kd==1)))∧Later w w':=by
 have hb:Blk (w.alloc (.cells (CC c).toArray 66)) w.heap.size 66 (CC c):=Blk.new _ _ _
 have c0:=(Qe3 hb).1
 have n1:(c.kd != 1)= !(c.kd==1):=rfl
 go_enter Tryz.func31,Tryz.ntmps31
 go_wp2
 go_ret
 exact⟨rfl,Qaa _ _⟩
set_option maxRecDepth 100000 in
theorem QxK (c:Cmd) (w:World):Calls Tryz.prog 30 #[.agg (CC c).toArray] w fun e w'=>e= .returned (.int .i64 (c.dl.toNat:Nat))∧Later w w':=by
 have hb:Blk (w.alloc (.cells (CC c).toArray 66)) w.heap.size 66 (CC c):=Blk.new _ _ _
 have c0:=(Qe3 hb).2.2.1
 have hw:IntKind.i64.wrap (c.dl.toNat:Int)=(c.dl.toNat:Int):=by
  have:=c.dl.toNat_lt
  simp only[IntKind.wrap,IntKind.bits,IntKind.signed]
  simp
  omega
 go_enter Tryz.func30,Tryz.ntmps30
 go_wp2
 go_ret
 exact⟨rfl,Qaa _ _⟩
theorem Qjp (s p:List UInt8) (hp:p.length=768) (hs:s.length=192):(relP s p).length=768:=by
 have h1:(p.take 288).length=288:=by rw[QGP];omega
 have hf:fitW (kPay s) (p.drop 288):=⟨Qaq (by omega),by rw[QGQ];omega,by rw[QGQ];omega⟩
 unfold relP
 split
 ·rw[QGy,QhZ _ _ h1,QdS,QeZ okO hf,Qc0 _ _ _ hf.2.1,QGQ,hp]
 ·exact QGA
theorem Qj5 (s p:List UInt8) (hp:p.length=768) (hs:s.length=192):(QdS s p).length=480:=by
 have hf:fitW (kPay s) (p.drop 288):=⟨Qaq (by omega),by rw[QGQ];omega,by rw[QGQ];omega⟩
 rw[QdS,QeZ okO hf,Qc0 _ _ _ hf.2.1,QGQ,hp]
theorem QxB (p:List UInt8) (k n:Nat) (h:p.length=k+n):subB p k n=p.drop k:=by rw[subB,QGD (by rw[QGQ];omega)]
theorem QBW (hd bd:List UInt8) (h1:hd.length=288) (h2:bd.length=480):putB (putB z768 0 hd) 288 (bd.take 480)=hd++bd:=by
 rw[QGD (by omega),z768,show QGn 768 (0:UInt8)=QGn 288 0++QGn 480 0 by rw[QHI],Qe1 _ _ _ (by rw[QGA,h1]),QeT _ _ _ 288 h1 (by rw[QGA,h2])]
theorem Qxw {w:World} {base g n c:Nat} {bs:List UInt8} {rest:List Value} (h:Blk w g 5 (bs.map W8++rest)) (hb:base≤g) (hn:bs.length=n) (hc:c=(bs.map W8++rest).length) (hm:(bs.map W8++rest).length≤maxLen):OwnB w base (some ⟨g,0,none⟩) n c bs:=by
 subst hc
 have:=Qzo h hb hm
 rw[QGr,hn]at this
 exact this
theorem Qz5 {w:World} {base n c:Nat} {A:Option Addr} {bs:List UInt8} {l:List Value} (h:OwnB w base A n c bs) (hc:c=l.length):l.length≤maxLen:=by
 subst hc
 rcases h.2 with ⟨hv,_⟩|⟨g,cap,cur,hv,_,_,_,hm,_⟩
 ·injection hv with _ _ h3
  omega
 ·injection hv with _ _ h3
  omega
set_option maxRecDepth 100000 in
set_option maxHeartbeats 8000000 in
theorem QtO (s p:List UInt8) (hp:p.length=768) (hs:s.length=192) (w:World):
 Calls Tryz.prog 66 #[.agg (s.map W8).toArray,.agg (p.map W8).toArray] w fun e w'=>∃A' c',e= .returned (.tuple #[.agg (PC (relC s p) (relP s p) (.slice A' (relB s p).length c')).toArray,.int .i64 (relE s p:Nat)])∧OwnB w' w.heap.size A' (relB s p).length c' (relB s p)∧Later w w':=by
 have HZ:=hid zcPe
 have HH:=hid zcH
 have C1:=Qbk w 53 (s.map W8)
 have C2:=C1.add (Qaa _ (.cells (p.map W8).toArray 37)) (k:=w.heap.size+1) (by simp) (by omega) (Blk.new' _ _ _ (by simp))
 have C3:=C2.add (Qaa _ (.cells Tryz.zeroCells68 68)) (k:=w.heap.size+2) (by simp) (by omega) ((Blk.new' _ _ Tryz.zeroCells68.toList (by simp)).cast HZ.out)
 clear C1 C2
 have hdl:(p.take 288).length=288:=by rw[QGP];omega
 have k2:(kPay s).length=32:=Qaq (by omega)
 have bl:(p.drop 288).length=480:=by rw[QGQ];omega
 have hO:=hid (Qtp (p.take 288) s hdl hs)
 have hf:fitW (kPay s) (p.drop 288):=⟨k2,by omega,by omega⟩
 have hWi:=hid (fun A B c d (w:World) h1 hc h2 hd=>Qt2 A B 32 c 480 d (kPay s) (p.drop 288) w h1 hc h2 hd (by omega) (by omega))
 rw[QfW okO hf]at hWi
 have hBl:=Qj5 s p hp hs
 have hst:=hid (QxB p 288 480 hp)
 have hE:Hid (relE s p=Qim (p.take 288) s):=hid rfl
 have hC:Hid (relC s p=QlV (p.take 288) s):=hid rfl
 have hP:Hid (relP s p=if relE s p=0∧(relC s p).kd=1 then Qkg (p.take 288) s++QdS s p else z768):=hid rfl
 have hB:Hid (relB s p=if relE s p=0∧(relC s p).kd≠1 then QdS s p else []):=hid rfl
 have hON:=QhZ (p.take 288) s hdl
 have hput:=hid (QBW (Qkg (p.take 288) s) (QdS s p) hON hBl)
 rw[show Qdk (kPay s) (p.drop 288) rsO=QdS s p from rfl,hBl]at hWi
 have hcz:Hid (Qim (p.take 288) s≠0→QlV (p.take 288) s=cmd0):=hid (fun h=>by rw[QlV,if_neg h])
 rw[←hE.out]at hcz hO
 have hsh:Hid (subB p 0 288=p.take 288):=hid rfl
 generalize relP s p=RP at *
 generalize relB s p=RB at *
 generalize QdS s p=BD at *
 generalize Qkg (p.take 288) s=ON at *
 generalize relE s p=RE at *
 generalize hRC:relC s p=RC at *
 have HC:=hC.out
 rw[←HC]at hO hcz
 clear HC hC hE hRC
 generalize p.take 288=PH at *
 generalize p.drop 288=PD at *
 have hb0:=QnA
 have hb1:=Qsv RC
 have hb2:=Quf RC
 have hzl:(PC cmd0 z768 nil8).length=789:=Qb1 _ QaT _
 have lh:((QGn 288 (0:UInt8)).map W8).length=288:=by rw[QGr,QGA]
 generalize QGn 288 (0:UInt8)=ZH at *
 go_enter Tryz.func66,Tryz.ntmps66
 go_wp2_with (first
  | (refine QqD 0 288 rfl _ rfl (C3.nth 1 rfl) rfl Tryz.underlying34 rfl Qc5 hsh.out hdl ?_)
  | (refine QfU rfl _ rfl (C3.nth 2 rfl) hs rfl ?_)
  | fail)
 (with_reducible refine (hO.out _).mono ?_);rintro e w5 ⟨rfl,l5⟩
 replace C3:=C3.later l5
 clear l5 hO
 have Ca:=C3.fresh (Qaa _ (.cells cz0.toArray 64)) (QGx _) (Blk.new w5 64 cz0)
 have Cb:=Ca.add (Qaa _ (.cells Tryz.zeroCells34 34)) (k:=w5.heap.size+1) (fun q hq e=>by
  have:=(Ca.blk q hq).lt
  simp at this
  omega) (by have:=C3.lat.size;omega) ((Blk.new' _ 34 Tryz.zeroCells34.toList (by simp)).cast HH.out)
 clear Ca C3
 by_cases hr:RE=0
 ·subst hr
  replace hP:Hid (RP=if RC.kd=1 then ON++BD else z768):=hid (by rw[hP.out];simp)
  replace hB:Hid (RB=if RC.kd≠1 then BD else []):=hid (by rw[hB.out];simp)
  clear hcz
  go_wp2_with (first
   | (refine Qct rfl rfl _ _ rfl (Cb.nth 1 rfl) rfl rfl rfl ?_;intro w6 hb6 ho6
      have Cc:=Cb.write 1 rfl ho6 hb6)
   | (refine Qee rfl rfl _ _ rfl (Cc.nth 0 rfl) rfl rfl hON lh ?_;intro w7 hb7 ho7
      have Cd:=Cc.write 0 rfl ho7 hb7)
   | fail)
  have Ce:=Cd.drew
  clear Cb Cc Cd hb6 ho6 hb7 ho7
  refine Qaf [([0,1,2,3,4],5)] [6,7,8,9,10] [] (by as_aux_lemma=>kernel_rfl) (by as_aux_lemma=>kernel_rfl) (by intro _ _ d _ _ h;cases d<;>exact h) ?_
  simp only[Qaj,pick,QGo,QGp,QGs,QGu,QGv]
  repeat (go_big_quiet_step (fail))
  refine wpQuiet_nil ?_
  go_wp2_with fail
  (refine (hWi.out _ _ _ _ _ (Qcc (Ce.nth 4 rfl) rfl k2) (by omega) (Qcc (Ce.nth 3 rfl) hst.out bl) (QGx _)).mono ?_);rintro e w8 ⟨l8,A8,c8,rfl,o8⟩
  go_wp2_with fail
  try refine⟨by first|assumption|exact Qab _|exact Qaa _ _|exact Later.refl _,?_⟩
  try simp only[Qaj,pick,QGo,QGp,QGs,QGu,QGv]
  repeat (go_big_quiet_step (fail))
  refine wpQuiet_nil ?_
  obtain⟨g8,r8,rfl,hg8,hb8,hc8,hcc8⟩:=QlZ o8 (by omega)
  have hm8:(BD.map W8++r8).length≤maxLen:=Qz5 o8 hc8
  have Cf:=Ce.fresh l8 hg8 hb8
  replace hc8:=hid hc8
  clear o8 Ce hWi hb8 hg8
  go_wp2_with (first
   | (refine Qc3 rfl _ rfl (Cf.nth 2 rfl) rfl ?_)
   | (refine Qah rfl 66 _ rfl (CC RC) (by simp only[QGC,QGR,QGH];exact hb1) ?_)
   | (refine Qah rfl 68 _ rfl (PC RC z768 nil8) (by simp only[QGC,QGR,QGH];exact hb2) ?_)
   | (refine QeB rfl rfl _ _ rfl ((Blk.new w8 _ Tryz.zeroCells68.toList).cast HZ.out) rfl rfl QaT rfl hzl ?_;intro w9 hb9 ho9
      have Cg:=Cf.push (Qaa _ _) (QGx _) ho9 hb9)
   | (refine QtU rfl _ rfl (Cg.nth 0 rfl) rfl ?_)
   | fail)
  (with_reducible refine (Qp5 RC _).mono ?_);rintro e w10 ⟨rfl,l10⟩
  have Ch:=Cg.later l10
  clear hb9 ho9 Cg Cf
  cases hk:(RC.kd==1)
  ·have hkn:RC.kd≠1:=by simpa using hk
   have HP:RP=z768:=by rw[hP.out,if_neg hkn]
   have HB:RB=BD:=by rw[hB.out,if_pos hkn]
   replace HP:=hid HP
   replace HB:=hid HB
   go_wp2_with (first
    | (refine Qad rfl rfl _ _ _ rfl w8.heap.size 788 _ _ (Ch.nth 0 rfl) rfl (by rw[Qb1 _ QaT];omega) rfl (by kernel_rfl) ?_;intro v11 w11 hv11 hb11 ho11;simp[go_sem]at hv11;subst hv11;rw[QA5 _ QaT]at hb11
       have Ci:=Ch.write 0 rfl ho11 hb11)
    | (refine Qs5 rfl _ rfl (Ci.nth 0 rfl) QaT rfl ?_)
    | (refine QeB rfl rfl _ _ rfl (Ci.nth 4 rfl) rfl rfl QaT rfl hzl ?_;intro w12 hb12 ho12
       have Cj:=Ci.write 4 rfl ho12 hb12)
    | fail)
   refine bodyPost_ret (Qac rfl _ _ _ _ _ _ hb12 rfl Tryz.underlying68 rfl (by rw[Qb1 _ QaT];exact QgK)) rfl ⟨some ⟨g8,0,none⟩,c8,by rw[HP.out,HB.out,hBl];rfl,?_,Cj.lat⟩
   rw[HB.out,hBl]
   exact Qxw (Cj.nth 1 rfl) (Cj.at_low 1 rfl) hBl hc8.out hm8
  ·have hky:RC.kd=1:=by simpa using hk
   have HP:RP=ON++BD:=by rw[hP.out,if_pos hky]
   have HB:RB=[]:=by rw[hB.out,if_neg (by simp[hky])]
   have hPl:(ON++BD).length=768:=by rw[QGy];omega
   have l1:(putB z768 0 ON).length=768:=by rw[QbE (by rw[QaT];omega)];exact QaT
   replace HP:=hid HP
   replace HB:=hid HB
   have r8:=hid (fun w (h:Blk w g8 5 (BD.map W8++r8))=>(show Rd w (some ⟨g8,0,none⟩) 480 (BD.map W8) from Qf7 h hBl))
   generalize ON++BD=PK at *
   have hs1:=hid (Qt8 RC (P:=z768) (vs:=ON) nil8 0 (by rw[QaT];omega))
   have hs2:=hid (Qt8 RC (P:=putB z768 0 ON) (vs:=BD.take 480) nil8 288 (by rw[l1,QGP];omega))
   rw[hput.out]at hs2
   generalize putB z768 0 ON=P1 at *
   go_wp2_with (first
    | (refine QkZ rfl _ rfl (Ch.nth 2 rfl) hON rfl ?_)
    | (refine Qal rfl rfl 34 _ _ rfl w8.heap.size 20 _ _ (ON.map W8) (Ch.nth 0 rfl) rfl rfl (by rw[QGr,hON];exact Qc5) (by rw[Qb1 _ QaT,QGr];omega) (QaX _) ?_;intro w11 hb11 ho11;rw[hs1.out]at hb11
       have Ci:=Ch.write 0 rfl ho11 hb11)
    | (refine Qax rfl _ _ _ _ rfl 5 Tryz.underlying22 Qb2 w8.heap.size 308 480 480 _ _ (Ci.nth 0 rfl) (some ⟨g8,0,none⟩) 480 c8 (BD.map W8) (r8.out _ (Ci.nth 1 rfl)) (QaX _) rfl rfl (by rw[Qb1 _ l1];omega) ?_;intro w13 hb13 ho13;rw[←QH0,hs2.out]at hb13
       have Ck:=Ci.write 0 rfl ho13 hb13)
    | (refine Qs5 rfl _ rfl (Ck.nth 0 rfl) hPl rfl ?_)
    | (refine QeB rfl rfl _ _ rfl (Ck.nth 4 rfl) rfl rfl hPl rfl hzl ?_;intro w12 hb12 ho12
       have Cj:=Ck.write 4 rfl ho12 hb12)
    | fail)
   refine bodyPost_ret (Qac rfl _ _ _ _ _ _ hb12 rfl Tryz.underlying68 rfl (by rw[Qb1 _ hPl];exact QgK)) rfl ⟨none,0,by rw[HP.out,HB.out];rfl,?_,Cj.lat⟩
   rw[HB.out]
   exact Qbi _ _ _
 ·have hne:((RE:Int) != 0)=true:=by simp;omega
  have HC:=hcz.out hr
  subst HC
  have HP:RP=z768:=by rw[hP.out,if_neg (fun h=>hr h.1)]
  have HB:RB=[]:=by rw[hB.out,if_neg (fun h=>hr h.1)]
  replace HP:=hid HP
  replace HB:=hid HB
  clear hP hB
  go_wp2_with (first
   | (refine Qct rfl rfl _ _ rfl (Cb.nth 1 rfl) rfl rfl rfl ?_;intro w6 hb6 ho6
      have Cc:=Cb.write 1 rfl ho6 hb6)
   | (refine Qee rfl rfl _ _ rfl (Cc.nth 0 rfl) rfl rfl hON lh ?_;intro w7 hb7 ho7
      have Cd:=Cc.write 0 rfl ho7 hb7)
   | (refine Qah rfl 68 _ rfl (PC cmd0 z768 nil8) (by simp only[QGC,QGH];exact hb0) ?_)
   | (refine QeB rfl rfl _ _ rfl (Cd.nth 2 rfl) rfl rfl QaT rfl hzl ?_;intro w12 hb12 ho12
      have Cj:=Cd.write 2 rfl ho12 hb12)
   | fail)
  refine bodyPost_ret (Qac rfl _ _ _ _ _ _ hb12 rfl Tryz.underlying68 rfl (by rw[Qb1 _ QaT];exact QgK)) rfl ⟨none,0,by rw[HP.out,HB.out];rfl,?_,Cj.lat⟩
  rw[HB.out]
  exact Qbi _ _ _
set_option maxRecDepth 100000 in
set_option maxHeartbeats 4000000 in
theorem QrQ (A:Option Addr) (n c:Nat) (k p:List UInt8) (w:World) (hk:RdB w A n k) (hn:n≤140737488355328) (hp:p.length=768):
 Calls Tryz.prog 22 #[.slice A n c,.agg (p.map W8).toArray] w fun e w'=>∃A' c',e= .returned (.tuple #[.agg (PC (unwC k p) (unwP k p) (.slice A' (unwB k p).length c')).toArray,.int .i64 (unwE k p:Nat)])∧OwnB w' w.heap.size A' (unwB k p).length c' (unwB k p)∧Later w w':=by
 have HZ:=hid zcPe
 have C1:=Qbk w 37 (p.map W8)
 have C2:=C1.add (Qaa _ (.cells Tryz.zeroCells68 68)) (k:=w.heap.size+1) (by simp) (by omega) ((Blk.new' _ _ Tryz.zeroCells68.toList (by simp)).cast HZ.out)
 clear C1
 have hal:(p.take 32).length=32:=by rw[QGP];omega
 have hPe:=hid (fun (w:World) B d hk' hu=>QyD A B n c 32 d k (p.take 32) w hk' hu hn (by omega))
 have hsl:=QfT k (p.take 32)
 have hO:=hid (QtO (Qdx k (p.take 32)) p hp hsl)
 have hE:Hid (unwE k p=if Qbt k (p.take 32)=0 then relE (Qdx k (p.take 32)) p else Qbt k (p.take 32)):=hid rfl
 have hC:Hid (unwC k p=if Qbt k (p.take 32)=0 then relC (Qdx k (p.take 32)) p else cmd0):=hid rfl
 have hP:Hid (unwP k p=if Qbt k (p.take 32)=0 then relP (Qdx k (p.take 32)) p else z768):=hid rfl
 have hB:Hid (unwB k p=if Qbt k (p.take 32)=0 then relB (Qdx k (p.take 32)) p else []):=hid rfl
 have hRPl:=Qjp (Qdx k (p.take 32)) p hp hsl
 have hsh:Hid (subB p 0 32=p.take 32):=hid rfl
 generalize unwE k p=UE at *
 generalize unwC k p=UC at *
 generalize unwP k p=UP at *
 generalize unwB k p=UB at *
 generalize Qbt k (p.take 32)=ME at *
 generalize relP (Qdx k (p.take 32)) p=RP at *
 generalize relC (Qdx k (p.take 32)) p=RC at *
 generalize relB (Qdx k (p.take 32)) p=RB at *
 generalize relE (Qdx k (p.take 32)) p=RE at *
 generalize Qdx k (p.take 32)=S at *
 generalize p.take 32=al at *
 have hb0:=QnA
 have hzl:(PC cmd0 z768 nil8).length=789:=Qb1 _ QaT _
 have hz1:=QBh
 go_enter Tryz.func22,Tryz.ntmps22
 go_wp2_with fail
 (refine (hPe.out _ _ _ (hk.later C2.lat) (Qcc (C2.nth 1 rfl) hsh.out hal)).mono ?_);rintro e w3 ⟨rfl,l3⟩
 replace C2:=C2.later l3
 clear hPe l3
 by_cases h0:ME=0
 ·subst h0
  replace hE:=hid (hE.out.trans (if_pos rfl))
  replace hC:=hid (hC.out.trans (if_pos rfl))
  replace hP:=hid (hP.out.trans (if_pos rfl))
  replace hB:=hid (hB.out.trans (if_pos rfl))
  go_wp2_with (first
   | (refine Qfn rfl rfl _ _ rfl (Blk.new w3 _ Tryz.zeroCells53.toList) rfl rfl hsl hz1 ?_;intro w4 hb4 ho4
      have C3:=C2.push (Qaa _ _) (QGx _) ho4 hb4)
   | (refine QfU rfl _ rfl (C3.nth 0 rfl) hsl rfl ?_)
   | (refine QhV rfl _ rfl (C3.nth 2 rfl) hp rfl ?_)
   | fail)
  (with_reducible refine (hO.out _).mono ?_);rintro e w5 ⟨A5,c5,rfl,o5,l5⟩
  have hone:(Value.slice A5 RB.length c5).oneCell'=true:=rfl
  have C4:=C3.later l5
  have hlow:∀b,(Value.slice A5 RB.length c5).ownBlock=some b→b≠w.heap.size+1:=fun b hb e=>by
   have h1:=(World.ownsRow.lt o5 b hb).1
   have h2:=(C3.nth 1 rfl).lt
   omega
  go_wp2_with (first
   | (refine QeB rfl rfl _ _ rfl (C4.nth 1 rfl) rfl rfl hRPl hone hzl ?_;intro w6 hb6 ho6
      have C5:=C4.write 1 rfl ho6 hb6
      have o6:=Qiu o5 ho6 hlow)
   | fail)
  refine bodyPost_ret (Qac rfl _ _ _ _ _ _ hb6 rfl Tryz.underlying68 rfl (by rw[Qb1 _ hRPl];exact QgK)) rfl ⟨A5,c5,by rw[hE.out,hC.out,hP.out,hB.out];rfl,?_,C5.lat⟩
  rw[hB.out]
  exact Qcq o6 C3.lat.size
 ·have hne:((ME:Int) != 0)=true:=by simp;omega
  replace hE:=hid (hE.out.trans (if_neg h0))
  replace hC:=hid (hC.out.trans (if_neg h0))
  replace hP:=hid (hP.out.trans (if_neg h0))
  replace hB:=hid (hB.out.trans (if_neg h0))
  go_wp2_with (first
   | (refine Qfn rfl rfl _ _ rfl (Blk.new w3 _ Tryz.zeroCells53.toList) rfl rfl hsl hz1 ?_;intro w4 hb4 ho4
      have C3:=C2.push (Qaa _ _) (QGx _) ho4 hb4)
   | (refine Qah rfl 68 _ rfl (PC cmd0 z768 nil8) (by simp only[QGC,QGH];exact hb0) ?_)
   | (refine QeB rfl rfl _ _ rfl (C3.nth 1 rfl) rfl rfl QaT rfl hzl ?_;intro w6 hb6 ho6
      have C5:=C3.write 1 rfl ho6 hb6)
   | fail)
  refine bodyPost_ret (Qac rfl _ _ _ _ _ _ hb6 rfl Tryz.underlying68 rfl (by rw[Qb1 _ QaT];exact QgK)) rfl ⟨none,0,by rw[hE.out,hC.out,hP.out,hB.out];rfl,?_,C5.lat⟩
  rw[hB.out]
  exact Qbi _ _ _
section
variable {P:Program} {ops:Array Oper} {rest:List Oper} {o:Oper} {a:Act} {w:World} {Q:Exit→Act→World→Prop}
end
end Go.Proofs.YtdhgpkdjdmlphaaGreat
namespace Go.Proofs.YtdhgpkdjdmlphaaGreat
open Go.BigFrame
open Go.RowKit
section
variable {P:Program} {ops:Array Oper} {Q:Exit→Act→World→Prop} {T:World→Prop}
end
theorem Spared.later {w w1 w2:World} {bad:List Nat} (h:Spared w bad w1) (hl:Later w1 w2):Spared w bad w2:=
 ⟨QG9 h.1 hl.size,fun b hb hn=>(hl.below.block b (QGN hb h.1)).trans (h.2 b hb hn)⟩
theorem Spared.grown {w w1 w2:World} {bad:List Nat} {row:Option Nat} (h:Spared w bad w1) (hg:w1.grownBy w2 row) (hr:∀k,row=some k→w.heap.size≤k):Spared w bad w2:=
 ⟨QG9 h.1 hg.size,fun b hb hn=>(hg.block b (QGN hb h.1) (fun e=>by have:=hr b e.symm;omega)).trans (h.2 b hb hn)⟩
theorem Spared.fresh {w w1 w2:World} {bad:List Nat} {g:Nat} (h:Spared w bad w1) (ho:Only g w1 w2) (hg:w.heap.size≤g):Spared w bad w2:=
 h.grown ho (fun k e=>by cases e;exact hg)
end Go.Proofs.YtdhgpkdjdmlphaaGreat
namespace Go.Proofs.YtdhgpkdjdmlphaaGreat
open Go.RowKit
open Go.BigFrame
theorem QBU {w:World} {b p n:Nat} {bs:List UInt8} (h:RdB w (some ⟨b,p,none⟩) n bs) (k m:Nat) (hk:k+m≤n) (hk0:0<m):RdB w (some ⟨b,p+k,none⟩) m (subB bs k m):=by
 have h1:=(RdB.cut h (k:=k) (c:=n+1) (by omega) (by omega)).take (m:=m) (by omega)
 rw[show cutA (some ⟨b,p,none⟩) k (n+1)=some ⟨b,p+k,none⟩ by
  rw[cutA,if_neg (by omega)]
  show some ((⟨b,p,none⟩:Addr).add k)=_
  rw[Qdb]]at h1
 exact h1
section
variable {ops:Array Oper} {rest:List Oper} {o:Oper} {a:Act} {w:World} {Q:Exit→Act→World→Prop}
end
theorem QmL {P:Program} {d n k:Nat} {t:TypeId} {f:Field} {fs:List Field} {fs':Array Field} (hf:f.type=t) (hu:P.underlying t=some (.struct fs')) (hst:P.stoodInHeld t=false) (hs:(P.info? t).map (·.size)=some n) (hn:f.name≠ "_")
 {xs ys ps qs:List Value} (ho:f.offset=k) (hp:(xs.drop k).take n=ps) (hq:(ys.drop k).take n=qs) (b:Bool) (w:World) (hb:(Op.eqFields (d+1) ps.toArray qs.toArray fs'.toList).run P w= .ok b w):
 (Op.eqFields (d+2) xs.toArray ys.toArray (f :: fs)).run P w=if b then (Op.eqFields (d+2) xs.toArray ys.toArray fs).run P w else .ok false w:=by
 have e:P.fieldsOf t=fs':=by unfold Program.fieldsOf;rw[hu]
 rw[Op.eqFields,if_pos hn]
 simp only[Sem.run_bind,hf,ho,Qeo hu rfl hs xs _ hp,Qeo hu rfl hs ys _ hq,Result.andThen_ok]
 rw[run_equalIn_struct w (d+1) t ps.toArray qs.toArray (by rw[e];exact hu) hst,e,hb]
 simp only[Result.andThen_ok]
 cases b<;>simp
theorem QAy:(Tryz.prog.info? 35).map (·.size)=some 480:=by kernel_rfl
set_option maxRecDepth 100000 in
theorem QBR (d:Nat) (x y:List UInt8) (hx:x.length=288) (hy:y.length=288) (w:World) {fs:Array Field} (hu:Tryz.prog.underlying 34=some (.struct fs)):
 (Op.eqFields (d+2) (x.map W8).toArray (y.map W8).toArray fs.toList).run Tryz.prog w= .ok (x==y) w:=by
 rw[Tryz.underlying34]at hu
 cases hu
 have l1:∀off n,off+n≤288→(subB x off n).length=n:=fun off n h=>Qaq (by omega)
 have l2:∀off n,off+n≤288→(subB y off n).length=n:=fun off n h=>Qaq (by omega)
 rw[Qcp (k:=0) rfl (by decide) rfl (QbO x 0 32) (QbO y 0 32) (l1 _ _ (by omega)) (l2 _ _ (by omega)),
  QdL (k:=32) rfl Tryz.underlying31 QoN Qb2 Tryz.underlying5 (by decide) rfl (QbO x 32 16) (QbO y 32 16) (l1 _ _ (by omega)) (l2 _ _ (by omega)),
  QdL (k:=48) rfl Tryz.underlying32 QBp Qb2 Tryz.underlying5 (by decide) rfl (QbO x 48 240) (QbO y 48 240) (l1 _ _ (by omega)) (l2 _ _ (by omega)),QdD]
 have h:(x==y)=(subB x 0 32==subB y 0 32&&(subB x 32 16==subB y 32 16&&subB x 48 240==subB y 48 240)):=by
  rw[Qpi x y 48 240 (by omega) (by omega),QkD x y 32 16,QkD x y 0 32]
  rfl
 rw[h]
 cases subB x 0 32==subB y 0 32<;>cases subB x 32 16==subB y 32 16<;>cases subB x 48 240==subB y 48 240<;>rfl
abbrev Y768:={l:List UInt8 // l.length=768}
theorem QBe:Tryz.prog.eqGuardType Tryz.prog.depth 37=false:=by kernel_rfl
@[go_sem high] theorem QA4 (op:BinOp) (x y:Operand) (xs ys:Array Value) (w:World):(eqGuard op 37 x y (.agg xs) (.agg ys)).run Tryz.prog w= .ok () w:=run_eqGuard_agg w op _ x y xs ys QBe
set_option maxRecDepth 100000 in
theorem Qi6 (x y:List UInt8) (hx:x.length=768) (hy:y.length=768) (w:World) {fs:Array Field} (hu:Tryz.prog.underlying 37=some (.struct fs)):
 (Op.eqFields 9999 (x.map W8).toArray (y.map W8).toArray fs.toList).run Tryz.prog w= .ok (x==y) w:=by
 rw[Tryz.underlying37]at hu
 cases hu
 have l1:(subB x 0 288).length=288:=Qaq (by omega)
 have l2:(subB y 0 288).length=288:=Qaq (by omega)
 have l3:(subB x 288 480).length=480:=Qaq (by omega)
 have l4:(subB y 288 480).length=480:=Qaq (by omega)
 rw[QmL (d:=9997) (k:=0) rfl Tryz.underlying34 (by kernel_rfl) Qc5 (by decide) rfl (QbO x 0 288) (QbO y 0 288) _ w (QBR 9996 _ _ l1 l2 w Tryz.underlying34),
  QdL (d:=9997) (k:=288) rfl Tryz.underlying35 QAy Qb2 Tryz.underlying5 (by decide) rfl (QbO x 288 480) (QbO y 288 480) l3 l4,QdD]
 have h:(x==y)=(subB x 0 288==subB y 0 288&&subB x 288 480==subB y 288 480):=by
  rw[Qpi x y 288 480 (by omega) (by omega),QkD x y 0 288]
  rfl
 rw[h]
 cases subB x 0 288==subB y 0 288<;>cases subB x 288 480==subB y 288 480<;>rfl
@[go_sem high] theorem QAw (x y:Y768) (w:World):(binOp .eql 37 (.agg (x.val.map W8).toArray) (.agg (y.val.map W8).toArray)).run Tryz.prog w= .ok (.bool (x.val==y.val)) w:=by
  rw[Qg6 Tryz.underlying37 (by kernel_rfl),Qi6 _ _ x.2 y.2 w Tryz.underlying37]
  rfl
@[go_sem high] theorem QAT (x y:Y768) (w:World):(binOp .neq 37 (.agg (x.val.map W8).toArray) (.agg (y.val.map W8).toArray)).run Tryz.prog w= .ok (.bool (!(x.val==y.val))) w:=by
  rw[Qjw Tryz.underlying37 (by kernel_rfl),Qi6 _ _ x.2 y.2 w Tryz.underlying37]
  rfl
section
variable {ops:Array Oper} {rest:List Oper} {o:Oper} {a:Act} {w:World} {Q:Exit→Act→World→Prop}
end
end Go.Proofs.YtdhgpkdjdmlphaaGreat
namespace Go.Proofs.YtdhgpkdjdmlphaaGreat
open Go.ChangeShapes Go.WideShapes Go.ChangeAt Go.RowKit
open _root_.Go.Proofs.YtdhgpkdjdmlphaaGreat.Rows (uptoBulk uptoBulkAll uptoSmall)
section
variable {H:Type} {enc:TypeId×Value→H} {P:Program} {w:World} {base b0:Nat} {sp:Nat→Bool} {held:Bool} {r:Reach}
end
theorem Qp4 {α β:Type} (f:α→Option β):∀(l:List α) (ys:List β),l.mapM f=some ys→ys.length=l.length∧∀(i:Nat) x,l[i]?=some x→f x=ys[i]?
 | [],ys,h=>by
   simp only[List.mapM_nil,pure,Option.some.injEq]at h
   subst h
   exact⟨rfl,fun i x hx=>by simp at hx⟩
 | a :: l,ys,h=>by
   rw[List.mapM_cons]at h
   simp only[bind,Option.bind_eq_some_iff,pure,Option.some.injEq]at h
   obtain⟨y,hy,ys',h',rfl⟩:=h
   obtain⟨h1,h2⟩:=Qp4 f l ys' h'
   refine⟨by simp[h1],fun i x hx=>?_⟩
   cases i with
   | zero=>
     obtain rfl:a=x:=by simpa using hx
     simpa using hy
   | succ i=>simpa using h2 i x (by simpa using hx)
theorem Qk3 {w:World} {base k:Nat} {a:Addr} {cs:List Value} (h:w.cells? base a k=some cs):cs.length=k∧∀i,i<k→w.cell? (a.add i)=cs[i]?:=by
 unfold World.cells? at h
 split at h
 ·obtain⟨h1,h2⟩:=Qp4 _ _ _ h
  exact⟨by simpa using h1,fun i hi=>h2 i i (by rw[QHD hi])⟩
 ·cases h
theorem Qd0 {l:List Value} {i:Nat} {v:Value} (h:(l.drop i).take 1=[v]):l[i]?=some v:=by
 have:=congrArg (·[0]?) h
 simpa [QHJ,QHA] using this
section
variable {H:Type} {enc:TypeId×Value→H} {w:World} {base:Nat} {sp:Nat→Bool} {held:Bool}
theorem QqL {fuel:Nat} {cs:List Value} {x:DataW H×List MemPlace} (h:DataW.trod enc Tryz.prog w base sp held fuel 30 cs=some x):∃K:Y32,cs=K.val.map W8:=by
 obtain⟨xs,m,rfl,rfl,hl,hxl,he⟩:=DataW.trod_array Tryz.underlying30 h
 have hn:Tryz.prog.cellsOf 30=32:=by kernel_rfl
 have h1:Tryz.prog.cellsOf 5=1:=by kernel_rfl
 rw[hn]at hl
 rw[h1]at he
 have each:∀i,∃b:UInt8,i<32→cs[i]?=some (W8 b):=by
  intro i
  by_cases hi:i<32
  ·have:=he i hi
   rw[QGt (by omega),QIm]at this
   obtain⟨z,hz,_,hw⟩:=DataW.trod_int Tryz.underlying5 this
   have hr:0≤z∧z≤255:=by simpa [Lit.wf,IntKind.min,IntKind.max,IntKind.signed,IntKind.bits] using hw
   exact⟨_,fun _=>by rw[Qd0 hz,QbW z hr.1 (by omega)]⟩
  ·exact⟨0,fun h=>absurd h hi⟩
 obtain⟨f,hf⟩:=Classical.axiomOfChoice each
 refine⟨⟨(QG0 32).map f,by simp⟩,?_⟩
 apply List.ext_getElem?
 intro i
 rcases QHb i 32 with hi|hi
 ·rw[hf i hi,QGF,QGF,QHD hi]
  rfl
 ·rw[QHF (by omega),QHF (by simp;omega)]
set_option maxRecDepth 100000 in
theorem Qx1 {fuel:Nat} {cs:List Value} {x:DataW H×List MemPlace} (h:DataW.trod enc Tryz.prog w base sp held fuel 74 cs=some x):∃y:Nod,cs=NC y∧y.nm.size≤uptoBulk x.1:=by
 obtain⟨xs,m,rfl,rfl,hl,hxl,he⟩:=DataW.trod_struct Tryz.underlying74 h
 have hn:Tryz.prog.cellsOf 74=66:=by kernel_rfl
 have hS:Tryz.prog.cellsOf 9=1:=by kernel_rfl
 have hU:Tryz.prog.cellsOf 23=1:=by kernel_rfl
 have hB:Tryz.prog.cellsOf 30=32:=by kernel_rfl
 rw[hn]at hl
 have hxl4:xs.length=4:=hxl
 have e0:DataW.trod enc Tryz.prog w base sp held m 9 ((cs.drop 0).take (Tryz.prog.cellsOf 9))=xs[0]?:=he 0 _ rfl
 have e1:DataW.trod enc Tryz.prog w base sp held m 23 ((cs.drop 1).take (Tryz.prog.cellsOf 23))=xs[1]?:=he 1 _ rfl
 have e2:DataW.trod enc Tryz.prog w base sp held m 30 ((cs.drop 2).take (Tryz.prog.cellsOf 30))=xs[2]?:=he 2 _ rfl
 have e3:DataW.trod enc Tryz.prog w base sp held m 30 ((cs.drop 34).take (Tryz.prog.cellsOf 30))=xs[3]?:=he 3 _ rfl
 rw[hS,QGt (by omega)]at e0
 rw[hU,QGt (by omega)]at e1
 rw[hB,QGt (by omega)]at e2 e3
 obtain⟨s,hs,hx0,_⟩:=DataW.trod_string Tryz.underlying9 e0
 obtain⟨z,hz,_,hw⟩:=DataW.trod_int Tryz.underlying23 e1
 obtain⟨K,hK⟩:=QqL e2
 obtain⟨P,hP⟩:=QqL e3
 have hr:0≤z∧z≤18446744073709551615:=by simpa [Lit.wf,IntKind.min,IntKind.max,IntKind.signed,IntKind.bits] using hw
 have c0:=Qd0 hs
 have c1:=Qd0 hz
 rw[Qbm z hr.1 (by omega)]at c1
 refine⟨⟨s,QGS z.toNat,K,P⟩,?_,?_⟩
 ·match cs,hl,c0,c1,hK,hP with
  | a :: b :: r,hl,c0,c1,hK,hP=>
    have hrl:r.length=64:=by simpa using hl
    rw[QIn,QIn,QIk]at hK
    rw[show (34:Nat)=32+1+1 from rfl,QIn,QIn,QGD (by simp;omega)]at hP
    obtain rfl:a= .string s:=by simpa using c0
    obtain rfl:b=W64 (QGS z.toNat):=by simpa using c1
    rw[NC,←hK,←hP,QGX]
 ·have hb:xs[0].1= .lit (.string s.data.toList):=by rw[hx0]
  have:=Qqz (d:=xs[0].1) (l:=xs.map (·.1)) (QG2.2 ⟨_,QHi _,rfl⟩)
  rw[hb]at this
  simp only[uptoBulk]at this ⊢
  have hsz:s.data.toList.length=s.size:=by simp
  show s.size≤_
  omega
end
section
variable {H:Type} {enc:TypeId×Value→H} {w:World} {base:Nat} {sp:Nat→Bool} {held:Bool}
set_option maxRecDepth 100000 in
theorem Qw7 {fuel:Nat} {cs:List Value} {x:DataW H×List MemPlace} (h:DataW.trod enc Tryz.prog w base sp held fuel 125 cs=some x):∃y:Stp,cs=SC y:=by
 obtain⟨xs,m,rfl,rfl,hl,hxl,he⟩:=DataW.trod_struct Tryz.underlying125 h
 have hn:Tryz.prog.cellsOf 125=3:=by kernel_rfl
 have hS:Tryz.prog.cellsOf 9=1:=by kernel_rfl
 have hI:Tryz.prog.cellsOf 3=1:=by kernel_rfl
 rw[hn]at hl
 have hxl3:xs.length=3:=hxl
 have e0:DataW.trod enc Tryz.prog w base sp held m 9 ((cs.drop 0).take (Tryz.prog.cellsOf 9))=xs[0]?:=he 0 _ rfl
 have e1:DataW.trod enc Tryz.prog w base sp held m 3 ((cs.drop 1).take (Tryz.prog.cellsOf 3))=xs[1]?:=he 1 _ rfl
 have e2:DataW.trod enc Tryz.prog w base sp held m 3 ((cs.drop 2).take (Tryz.prog.cellsOf 3))=xs[2]?:=he 2 _ rfl
 rw[hS,QGt (by omega)]at e0
 rw[hI,QGt (by omega)]at e1 e2
 obtain⟨s,hs,_,_⟩:=DataW.trod_string Tryz.underlying9 e0
 obtain⟨y,hy,_,_⟩:=DataW.trod_int Tryz.underlying3 e1
 obtain⟨z,hz,_,_⟩:=DataW.trod_int Tryz.underlying3 e2
 have c0:=Qd0 hs
 have c1:=Qd0 hy
 have c2:=Qd0 hz
 refine⟨⟨s,y,z⟩,?_⟩
 match cs,hl,c0,c1,c2 with
 | [a,b,c],_,c0,c1,c2=>
   obtain rfl:a= .string s:=by simpa using c0
   obtain rfl:b= .int .i64 y:=by simpa using c1
   obtain rfl:c= .int .i64 z:=by simpa using c2
   rfl
theorem Qwm {fuel:Nat} {v:Value} {x:DataW H×List MemPlace} (h:DataW.trod enc Tryz.prog w base sp held fuel 121 [v]=some x):
 ∃A n c xs,v= .slice A n c∧n≤c∧RdS w A n xs∧n+1≤uptoBulk x.1:=by
 rcases DataW.trod_slice Tryz.underlying121 h with ⟨hcs,rfl⟩|⟨a,len,cap,elems,rest,n,rfl,hcs,rfl,hb,hl,hm,hlen,hel,hsp,hns⟩
 ·obtain rfl:v= .slice none 0 0:=by simpa using hcs
  exact⟨none,0,0,[],rfl,QGx _,Qfo w,by simp[uptoBulk]⟩
 ·obtain rfl:v= .slice (some a) len cap:=by simpa using hcs
  have hc:Tryz.prog.cellsOf 125=3:=by kernel_rfl
  have each:∀i,∃y:Stp,i<len→w.cells? base (a.add (i*3)) 3=some (SC y):=by
   intro i
   by_cases hi:i<len
   ·have hE:=hel i hi
    rw[hc]at hE
    have hy:elems[i]?=some (elems[i]'(by omega)):=QGt _
    rw[hy,Option.bind_eq_some_iff]at hE
    obtain⟨c1,hc1,hy1⟩:=hE
    obtain⟨y,rfl⟩:=Qw7 hy1
    exact⟨y,fun _=>hc1⟩
   ·exact⟨stp0,fun h=>absurd h hi⟩
  obtain⟨f,hf⟩:=Classical.axiomOfChoice each
  have hfl:∀j,j<len→((QG0 len).map f).getD j stp0=f j:=by
   intro j hj
   rw[QGq,QGF,QHD hj]
   rfl
  have e2:=QlK (elems.map (·.1))
  rw[QGr,hlen]at e2
  refine⟨some a,len,cap,(QG0 len).map f,rfl,hl,⟨by simp,fun h0=>?_⟩,?_⟩
  ·have e0:a.add (0*3)=a:=by simp[Addr.add]
   have h00:=(Qk3 (hf 0 h0)).2 0 (by omega)
   rw[e0]at h00
   have e1:a.add 0=a:=by simp[Addr.add]
   rw[e1,SC,QGp]at h00
   obtain⟨h1,h2⟩:=QiK h00
   obtain⟨b,o,s⟩:=a
   simp only at h1
   subst h1
   refine⟨b,o,rfl,h2,fun j i v hj hv=>?_⟩
   rw[hfl j hj]at hv
   have hi:i<3:=by
    have:=(QGL.1 hv).1
    rwa [QmT]at this
   have:=(Qk3 (hf j hj)).2 i hi
   rw[Qdb,Qdb]at this
   rw[this]
   exact hv
  ·simp only[uptoBulk]
   omega
end
end Go.Proofs.YtdhgpkdjdmlphaaGreat
namespace Go.Proofs.YtdhgpkdjdmlphaaGreat
open Go.RowKit
open Go.ChangeShapes Go.WideShapes Go.ChangeAt
open _root_.Go.Proofs.YtdhgpkdjdmlphaaGreat.Rows (uptoBulk uptoBulkAll uptoSmall)
structure Wy where
 ts:List Stp
 A:Option Addr
 n:Nat
 c:Nat
def wy0:Wy:=⟨[],none,0,0⟩
def WyC (y:Wy):List Value:=[.slice y.A y.n y.c]
theorem QsG (y:Wy):(WyC y).length=1:=rfl
def WyOk (w:World) (y:Wy):Prop:=y.n≤9223372036854775807∧RdS w y.A y.n y.ts
theorem WyOk.later {w w':World} {y:Wy} (h:WyOk w y) (l:Later w w'):WyOk w' y:=⟨h.1,h.2.later l⟩
section
variable {H:Type} {enc:TypeId×Value→H} {w:World} {base b0:Nat} {sp:Nat→Bool} {held:Bool} {r:Reach}
theorem QyQ {fuel:Nat} {cs:List Value} {x:DataW H×List MemPlace} (h:DataW.trod enc Tryz.prog w base sp held fuel 121 cs=some x):∃y:Wy,cs=WyC y∧WyOk w y:=by
 obtain⟨v,rfl,hv⟩:∃v,cs=[v]∧∀A n c,v= .slice A n c→n≤9223372036854775807:=by
  rcases DataW.trod_slice Tryz.underlying121 h with ⟨hcs,_⟩|⟨a,len,cap,elems,rest,n,_,hcs,_,_,hl,hm,_⟩
  ·exact⟨_,hcs,fun A n c e=>by cases e;omega⟩
  ·refine⟨_,hcs,fun A n c e=>?_⟩
   cases e
   have:maxLen=9223372036854775807:=rfl
   omega
 obtain⟨A,n,c,ts,rfl,h1,h2,_⟩:=Qwm h
 exact⟨⟨ts,A,n,c⟩,rfl,hv A n c rfl,h2⟩
set_option maxRecDepth 100000 in
theorem Qt4 {v:Value} {d:DataW H} {ps:List MemPlace} (ht:Tryz.prog.underlying 112=some (.slice 121)) (hval:Value.okWide Tryz.prog w r b0 112 v) (h:DataW.Trod enc Tryz.prog w base sp held 112 v d ps):
 ∃A n c xs,v= .slice A n c∧n≤c∧RdF WyC 1 wy0 w A n xs∧n+1≤uptoBulk d∧∀y∈xs,WyOk w y:=by
 obtain⟨A,n,c,rfl⟩:=okWide_slice ht hval
 obtain⟨f,hf⟩:=h
 obtain⟨A',n',c',ns,h1,h2,h3,h4,h5⟩:=Qnb (F:=WyC) (sz:=1) wy0 (G:=fun y _=>WyOk w y) ht (by kernel_rfl) (by omega) QsG (fun y m n hm hy=>hy) (fun _ _ _ h=>by obtain⟨y,a,b⟩:=QyQ h;exact⟨y,a,b⟩) hf
 exact⟨A',n',c',ns,h1,h2,h3,h4,h5⟩
set_option maxRecDepth 100000 in
theorem Qu3 {fuel:Nat} {cs:List Value} {x:DataW H×List MemPlace} (h:DataW.trod enc Tryz.prog w base sp held fuel 74 cs=some x):∃y:Nod,cs=NC y∧y.nm.size≤9223372036854775807:=by
 obtain⟨y,rfl,_⟩:=Qx1 h
 obtain⟨xs,m,rfl,_,hl,hxl,he⟩:=DataW.trod_struct Tryz.underlying74 h
 have hS:Tryz.prog.cellsOf 9=1:=by kernel_rfl
 have hxl4:xs.length=4:=hxl
 have e0:DataW.trod enc Tryz.prog w base sp held m 9 (((NC y).drop 0).take (Tryz.prog.cellsOf 9))=xs[0]?:=he 0 _ rfl
 rw[hS,QGt (by omega)]at e0
 obtain⟨s,hs,_,hb⟩:=DataW.trod_string Tryz.underlying9 e0
 obtain rfl:y.nm=s:=by simpa [NC] using hs
 exact⟨y,rfl,hb⟩
set_option maxRecDepth 100000 in
theorem QrH {v:Value} {d:DataW H} {ps:List MemPlace} (ht:Tryz.prog.underlying 111=some (.slice 74)) (hval:Value.okWide Tryz.prog w r b0 111 v) (h:DataW.Trod enc Tryz.prog w base sp held 111 v d ps):
 ∃A n c xs,v= .slice A n c∧n≤c∧RdN w A n xs∧n+1≤uptoBulk d∧∀y∈xs,y.nm.size≤9223372036854775807:=by
 obtain⟨A,n,c,rfl⟩:=okWide_slice ht hval
 obtain⟨f,hf⟩:=h
 obtain⟨A',n',c',ns,h1,h2,h3,h4,h5⟩:=Qnb (F:=NC) (sz:=66) nod0 (G:=fun y _=>y.nm.size≤9223372036854775807) ht (by kernel_rfl) (by omega) Qas (fun y m n hm hy=>hy) (fun _ _ _ h=>by obtain⟨y,a,b⟩:=Qu3 h;exact⟨y,a,b⟩) hf
 exact⟨A',n',c',ns,h1,h2,h3,h4,h5⟩
end
end Go.Proofs.YtdhgpkdjdmlphaaGreat
