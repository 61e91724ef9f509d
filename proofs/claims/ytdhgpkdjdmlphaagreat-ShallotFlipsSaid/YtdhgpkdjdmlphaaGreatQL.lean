/-
  Lemmas for the last text of this claim (part 12 of 20).
-/
import Derived.ArgAppend
import Derived.BigQuiet
import Derived.BigRegion
import Derived.ChangeOld
import Derived.Deep.RegionWith
import Derived.DeepKeys4
import Derived.JoinedCond
import Derived.LaidMore
import Derived.Laws.BytesArg
import Derived.Laws.CopyOwn
import Derived.Laws.Externs
import Derived.Laws.IdiomStrings
import Derived.Laws.Tables
import Derived.Lib.AppendStr
import Derived.Lib.AppendZerosOnto
import Derived.Lib.Mul64
import Derived.Lib.SlBytesConst
import Derived.LoopN
import Derived.Maps.OwnSet
import Derived.OpenShut
import Derived.OrdersHeld
import Derived.ProofKit
import Derived.Shelf.Spec.BitsCarry
import Derived.ShutString
import Derived.Test.YtdhgpkdjdmlphaaGreatProg
import Derived.Test.YtdhgpkdjdmlphaaGreatRows
import Derived.WalkKit
import Derived.WalkLawsBesides
import Derived.WalkSpells
import Derived.Test.YtdhgpkdjdmlphaaGreatQC
import Derived.Test.YtdhgpkdjdmlphaaGreatQI
open Bool renaming eq_iff_iff → QDr
open Int renaming natCast_mul → QEn, toNat_natCast → QEv
open List renaming replicate → QCA, getElem?_cons_succ → QCB, getElem?_cons_zero → QCC, length_map → QCE, cons_append → QCF, nil_append → QCG, getElem?_eq_getElem → QCH, getD_eq_getElem?_getD → QCI, setIfInBounds_toArray → QCJ, length_append → QCK, length_replicate → QCM, set_cons_zero → QCN, set_cons_succ → QCO, take_of_length_le → QCP, getElem?_append_right → QCQ, append_assoc → QCR, getElem?_map → QCS, getElem?_eq_some_iff → QCT, getElem?_append_left → QCU, length_take → QC1, map_nil → QC2, map_cons → QC7, take_succ_eq_append_getElem → QC8, take_append_drop → QC9, set_append_right → QDb, append_nil → QDf, map_replicate → QDg, map_append → QDh, eq_nil_of_length_eq_zero → QDj, take_append_of_le_length → QDk, drop_of_length_le → QDL, flatten_cons → QDN, take_left' → QDY, map_take → QD1, getElem_mem → QD2, drop_eq_getElem_cons → QEp, ext_getElem → QEM, flatten_nil → QEN, take_zero → QET
open Nat renaming le_refl → QCL, mod_lt → QC4, zero_add → QC6, le_trans → QDl, mul_comm → QDE, le_mul_of_pos_right → QDI, sub_self → QDR, add_sub_cancel_left → QEw
open Option renaming toList_some → QCD, map_some → QEm
open UInt8 renaming ofInt → QDe
set_option linter.all false
namespace Go.Proofs.YtdhgpkdjdmlphaaGreat
open Go.RowKit
def Qlp (key:List UInt8):List UInt8:=if 64<key.length then Qcg key else key
def QaK (key:List UInt8):List UInt8:=Qlp key++QCA (64-(Qlp key).length) 0
theorem QlL (key:List UInt8):(Qlp key).length≤64:=by
 unfold Qlp
 split
 ·rw[Qbk];omega
 ·omega
theorem QbG (key:List UInt8):(QaK key).length=64:=by
 have:=QlL key
 simp[QaK]
 omega
def QbX (k:List UInt8) (m:UInt8):List UInt8:=k.map (· ^^^ m)
theorem QbZ (k:List UInt8) (m:UInt8):(QbX k m).length=k.length:=by simp[QbX]
def QhC (key bs:List UInt8):List UInt8:=Qcg (QbX (QaK key) 54++bs)
def Qbb (key bs:List UInt8):List UInt8:=Qcg (QbX (QaK key) 92++QhC key bs)
theorem QaF (key bs:List UInt8):(Qbb key bs).length=32:=Qbk _
theorem QqY (A B:Option Addr) (n m c d:Nat) (xs ys:List UInt8) (w:World) (hx:RdB w A n xs) (hy:RdB w B m ys) (hn:n≤140737488355328) (hm:m≤140737488355328):
 Calls Tryz.prog 129 #[.slice A n c,.slice B m d] w fun e w'=>∃k,e= .returned (.tuple #[.bool (decide (xs=ys)),.int .i64 k])∧Later w w':=by
 have lx:=hx.len
 have ly:=hy.len
 by_cases hnm:n=m
 ·subst hnm
  have hr:∀x:UInt8,(x=0↔xs=ys)→decide (xs=ys)=(x==0):=by
   intro x hb
   rw[QDr,decide_eq_true_iff,beq_iff_eq]
   exact hb.symm
  have HR:=hid hr
  clear hr
  generalize decide (xs=ys)=R at *
  go_enter Tryz.func129,Tryz.ntmps129
  go_wp2
  go_loopw [6,7,16] (fun v6 v7 i wr=>∃(k:Nat) (x:UInt8),k≤n∧i= .int .i64 k∧v7= .int .i64 k∧v6=W8 x∧Later w wr∧Hid (x=0↔∀j,j<k→xs.getD j 0=ys.getD j 0)) (fun _ _ i _=>n-(intOf i).toNat)
  case atStart=>exact⟨0,0,by omega,rfl,rfl,rfl,Later.refl w,hid ⟨fun _ j hj=>absurd hj (by omega),fun _=>rfl⟩⟩
  case round=>
   obtain⟨k,x,hk,rfl,rfl,rfl,hl,he⟩:=hrel
   by_cases hlt:k<n
   ·obtain⟨b1,o1,rfl,hb1,hc1⟩:=hx.at_ (by omega)
    obtain⟨b2,o2,rfl,hb2,hc2⟩:=hy.at_ (by omega)
    have c1:wr.cell? ⟨b1,o1+k,none⟩=some (W8 (xs.getD k 0)):=(hl.below.cell (p:=⟨b1,o1+k,none⟩) hb1).trans (hc1 k hlt)
    have c2:wr.cell? ⟨b2,o2+k,none⟩=some (W8 (ys.getD k 0)):=(hl.below.cell (p:=⟨b2,o2+k,none⟩) hb2).trans (hc2 k hlt)
    clear hc1 hc2 hx hy
    generalize hX:xs.getD k 0=X at *
    generalize hY:ys.getD k 0=Y at *
    have HX:=hid hX
    have HY:=hid hY
    clear hX hY
    go_wp2
    refine Qaf [] [0,1,2,3,4,5,6,7,8,9,10,11] [] (by as_aux_lemma=>kernel_rfl) (by as_aux_lemma=>kernel_rfl) (by intro _ _ d _ _ h;cases d<;>exact h) ?_
    simp only[Qah,pick,QCB,QCC,QCD,QCF,QCG]
    repeat (go_big_quiet_step (fail))
    refine wpQuiet_nil ?_
    go_wp2
    refine⟨⟨k+1,x ||| (X ^^^ Y),by omega,by go_num,by go_num,rfl,hl.drew,hid ?_⟩,by simp only[intOf];omega⟩
    have e:∀a b c:UInt8,(a ||| (b ^^^ c))=0↔a=0∧b=c:=by
     intro a b c
     rw[UInt8.or_eq_zero_iff,UInt8.xor_eq_zero_iff]
    rw[e,he.out]
    constructor
    ·rintro⟨h1,h2⟩ j hj
     by_cases hjk:j=k
     ·subst hjk
      rw[HX.out,HY.out,h2]
     ·exact h1 j (by omega)
    ·intro h
     exact⟨fun j hj=>h j (by omega),by rw[←HX.out,←HY.out];exact h k (by omega)⟩
   ·go_wp2
    go_ret2
    have hR:R=(x==0):=by
     refine HR.out x (he.out.trans ⟨fun h=>?_,fun h=>?_⟩)
     ·apply QEM (by omega)
      intro j h1 h2
      have:=h j (by omega)
      rw[QCI,QCI,QCH h1,QCH h2]at this
      exact this
     ·intro j _
      rw[h]
    refine⟨k,?_,hl⟩
    rw[hR]
    rfl
 ·have hne:((n:Int) != (m:Int))=true:=by simp;omega
  have hf:decide (xs=ys)=false:=decide_eq_false (fun h=>hnm (by rw[←lx,←ly,h]))
  have HF:=hid hf
  clear hf
  generalize decide (xs=ys)=R at *
  go_enter Tryz.func129,Tryz.ntmps129
  go_wp2
  go_ret2
  exact⟨0,by rw[HF.out];rfl,Later.refl w⟩
theorem Qvs (A B:Option Addr) (n m c d:Nat) (xs ys:List UInt8) (w:World) (hx:RdB w A n xs) (hy:RdB w B m ys) (hn:n≤140737488355328) (hm:m≤140737488355328):
 Calls Tryz.prog 97 #[.slice A n c,.slice B m d] w fun e w'=>e= .returned (.bool (decide (xs=ys)))∧Later w w':=by
 have h:=hid (QqY A B n m c d xs ys w hx hy hn hm)
 generalize decide (xs=ys)=R at *
 go_enter Tryz.func97,Tryz.ntmps97
 go_wp2_with (first|(go_at_call 129;refine h.out.mono ?_;rintro e w1 ⟨k,rfl,hl⟩))
 go_ret
 exact⟨rfl,hl⟩
theorem QfA (l:List UInt8) (h:l.length≤64):Qaq (QCA 64 (W8 0)) 0 ((l.map W8).take 64)=(l++QCA (64-l.length) 0).map W8:=by
 rw[QCP (by simpa using h),Qaq]
 simp only[QET,QCG,QCE,QC6,List.drop_replicate,QDh,QDg]
set_option maxRecDepth 100000 in
set_option maxHeartbeats 1000000 in
theorem QqX (A:Option Addr) (n c:Nat) (key:List UInt8) (w:World) (hx:RdB w A n key) (hc:n≤c) (hn:n≤140737488355328):
 Calls Tryz.prog 181 #[.slice A n c] w fun e w'=>e= .returned (.agg ((QaK key).map W8).toArray)∧Later w w':=by
 have hl:=hx.len
 have hkl:=QbG key
 by_cases h64:64<n
 ·have hk:QaK key=Qcg key++QCA (64-(Qcg key).length) 0:=by rw[QaK,Qlp,if_pos (by omega)]
  have hG:=Qbk key
  have hs:=fun A n c w hx=>QoD A n c [key] w hx
  rw[QbK]at hs
  generalize Qcg key=G at *
  generalize QaK key=K at *
  have HS:=hid hs
  have HK:=hid hk
  clear hs hk
  go_enter Tryz.func181,Tryz.ntmps181
  go_wp2_with (first
   | (go_at_call 185;refine (HS.out (some ⟨w.heap.size+2,0,none⟩) 1 1 _ ?hx (by omega) (by omega)).mono ?_
      (case hx=>exact QdW ((Blk.new' _ 22 [.slice A n c] (by simp)).rd rfl) ⟨QdE (hx.later (((Qaa _ _).alloc _).alloc _)) hc,trivial⟩)
      rintro e w1 ⟨rfl,hl1⟩)
   | (refine Qai rfl rfl 30 _ _ rfl w1.heap.size 0 30 (QCA 32 (W8 0)) (G.map W8) ?b ?hx ?hy ?hi ?hf ?h1 ?_;(case hx=>rfl);(case hy=>rfl);(case hi=>rw[QCE,hG];kernel_rfl);(case hf=>simp[hG]);(case h1=>exact QaC _);(case b=>exact Blk.new _ _ _);intro w2 hb2 ho2
      rw[Qal _ _ (by simp[hG])]at hb2))
  have z1:w.heap.size+3≤w1.heap.size:=by have:=hl1.size;simp at this;omega
  have hB2:Blk w2 w.heap.size 288 (QCA 64 (W8 0)):=(((Blk.new w _ _).later (((Qaa _ _).alloc _).trans hl1)).later (Qaa _ _)).only ho2 (by omega)
  have hB3:Blk w2 (w.heap.size+1) 288 (QCA 64 (W8 0)):=(((Blk.new' _ _ (QCA 64 (W8 0)) (by simp)).later ((Qaa _ _).trans hl1)).later (Qaa _ _)).only ho2 (by omega)
  have hL2:Later w w2:=(((((Qaa w _).alloc _).alloc _).trans hl1).alloc _).only ho2 (by omega)
  refine Qaf [] [0,1] [2] (by as_aux_lemma=>kernel_rfl) (by as_aux_lemma=>kernel_rfl) (by intro _ _ d _ _ h;cases d<;>exact h) ?_
  simp only[Qah,pick,QCB,QCC,QCD,QCF,QCG]
  repeat (go_big_quiet_step (fail))
  refine wpQuiet_nil ?_
  go_wp2_with (first
   | (refine Qar rfl _ _ _ _ rfl 5 Tryz.underlying22 Qbu (w.heap.size+1) 0 64 64 288 (QCA 64 (W8 0)) (hB3.later (Qab _)) (some ⟨w1.heap.size,0,none⟩) 32 32 (G.map W8) ((hb2.later (Qab _)).rd (by simp[hG])) (QaC _) rfl rfl (by simp) ?_;intro w4 hb4 ho4
      rw[QfA G (by omega),←HK.out]at hb4
      have hB4:=(hB2.later (Qab _)).only ho4 (by omega)
      have hL4:=(hL2.drew).only ho4 (by omega))
   | (refine Qay rfl 288 _ rfl (w.heap.size+1) 0 (K.map W8) ?hc ?hx _ Tryz.underlying288 rfl ?hi ?_;(case hx=>rfl);(case hi=>rw[QCE,hkl];kernel_rfl);(case hc=>intro j v hv;rw[QC6];exact hb4.cellD j hv))
   | (refine Qai rfl rfl 288 _ _ rfl w.heap.size 0 288 (QCA 64 (W8 0)) (K.map W8) ?b ?hx ?hy ?hi ?hf ?h1 ?_;(case hx=>rfl);(case hy=>rfl);(case hi=>rw[QCE,hkl];kernel_rfl);(case hf=>simp[hkl]);(case h1=>exact QaC _);(case b=>exact hB4);intro w9 hb9 ho9))
  rw[Qal _ _ (by simp[hkl])]at hb9
  exact bodyPost_ret (QaE rfl _ _ _ _ (K.map W8) _ hb9 rfl Tryz.underlying288 rfl (by rw[QCE,hkl];kernel_rfl)) rfl ⟨rfl,hL4.only ho9 (QCL _)⟩
 ·have hk:QaK key=key++QCA (64-key.length) 0:=by rw[QaK,Qlp,if_neg (by omega)]
  generalize QaK key=K at *
  have HK:=hid hk
  clear hk
  go_enter Tryz.func181,Tryz.ntmps181
  go_wp2_with (first
   | (refine Qar rfl _ _ _ _ rfl 5 Tryz.underlying22 Qbu (w.heap.size+1) 0 64 64 288 (QCA 64 (W8 0)) (Blk.new' _ _ _ (by simp)) A n c (key.map W8) (RdB.later hx ((Qaa _ _).alloc _)) (QaC _) rfl rfl (by simp) ?_;intro w4 hb4 ho4
      rw[QfA key (by omega),←HK.out]at hb4
      have hB4:Blk w4 w.heap.size 288 (QCA 64 (W8 0)):=((Blk.new w _ _).later (Qaa _ _)).only ho4 (by omega)
      have hL4:Later w w4:=((Qaa w _).alloc _).only ho4 (by omega))
   | (refine Qay rfl 288 _ rfl (w.heap.size+1) 0 (K.map W8) ?hc ?hx _ Tryz.underlying288 rfl ?hi ?_;(case hx=>rfl);(case hi=>rw[QCE,hkl];kernel_rfl);(case hc=>intro j v hv;rw[QC6];exact hb4.cellD j hv))
   | (refine Qai rfl rfl 288 _ _ rfl w.heap.size 0 288 (QCA 64 (W8 0)) (K.map W8) ?b ?hx ?hy ?hi ?hf ?h1 ?_;(case hx=>rfl);(case hy=>rfl);(case hi=>rw[QCE,hkl];kernel_rfl);(case hf=>simp[hkl]);(case h1=>exact QaC _);(case b=>exact hB4);intro w9 hb9 ho9))
  rw[Qal _ _ (by simp[hkl])]at hb9
  exact bodyPost_ret (QaE rfl _ _ _ _ (K.map W8) _ hb9 rfl Tryz.underlying288 rfl (by rw[QCE,hkl];kernel_rfl)) rfl ⟨rfl,hL4.only ho9 (QCL _)⟩
set_option maxRecDepth 100000 in
set_option maxHeartbeats 1000000 in
theorem Qj5 (k:List UInt8) (m:UInt8) (w:World) (hk:k.length=64):
 Calls Tryz.prog 182 #[.agg (k.map W8).toArray,W8 m] w fun e w'=>∃A c,e= .returned (.slice A 64 c)∧OwnB w' w.heap.size A 64 c (QbX k m)∧Later w w':=by
 have hml:=QbZ k m
 rw[hk]at hml
 have hg:∀j (hj:j<64),(k.map W8)[j]?=some (W8 (k.getD j 0))∧(QbX k m)[j]?=some (k.getD j 0 ^^^ m):=by
  intro j hj
  rw[QCI,QCS,QbX,QCS,QCH (by omega)]
  exact⟨rfl,rfl⟩
 generalize QbX k m=M at *
 have hkm:(k.map W8).length=64:=by simpa using hk
 have h1:=QaC k
 have HG:=hid hg
 clear hg
 generalize hkv:k.map W8=kv at *
 clear hkv
 go_enter Tryz.func182,Tryz.ntmps182
 go_wp2_with (first
  | (refine Qax rfl _ _ _ rfl 5 _ 1 Tryz.underlying22 Qb4 rfl _ _ _ _ 64 rfl rfl ?hL ?hC (by omega) (by omega) ?_;(case hL=>rfl);(case hC=>rfl);intro w1 hb1 hl1)
  | (refine Qay rfl 288 _ rfl w.heap.size 0 kv ?hc ?hx _ Tryz.underlying288 rfl ?hi ?_;(case hx=>rfl);(case hi=>rw[hkm];kernel_rfl);(case hc=>intro j v hv;rw[QC6];exact ((Blk.new w _ _).later hl1).cellD j hv)))
 have hfz:Qfk M 64 0=QCA 64 0:=rfl
 have hb1':Blk w1 (w.heap.size+1) 5 ((Qfk M 64 0).map W8):=by
  rw[hfz,QDg]
  have hb:=hb1
  simp only[World.size_alloc]at hb
  exact hb
 have hl1':Later w w1:=(Qaa _ _).trans hl1
 clear hb1 hl1 hfz
 go_loopw [10] (fun i wr=>∃j:Nat,j≤64∧i= .int .i64 j∧Later w wr∧Blk wr (w.heap.size+1) 5 ((Qfk M 64 j).map W8)) (fun i _=>64-(intOf i).toNat)
 case atStart=>exact⟨0,by omega,rfl,hl1',hb1'⟩
 case round=>
  clear hb1' hl1'
  obtain⟨j,hj,rfl,hl,hb⟩:=hrel
  by_cases hlt:j<64
  ·obtain⟨e1,e2⟩:=HG.out j hlt
   have hfl:=Qhv M 64 j hml hj
   have HST:=hid (QjW M 64 j _ hml hlt e2)
   clear e2
   generalize k.getD j 0=x at *
   have hix:∀W',(Instr.index 288 (.agg kv.toArray) (.int .i64 (j:Int))).run Tryz.prog W'= .ok (W8 x) W':=fun W'=>Qey Tryz.underlying288 Qbu Tryz.underlying5 rfl kv .i64 j (W8 x) hlt e1 W'
   go_wp2_with (first
    | (refine Qac rfl rfl _ _ _ rfl _ _ _ _ hb rfl ?hl rfl (by kernel_rfl) ?_;(case hl=>rw[QCE,hfl];omega);intro v' w5 hv' hb5 ho5;simp[go_sem]at hv';subst hv'))
   go_roundw
   case rel=>
    refine⟨j+1,by omega,by go_num,hl.only ho5 (by omega),?_⟩
    rw[←HST.out,←QbP]
    exact hb5
   case measure=>simp only[intOf];omega
  ·have hj':j=64:=by omega
   rw[hj',Qmx M 64 hml]at hb
   go_wp2
   go_ret
   refine⟨_,_,rfl,?_,hl⟩
   have:=QcX hb (show w.heap.size≤w.heap.size+1 by omega) (by simp[hml])
   rwa [QCE,hml]at this
theorem QyM:Tryz.zeroCells292=(Qbl QfR (QCA 64 0) 0++QCA 64 (W8 0)).toArray:=by kernel_rfl
theorem QpH (l z v:List Value) (n:Nat) (hl:l.length=n) (hz:z.length=v.length):Qaq (l++z) n v=l++v:=by
 subst hl
 rw[Qaq,QDY,QDL (by simp[hz]),QDf]
 rfl
theorem Qvq (K:List UInt8) (hK:K.length=64):List.foldl (fun (cs:Array Value) (x:Value×Nat)=>cs.setIfInBounds (73+x.snd) x.fst) Tryz.zeroCells292 (K.map W8).zipIdx=(Qbl QfR (QCA 64 0) 0++K.map W8).toArray:=by
 have hl:=Qcq QfR (QCA 64 0) 0 (by simp)
 have hk:(K.map W8).length=64:=by simpa using hK
 rw[QyM]
 have h:=Qfl (K.map W8) 0 73 (Qbl QfR (QCA 64 0) 0++QCA 64 (W8 0)) (by rw[QCK,hl,hk];simp)
 rcases h with h|h
 ·rw[QpH _ _ _ 73 hl (by rw[hk];simp)]at h
  exact h
 ·omega
def TagAt (w:World) (g:Nat) (key bs:List UInt8):Prop:=HashAt w g 292 ((QaK key).map W8) (QbX (QaK key) 54++bs)
theorem HashAt.restD {w:World} {g:Nat} {t:TypeId} {rest:List Value} {bs:List UInt8} (h:HashAt w g t rest bs):∀(j:Nat) v,rest[j]?=some v→w.cell? ⟨g,73+j,none⟩=some v:=by
 obtain⟨st,op,h1,h2⟩:=h
 intro j v hv
 refine h2.cellD (73+j) ?_
 have hl:=Qcq st op bs.length h1.len
 rw[QCQ (by omega),hl,QEw]
 exact hv
set_option maxRecDepth 100000 in
set_option maxHeartbeats 1000000 in
theorem QkH (A:Option Addr) (n c:Nat) (key:List UInt8) (w:World) (hx:RdB w A n key) (hc:n≤c) (hn:n≤140737488355328):
 Calls Tryz.prog 163 #[.slice A n c] w fun e w'=>∃g,e= .returned (.pointer (some ⟨g,0,none⟩))∧w.heap.size≤g∧TagAt w' g key []∧Later w w':=by
 have hb:=QqX A n c key w hx hc hn
 have hkl:=QbG key
 unfold TagAt
 rw[QDf]
 generalize QaK key=K at *
 have HB:=hid hb
 clear hb
 have hkm:(K.map W8).length=64:=by simpa using hkl
 go_enter Tryz.func163,Tryz.ntmps163
 go_wp2_with (first
  | (go_at_call 181;refine HB.out.mono ?_;rintro e w1 ⟨rfl,hl1⟩))
 rw[Qvq K hkl]
 have hH0:HashAt (w1.alloc (.cells (Qbl QfR (QCA 64 0) 0++K.map W8).toArray 292)) w1.heap.size 292 (K.map W8) []:=⟨QfR,QCA 64 0,QsT,Blk.new _ _ _⟩
 generalize hC:Qbl QfR (QCA 64 0) 0++K.map W8=C at *
 clear hC
 have L0:=hl1.alloc (.cells C.toArray 292)
 have hz:=hl1.size
 have hlt0:=hH0.lt
 generalize hW:w1.alloc (.cells C.toArray 292)=W at *
 clear hW
 generalize w1.heap.size=g at *
 have hH1:=hH0.later (Qab _)
 refine Qaf [([0,1,2,3,4,5,6],7),([],8)] [] [9] (by as_aux_lemma=>kernel_rfl) (by as_aux_lemma=>kernel_rfl) (by intro _ _ d _ _ h;cases d<;>exact h) ?_
 simp only[Qah,pick,QCB,QCC,QCD,QCF,QCG]
 repeat (first|go_big_quiet_skip|(go_big_quiet_want;refine Qa2 288 _ rfl g 73 (K.map W8) ?hc ?hx _ Tryz.underlying288 rfl ?hi ?_;(case hx=>rfl);(case hi=>rw[hkm];kernel_rfl);(case hc=>rintro w' ⟨x,rfl⟩;exact (hH1.later ⟨x,rfl⟩).restD);simp only[Act.put,QCJ,QCO,QCN];go_big_quiet_on)|(go_big_quiet_step (fail)))
 refine wpQuiet_nil ?_
 go_wp2_with (go_at_call 182;refine (Qj5 K 54 _ hkl).mono ?_;rintro e w2 ⟨A2,c2,rfl,hown2,hl2⟩)
 try refine⟨by first|assumption|exact Qab _|exact Qaa _ _|exact Later.refl _,?_⟩
 try simp only[Qah,pick,QCB,QCC,QCD,QCF,QCG]
 repeat (go_big_quiet_step (fail))
 refine wpQuiet_nil ?_
 go_wp2
 try refine⟨by first|assumption|exact Qab _|exact Qaa _ _|exact Later.refl _,?_⟩
 try simp only[Qah,pick,QCB,QCC,QCD,QCF,QCG]
 repeat (go_big_quiet_step (fail))
 refine wpQuiet_nil ?_
 have hone:[QbX K 54].flatten=QbX K 54:=by simp
 have hml:=QbZ K 54
 have HO:=hid hone
 clear hone
 generalize hM:QbX K 54=M at *
 have HM:=hid hM
 clear hM
 go_wp2_with (first
  | (go_at_call 164;refine (QhX g 292 (K.map W8) [] (some ⟨w2.heap.size,0,none⟩) 1 1 [M] _ ?hh ?hx (by omega) (by rw[HO.out];simp;omega)).mono ?_
     (case hh=>exact (hH1.later hl2).later (Qaa _ _))
     (case hx=>exact Qfn ((Blk.new w2 22 [.slice A2 64 c2]).rd rfl) (QuA (by have:=hl2.size;simp at this;omega)) ⟨Quk (hown2.later (Qaa _ _)) (by simpa using hlt0),trivial⟩)
     rintro e w3 ⟨rfl,hh3,ho3⟩
     rw[HO.out,QCG]at hh3))
 go_ret
 exact⟨g,rfl,hz,by rw[HM.out];exact hh3,(((L0.trans (Qab _)).trans hl2).alloc _).only ho3 hz⟩
theorem Qsg (key bs:List UInt8):Qbb key bs=Qcg [QbX (QaK key) 92,QhC key bs].flatten:=by simp[Qbb]
set_option maxRecDepth 100000 in
set_option maxHeartbeats 1000000 in
theorem QqD (g:Nat) (key bs:List UInt8) (w:World) (hh:TagAt w g key bs) (hlen:bs.length≤2305843009213693000):
 Calls Tryz.prog 165 #[.pointer (some ⟨g,0,none⟩)] w fun e w'=>e= .returned (.agg ((Qbb key bs).map W8).toArray)∧Later w w':=by
 have hkl:=QbG key
 have hml:=QbZ (QaK key) 54
 unfold TagAt at hh
 have hs:=fun g t rest w hh=>Qo2 g t rest (QbX (QaK key) 54++bs) w hh (by rw[QCK,hml,hkl];omega)
 have hin:=Qbk (QbX (QaK key) 54++bs)
 have hT:=QaF key bs
 have hsum:=fun A n c w hx=>QoD A n c [QbX (QaK key) 92,QhC key bs] w hx
 rw[←Qsg]at hsum
 generalize Qbb key bs=T at *
 have hmk:(QbX (QaK key) 92).length=64:=by rw[QbZ,hkl]
 have hmi:=QbG key
 have hf:[QbX (QaK key) 92,QhC key bs].flatten.length=96:=by simp[hmk,QhC,Qbk]
 unfold QhC at *
 generalize Qcg (QbX (QaK key) 54++bs)=I at *
 generalize QbX (QaK key) 54++bs=X at *
 have hmm:=fun w=>Qj5 (QaK key) 92 w hkl
 generalize QbX (QaK key) 92=M at *
 generalize QaK key=K at *
 have HS:=hid hs
 have HSUM:=hid hsum
 have HF:=hid hf
 have HMM:=hid hmm
 clear hs hsum hf hmm
 have hkm:(K.map W8).length=64:=by simpa using hkl
 go_enter Tryz.func165,Tryz.ntmps165
 go_wp2_with (first
  | (go_at_call 184;refine (HS.out g 292 (K.map W8) _ (hh.later (Qaa _ _))).mono ?_;rintro e w1 ⟨rfl,hl1⟩)
  | (refine Qai rfl rfl 30 _ _ rfl w1.heap.size 0 30 (QCA 32 (W8 0)) (I.map W8) ?b ?hx ?hy ?hi ?hf ?h1 ?_;(case hx=>rfl);(case hy=>rfl);(case hi=>rw[QCE,hin];kernel_rfl);(case hf=>simp[hin]);(case h1=>exact QaC _);(case b=>exact Blk.new _ _ _);intro w2 hb2 ho2
     rw[Qal _ _ (by simp[hin])]at hb2))
 have z1:w.heap.size+1≤w1.heap.size:=by have:=hl1.size;simpa using this
 have hh2:=(((hh.later (Qaa _ _)).later hl1).later (Qaa _ _)).only ho2 (by have:=hh.lt;omega)
 have hR2:Blk w2 w.heap.size 30 (QCA 32 (W8 0)):=(((Blk.new w _ _).later hl1).later (Qaa _ _)).only ho2 (by omega)
 have hL2:Later w w2:=(((Qaa w _).trans hl1).alloc _).only ho2 (by omega)
 clear hl1 ho2 hh
 generalize w1.heap.size=g1 at *
 have hh3:=hh2.later (Qab _)
 refine Qaf [([0,1,2,3,5],4)] [] [6,7,8] (by as_aux_lemma=>kernel_rfl) (by as_aux_lemma=>kernel_rfl) (by intro _ _ d _ _ h;cases d<;>exact h) ?_
 simp only[Qah,pick,QCB,QCC,QCD,QCF,QCG]
 repeat (first|go_big_quiet_skip|(go_big_quiet_want;refine Qa2 288 _ rfl g 73 (K.map W8) ?hc ?hx _ Tryz.underlying288 rfl ?hi ?_;(case hx=>rfl);(case hi=>rw[hkm];kernel_rfl);(case hc=>rintro w' ⟨x,rfl⟩;exact (hh3.later ⟨x,rfl⟩).restD);simp only[Act.put,QCJ,QCO,QCN];go_big_quiet_on)|(go_big_quiet_step (fail)))
 refine wpQuiet_nil ?_
 go_wp2_with (go_at_call 182;refine (HMM.out _).mono ?_;rintro e w3 ⟨A3,c3,rfl,hown3,hl3⟩)
 try refine⟨by first|assumption|exact Qab _|exact Qaa _ _|exact Later.refl _,?_⟩
 try simp only[Qah,pick,QCB,QCC,QCD,QCF,QCG]
 repeat (go_big_quiet_step (fail))
 refine wpQuiet_nil ?_
 have hb3:=(hb2.later (Qab _)).later hl3
 have hR3:=(hR2.later (Qab _)).later hl3
 have hL3:=(hL2.drew).trans hl3
 go_wp2_with (first
  | (go_at_call 185;refine (HSUM.out (some ⟨w3.heap.size,0,none⟩) 2 2 _ ?hx (by omega) (by rw[HF.out];omega)).mono ?_
     (case hx=>exact QdW ((Blk.new w3 22 [.slice A3 64 c3,.slice (some ⟨g1,0,none⟩) 32 32]).rd rfl) ⟨QdE (RdB.later hown3.rd (Qaa _ _)) hown3.cap,QdE ((hb3.later (Qaa _ _)).rd (by simp[hin])) (by omega),trivial⟩)
     rintro e w4 ⟨rfl,hl4⟩)
  | (refine Qai rfl rfl 30 _ _ rfl w.heap.size 0 30 (QCA 32 (W8 0)) (T.map W8) ?b ?hx ?hy ?hi ?hf ?h1 ?_;(case hx=>rfl);(case hy=>rfl);(case hi=>rw[QCE,hT];kernel_rfl);(case hf=>simp[hT]);(case h1=>exact QaC _);(case b=>exact (hR3.later (Qaa _ _)).later hl4);intro w5 hb5 ho5
     rw[Qal _ _ (by simp[hT])]at hb5))
 exact bodyPost_ret (QaE rfl _ _ _ _ (T.map W8) _ hb5 rfl Tryz.underlying30 rfl (by rw[QCE,hT];kernel_rfl)) rfl ⟨rfl,(((hL3.alloc _).trans hl4)).only ho5 (QCL _)⟩
theorem TagAt.write {w:World} {g:Nat} {key bs x:List UInt8} (h:HashAt w g 292 ((QaK key).map W8) ((QbX (QaK key) 54++bs)++x)):TagAt w g key (bs++x):=by
 unfold TagAt
 rw[←QCR]
 exact h
set_option maxRecDepth 100000 in
set_option maxHeartbeats 1000000 in
theorem Qk2 (A B:Option Addr) (n c m d:Nat) (key:List UInt8) (ps:List (List UInt8)) (w:World) (hx:RdB w A n key) (hc:n≤c) (hn:n≤140737488355328) (hp:Parts w (fun _=>False) B m ps) (hm:m≤140737488355328) (hlen:ps.flatten.length≤2305843009213690000):
 Calls Tryz.prog 131 #[.slice A n c,.slice B m d] w fun e w'=>e= .returned (.agg ((Qbb key ps.flatten).map W8).toArray)∧Later w w':=by
 have hT:=QaF key ps.flatten
 have hs:=fun g w hh=>QqD g key ps.flatten w hh (by omega)
 have hw:=fun g bs n c w hh hx hm=>QhX g 292 ((QaK key).map W8) bs B n c ps w hh hx hm
 generalize Qbb key ps.flatten=T at *
 have hml:(QbX (QaK key) 54).length=64:=by rw[QbZ,QbG]
 have HS:=hid hs
 have HW:=hid hw
 clear hs hw
 go_enter Tryz.func131,Tryz.ntmps131
 go_wp2_with (first
  | (go_at_call 163;refine (QkH A n c key _ (hx.later (Qaa _ _)) hc hn).mono ?_;rintro e w1 ⟨g,rfl,hg,hh1,hl1⟩)
  | (go_at_call 164;refine (HW.out g _ m d _ hh1 ?hx hm ?hl).mono ?_
     (case hx=>exact (hp.more (fun b hb=>.inr (by subst hb;simp at hg;omega))).later ((Qaa _ _).trans hl1))
     (case hl=>rw[QDf,hml];omega)
     rintro e w2 ⟨rfl,hh2,ho2⟩
     have ht2:=TagAt.write hh2
     rw[QCG]at ht2)
  | (go_at_call 165;refine (HS.out g _ ht2).mono ?_;rintro e w3 ⟨rfl,hl3⟩)
  | (refine Qai rfl rfl 30 _ _ rfl w.heap.size 0 30 (QCA 32 (W8 0)) (T.map W8) ?b ?hx ?hy ?hi ?hf ?h1 ?_;(case hx=>rfl);(case hy=>rfl);(case hi=>rw[QCE,hT];kernel_rfl);(case hf=>simp[hT]);(case h1=>exact QaC _);(case b=>exact (((Blk.new w _ _).later hl1).only ho2 (by simp at hg;omega)).later hl3);intro w5 hb5 ho5
     rw[Qal _ _ (by simp[hT])]at hb5))
 exact bodyPost_ret (QaE rfl _ _ _ _ (T.map W8) _ hb5 rfl Tryz.underlying30 rfl (by rw[QCE,hT];kernel_rfl)) rfl
  ⟨rfl,((((Qaa w _).trans hl1).only ho2 (by simp at hg;omega)).trans hl3).only ho5 (QCL _)⟩
theorem QyY (G:List UInt8) (h:G.length=32):Qaq (QCA 16 (W8 0)) 0 ((G.map W8).take 16)=(G.take 16).map W8:=by
 rw[Qal _ _ (by simp[h]),QD1]
set_option maxRecDepth 100000 in
theorem Qn8 (G:List UInt8) (hG:G.length=32) (w:World):
 Calls Tryz.prog 130 #[.agg (G.map W8).toArray] w fun e w'=>∃A c,e= .returned (.slice A 16 c)∧OwnB w' w.heap.size A 16 c (G.take 16)∧Later w w':=by
 have hb0:=Blk.new w 30 (G.map W8)
 have ht:=QyY G hG
 have hl16:(G.take 16).length=16:=by simp[hG]
 have hgl:(G.map W8).length=32:=by simp[hG]
 have h1:=QaC G
 generalize G.take 16=F at *
 generalize G.map W8=gl at *
 have HT:=hid ht
 clear ht
 go_enter Tryz.func130,Tryz.ntmps130
 go_wp2_with (first
  | (refine Qax rfl _ _ _ rfl 5 _ 1 Tryz.underlying22 Qb4 rfl _ _ _ _ 16 rfl rfl ?hL ?hC (by omega) (by omega) ?_;(case hL=>rfl);(case hC=>rfl);intro w1 hb1 hl1;simp only[World.size_alloc]at hb1)
  | (refine Qar rfl _ _ _ _ rfl 5 Tryz.underlying22 Qbu (w.heap.size+1) 0 16 16 5 (QCA 16 (W8 0)) hb1 (some ⟨w.heap.size,0,none⟩) 32 32 gl ((hb0.later hl1).rd hgl) h1 rfl rfl (by simp) ?_;intro w4 hb4 ho4
     rw[HT.out]at hb4))
 go_ret
 refine⟨_,_,rfl,?_,((Qaa w _).trans hl1).only ho4 (by omega)⟩
 have:=QcX hb4 (show w.heap.size≤w.heap.size+1 by omega) (by simp[hl16])
 rwa [QCE,hl16]at this
theorem QlE (A B:Option Addr) (n c m d:Nat) (key:List UInt8) (ps:List (List UInt8)) (w:World) (hx:RdB w A n key) (hc:n≤c) (hn:n≤140737488355328) (hp:Parts w (fun _=>False) B m ps) (hm:m≤140737488355328) (hlen:ps.flatten.length≤2305843009213690000):
 Calls Tryz.prog 98 #[.slice A n c,.slice B m d] w fun e w'=>∃A' c',e= .returned (.slice A' 16 c')∧OwnB w' w.heap.size A' 16 c' ((Qbb key ps.flatten).take 16)∧Later w w':=by
 have hT:=QaF key ps.flatten
 have hs:=hid (Qk2 A B n c m d key ps w hx hc hn hp hm hlen)
 generalize Qbb key ps.flatten=T at *
 have hf:=hid (fun w=>Qn8 T hT w)
 go_enter Tryz.func98,Tryz.ntmps98
 go_wp2_with (first
  | (go_at_call 131;refine hs.out.mono ?_;rintro e w1 ⟨rfl,hl1⟩)
  | (go_at_call 130;refine (hf.out _).mono ?_;rintro e w2 ⟨A2,c2,rfl,hown2,hl2⟩))
 go_ret
 exact⟨A2,c2,rfl,hown2.mono hl1.size,hl1.trans hl2⟩
theorem Qq2 (A B C:Option Addr) (n c m d k e0:Nat) (key tag:List UInt8) (ps:List (List UInt8)) (w:World) (hx:RdB w A n key) (hc:n≤c) (hn:n≤140737488355328) (ht:RdB w C k tag) (hk:k≤140737488355328)
 (hp:Parts w (fun _=>False) B m ps) (hm:m≤140737488355328) (hlen:ps.flatten.length≤2305843009213690000):
 Calls Tryz.prog 61 #[.slice A n c,.slice C k e0,.slice B m d] w fun e w'=>e= .returned (.bool (decide ((Qbb key ps.flatten).take 16=tag)))∧Later w w':=by
 have hs:=hid (QlE A B n c m d key ps w hx hc hn hp hm hlen)
 have hl16:((Qbb key ps.flatten).take 16).length=16:=by simp[QaF]
 generalize (Qbb key ps.flatten).take 16=S at *
 have hq:=hid (fun A c w hx hy=>Qvs A C 16 k c e0 S tag w hx hy (by omega) hk)
 generalize decide (S=tag)=R at *
 go_enter Tryz.func61,Tryz.ntmps61
 go_wp2_with (first
  | (go_at_call 98;refine hs.out.mono ?_;rintro e w1 ⟨A1,c1,rfl,hown1,hl1⟩)
  | (go_at_call 97;refine (hq.out A1 c1 _ hown1.rd (ht.later hl1)).mono ?_;rintro e w2 ⟨rfl,hl2⟩))
 go_ret
 exact⟨rfl,hl1.trans hl2⟩
def Qde (l:List UInt8) (m:UInt8) (k:Nat):List UInt8:=QbX (l.take k) m++l.drop k
theorem Qm9 (l:List UInt8) (m:UInt8) (k:Nat) (h:k<l.length):(Qde l m k)[k]?=some (l.getD k 0)∧(Qde l m k).set k (l.getD k 0 ^^^ m)=Qde l m (k+1):=by
 have h1:(QbX (l.take k) m).length=k:=by simp[QbX];omega
 have h2:l.drop k=l[k] :: l.drop (k+1):=QEp h
 have h3:l.getD k 0=l[k]:=by rw[QCI,QCH h];rfl
 constructor
 ·rw[Qde,QCQ (by omega),h1,h2,h3]
  simp
 ·rw[Qde,Qde,QDb _ _ (by omega),h1,h2,h3,QC8 h,QDR,QCN]
  simp only[QbX,QDh,QCR,QC7,QC2,QCF,QCG]
theorem Qkc (l:List UInt8) (m:UInt8) (k:Nat) (h:k≤l.length):(Qde l m k).length=l.length:=by
 simp[Qde,QbX]
 omega
theorem Qqz (l:List UInt8) (m:UInt8) (n:Nat) (h:l.length=n):Qde l m n=QbX l m:=by
 simp[Qde,←h]
theorem QmU (l:List UInt8) (m:UInt8):Qde l m 0=l:=by simp[Qde,QbX]
set_option maxRecDepth 100000 in
set_option maxHeartbeats 1000000 in
theorem Qhc (A:Option Addr) (n c:Nat) (key:List UInt8) (m:UInt8) (w:World) (hx:RdB w A n key) (hn:n≤70368744177664):
 Calls Tryz.prog 143 #[.slice A n c,W8 m] w fun e w'=>∃A' c',e= .returned (.slice A' 64 c')∧OwnB w' w.heap.size A' 64 c' (QbX (QaK key) m)∧Later w w':=by
 have hl:=hx.len
 have hkl:=QbG key
 have hml:=QbZ (QaK key) m
 have hks:∀k,k<64→(Qde (QaK key) m k)[k]?=some ((QaK key).getD k 0)∧(Qde (QaK key) m k).set k ((QaK key).getD k 0 ^^^ m)=Qde (QaK key) m (k+1):=fun k h=>Qm9 _ m k (by omega)
 have hkm:∀k,k≤64→(Qde (QaK key) m k).length=64:=fun k h=>by rw[Qkc _ m k (by omega),hkl]
 have hka:=Qqz (QaK key) m 64 hkl
 have hk0:=QmU (QaK key) m
 by_cases h64:64<n
 all_goals
  first
   | have hk:QaK key=Qcg key++QCA (64-(Qcg key).length) 0:=by rw[QaK,Qlp,if_pos (by omega)]
   | have hk:QaK key=key++QCA (64-key.length) 0:=by rw[QaK,Qlp,if_neg (by omega)]
  have HK:=hid hk
  have HKS:=hid hks
  have HKM:=hid hkm
  clear hk hks hkm
  have hs:=hid (QnL A n c key)
  have hG:=Qbk key
  generalize Qcg key=G at *
  generalize QaK key=K at *
  go_enter Tryz.func143,Tryz.ntmps143
  go_wp2_with (first
   | (refine Qax rfl _ _ _ rfl 5 _ 1 Tryz.underlying22 Qb4 rfl _ _ _ _ 64 rfl rfl ?hL ?hC (by omega) (by omega) ?_;(case hL=>rfl);(case hC=>rfl);intro w1 hb1 hl1)
   | (go_at_call 142;refine (hs.out _ (hx.later hl1) (by omega)).mono ?_;rintro e w2 ⟨rfl,hl2⟩)
   | (refine Qai rfl rfl 30 _ _ rfl w2.heap.size 0 30 (QCA 32 (W8 0)) (G.map W8) ?b ?hx ?hy ?hi ?hf ?h1 ?_;(case hx=>rfl);(case hy=>rfl);(case hi=>rw[QCE,hG];kernel_rfl);(case hf=>simp[hG]);(case h1=>exact QaC _);(case b=>exact Blk.new _ _ _);intro w3 hb3 ho3
      rw[Qal _ _ (by simp[hG])]at hb3
      have z2:=hl2.size
      have hb13:=((hb1.later hl2).later (Qaa _ _)).only ho3 (by have:=hb1.lt;omega)
      have hl3:=(((hl1.trans hl2).alloc _).only ho3 (by have:=hl1.size;omega)))
   | (refine Qar rfl _ _ _ _ rfl 5 Tryz.underlying22 Qbu w.heap.size 0 64 64 5 (QCA 64 (W8 0)) hb13 (some ⟨w2.heap.size,0,none⟩) 32 32 (G.map W8) (hb3.rd (by simp[hG])) (QaC _) rfl rfl (by simp) ?_;intro w4 hb4 ho4
      rw[QfA G (by omega),←HK.out,←hk0]at hb4
      have hl4:=hl3.only ho4 (QCL _))
   | (refine Qar rfl _ _ _ _ rfl 5 Tryz.underlying22 Qbu w.heap.size 0 64 64 5 (QCA 64 (W8 0)) hb1 A n c (key.map W8) (RdB.later hx hl1) (QaC _) rfl rfl (by simp) ?_;intro w4 hb4 ho4
      rw[QfA key (by omega),←HK.out,←hk0]at hb4
      have hl4:=hl1.only ho4 (QCL _)))
  go_loopw [7] (fun i wr=>∃j:Nat,j≤64∧i= .int .i64 j∧Later w wr∧Blk wr w.heap.size 5 ((Qde K m j).map W8)) (fun i _=>64-(intOf i).toNat)
  case atStart=>exact⟨0,by omega,rfl,hl4,hb4⟩
  case round=>
   clear hb4 hl4
   obtain⟨j,hj,rfl,hl,hb⟩:=hrel
   by_cases hlt:j<64
   ·obtain⟨e1,e2⟩:=HKS.out j hlt
    have hfl:=HKM.out j hj
    have d0:=hb.cellD j (Qz9 e1)
    have HST:=hid e2
    clear e1 e2
    generalize K.getD j 0=x at *
    go_wp2_with (first
     | (refine Qac rfl rfl _ _ _ rfl _ _ _ _ hb rfl ?hl rfl (by kernel_rfl) ?_;(case hl=>rw[QCE,hfl];omega);intro v' w5 hv' hb5 ho5;simp[go_sem]at hv';subst hv'))
    go_roundw
    case rel=>
     refine⟨j+1,by omega,by go_num,hl.only ho5 (by omega),?_⟩
     rw[←HST.out,←QbP]
     exact hb5
    case measure=>simp only[intOf];omega
   ·have hj':j=64:=by omega
    rw[hj',hka]at hb
    go_wp2
    go_ret
    refine⟨_,_,rfl,?_,hl⟩
    have:=QcX hb (QCL _) (by simp[hml,hkl])
    rwa [QCE,hml,hkl]at this
set_option maxRecDepth 100000 in
set_option maxHeartbeats 1000000 in
theorem Qkm (A B:Option Addr) (n c m d:Nat) (key bs:List UInt8) (w:World) (hx:RdB w A n key) (hn:n≤70368744177664) (hb:RdB w B m bs) (hm:m≤35184372088832):
 Calls Tryz.prog 141 #[.slice A n c,.slice B m d] w fun e w'=>e= .returned (.agg ((QhC key bs).map W8).toArray)∧Later w w':=by
 have hbl:=hb.len
 have hml:(QbX (QaK key) 54).length=64:=by rw[QbZ,QbG]
 have hI:=Qbk (QbX (QaK key) 54++bs)
 have hs:=hid (fun A n c w h=>QnL A n c (QbX (QaK key) 54++bs) w h)
 have hk:=hid (fun w h=>Qhc A n c key 54 w h hn)
 unfold QhC
 generalize Qcg (QbX (QaK key) 54++bs)=I at *
 generalize QbX (QaK key) 54=M at *
 go_enter Tryz.func141,Tryz.ntmps141
 go_wp2_with (first
  | (go_at_call 143;refine (hk.out _ (hx.later (Qaa _ _))).mono ?_;rintro e w1 ⟨A1,c1,rfl,hown1,hl1⟩)
  | (refine QaA rfl _ _ _ rfl 5 _ 1 Tryz.underlying22 Qb4 rfl _ _ 64 _ hown1 hl1 B m d _ (hb.later ((Qaa _ _).trans hl1)) (QaC _) rfl rfl (by omega) (by omega) ?_;intro A2 c2 w2 hown2 hl2 _ _
     have hown2':=Qh8 hown2 rfl rfl)
  | (go_at_call 142;refine (hs.out A2 (64+m) c2 _ (OwnB.rd hown2') (by omega)).mono ?_;rintro e w3 ⟨rfl,hl3⟩)
  | (refine Qai rfl rfl 30 _ _ rfl w.heap.size 0 30 (QCA 32 (W8 0)) (I.map W8) ?b ?hx ?hy ?hi ?hf ?h1 ?_;(case hx=>rfl);(case hy=>rfl);(case hi=>rw[QCE,hI];kernel_rfl);(case hf=>simp[hI]);(case h1=>exact QaC _);(case b=>exact ((Blk.new w _ _).later hl2).later hl3);intro w5 hb5 ho5
     rw[Qal _ _ (by simp[hI])]at hb5))
 exact bodyPost_ret (QaE rfl _ _ _ _ (I.map W8) _ hb5 rfl Tryz.underlying30 rfl (by rw[QCE,hI];kernel_rfl)) rfl ⟨rfl,((Qaa w _).trans (hl2.trans hl3)).only ho5 (QCL _)⟩
set_option maxRecDepth 100000 in
set_option maxHeartbeats 1000000 in
theorem QgQ (A B:Option Addr) (n c m d:Nat) (key bs:List UInt8) (w:World) (hx:RdB w A n key) (hn:n≤70368744177664) (hb:RdB w B m bs) (hm:m≤35184372088832):
 Calls Tryz.prog 110 #[.slice A n c,.slice B m d] w fun e w'=>e= .returned (.agg ((Qbb key bs).map W8).toArray)∧Later w w':=by
 have hml:(QbX (QaK key) 92).length=64:=by rw[QbZ,QbG]
 have hI:(QhC key bs).length=32:=Qbk _
 have hT:=QaF key bs
 have hi:=hid (fun w h1 h2=>Qkm A B n c m d key bs w h1 hn h2 hm)
 have hk:=hid (fun w h=>Qhc A n c key 92 w h hn)
 have hs:=fun A n c w h=>QnL A n c (QbX (QaK key) 92++QhC key bs) w h
 have he:Qcg (QbX (QaK key) 92++QhC key bs)=Qbb key bs:=rfl
 rw[he]at hs
 have HS:=hid hs
 clear hs he
 generalize Qbb key bs=T at *
 generalize QhC key bs=I at *
 generalize QbX (QaK key) 92=M at *
 go_enter Tryz.func110,Tryz.ntmps110
 go_wp2_with (first
  | (go_at_call 141;refine (hi.out _ (hx.later (Qaa _ _)) (hb.later (Qaa _ _))).mono ?_;rintro e w1 ⟨rfl,hl1⟩)
  | (refine Qai rfl rfl 30 _ _ rfl w1.heap.size 0 30 (QCA 32 (W8 0)) (I.map W8) ?b ?hx ?hy ?hi ?hf ?h1 ?_;(case hx=>rfl);(case hy=>rfl);(case hi=>rw[QCE,hI];kernel_rfl);(case hf=>simp[hI]);(case h1=>exact QaC _);(case b=>exact Blk.new _ _ _);intro w2 hb2 ho2
     rw[Qal _ _ (by simp[hI])]at hb2))
 have z1:w.heap.size+1≤w1.heap.size:=by have:=hl1.size;simpa using this
 have hR2:Blk w2 w.heap.size 30 (QCA 32 (W8 0)):=(((Blk.new w _ _).later hl1).later (Qaa _ _)).only ho2 (by omega)
 have hL2:Later w w2:=(((Qaa w _).trans hl1).alloc _).only ho2 (by omega)
 clear hl1 ho2
 generalize w1.heap.size=g1 at *
 refine Qaf [([0,2],1)] [] [3,4,5] (by as_aux_lemma=>kernel_rfl) (by as_aux_lemma=>kernel_rfl) (by intro _ _ d _ _ h;cases d<;>exact h) ?_
 simp only[Qah,pick,QCB,QCC,QCD,QCF,QCG]
 repeat (go_big_quiet_step (fail))
 refine wpQuiet_nil ?_
 go_wp2_with (go_at_call 143;refine (hk.out _ (hx.later hL2.drew)).mono ?_;rintro e w3 ⟨A3,c3,rfl,hown3,hl3⟩)
 try refine⟨by first|assumption|exact Qab _|exact Qaa _ _|exact Later.refl _,?_⟩
 try simp only[Qah,pick,QCB,QCC,QCD,QCF,QCG]
 repeat (go_big_quiet_step (fail))
 refine wpQuiet_nil ?_
 go_wp2_with (first
  | (refine QaA rfl _ _ _ rfl 5 _ 1 Tryz.underlying22 Qb4 rfl _ _ 64 _ hown3 hl3 (some ⟨g1,0,none⟩) 32 32 _ (((hb2.later (Qab _)).later hl3).rd (by simp[hI])) (QaC _) rfl rfl (by omega) (by omega) ?_;intro A4 c4 w4 hown4 hl4 _ _
     have hown4':=Qh8 hown4 rfl rfl)
  | (go_at_call 142;refine (HS.out A4 96 c4 _ (OwnB.rd hown4') (by omega)).mono ?_;rintro e w5 ⟨rfl,hl5⟩)
  | (refine Qai rfl rfl 30 _ _ rfl w.heap.size 0 30 (QCA 32 (W8 0)) (T.map W8) ?b ?hx ?hy ?hi ?hf ?h1 ?_;(case hx=>rfl);(case hy=>rfl);(case hi=>rw[QCE,hT];kernel_rfl);(case hf=>simp[hT]);(case h1=>exact QaC _);(case b=>exact ((hR2.later (Qab _)).later hl4).later hl5);intro w6 hb6 ho6
     rw[Qal _ _ (by simp[hT])]at hb6))
 exact bodyPost_ret (QaE rfl _ _ _ _ (T.map W8) _ hb6 rfl Tryz.underlying30 rfl (by rw[QCE,hT];kernel_rfl)) rfl ⟨rfl,((hL2.drew.trans (hl4.trans hl5))).only ho6 (QCL _)⟩
set_option maxRecDepth 100000 in
theorem Qly (A B:Option Addr) (n c m d:Nat) (key bs:List UInt8) (w:World) (hx:RdB w A n key) (hn:n≤70368744177664) (hb:RdB w B m bs) (hm:m≤35184372088832):
 Calls Tryz.prog 70 #[.slice A n c,.slice B m d] w fun e w'=>∃A' c',e= .returned (.slice A' 16 c')∧OwnB w' w.heap.size A' 16 c' ((Qbb key bs).take 16)∧Later w w':=by
 have hT:=QaF key bs
 have ht:=hid (QgQ A B n c m d key bs w hx hn hb hm)
 generalize Qbb key bs=T at *
 have hl16:(T.take 16).length=16:=by simp[hT]
 go_enter Tryz.func70,Tryz.ntmps70
 go_wp2_with (first
  | (go_at_call 110;refine ht.out.mono ?_;rintro e w1 ⟨rfl,hl1⟩)
  | (refine Qai rfl rfl 30 _ _ rfl w1.heap.size 0 30 (QCA 32 (W8 0)) (T.map W8) ?b ?hx ?hy ?hi ?hf ?h1 ?_;(case hx=>rfl);(case hy=>rfl);(case hi=>rw[QCE,hT];kernel_rfl);(case hf=>simp[hT]);(case h1=>exact QaC _);(case b=>exact Blk.new _ _ _);intro w2 hb2 ho2
     rw[Qal _ _ (by simp[hT])]at hb2)
  | (go_at_call 52;go_loud (refine (Qfx (some ⟨w1.heap.size,0,none⟩) 16 32 (T.take 16) _ (RdB.take (n:=32) (bs:=T) (hb2.rd (by simp[hT])) (m:=16) (by omega)) (by omega)).mono ?_;rintro e w3 ⟨A3,c3,rfl,hown3,hl3⟩)))
 go_ret
 have hL2:=((hl1.alloc _).only ho2 hl1.size)
 exact⟨A3,c3,rfl,hown3.mono hL2.size,hL2.trans hl3⟩
theorem Qxw {w:World} {g n:Nat} {t:TypeId} {vs rest:List Value} (h:Blk w g t (vs++rest)) (hn:vs.length=n):Rd w (some ⟨g,0,none⟩) n vs:=
 ⟨hn,fun _=>⟨g,0,rfl,h.lt,fun j u hu=>by rw[QC6];exact h.cellD j (by rw[QCU (QCT.1 hu).1];exact hu)⟩⟩
def hkT (key info:List UInt8):Nat→List UInt8
 | 0=>[]
 | i+1=>Qbb key (hkT key info i++info++[QDe (i:Int)+1])
def hkO (key info:List UInt8):Nat→List UInt8
 | 0=>[]
 | i+1=>hkO key info i++hkT key info (i+1)
theorem Qjx (key info:List UInt8) (i:Nat):(hkT key info i).length≤32:=by
 cases i with
 | zero=>simp[hkT]
 | succ i=>rw[hkT,QaF];omega
theorem QqB (key info:List UInt8) (i:Nat):(hkO key info i).length=32*i:=by
 induction i with
 | zero=>rfl
 | succ i ih=>rw[hkO,QCK,ih,hkT,QaF];omega
def expB (key info:List UInt8) (n:Nat):List UInt8:=(hkO key info ((n+31)/32)).take n
theorem Qil (key info:List UInt8) (n:Nat):(expB key info n).length=n:=by
 rw[expB,QC1,QqB]
 omega
set_option maxRecDepth 100000 in
set_option maxHeartbeats 1000000 in
theorem QnX (A B:Option Addr) (n c m d:Nat) (salt secret:List UInt8) (w:World) (hx:RdB w A n salt) (hc:n≤c) (hn:n≤140737488355328) (hy:RdB w B m secret) (hd:m≤d) (hm:m≤140737488355328):
 Calls Tryz.prog 161 #[.slice A n c,.slice B m d] w fun e w'=>e= .returned (.agg ((Qbb salt secret).map W8).toArray)∧Later w w':=by
 have hyl:=hy.len
 have hT:=QaF salt secret
 have hs:=fun B w h=>Qk2 A B n c 1 1 salt [secret] w h hc hn
 rw[QbK]at hs
 generalize Qbb salt secret=T at *
 have HS:=hid hs
 clear hs
 go_enter Tryz.func161,Tryz.ntmps161
 go_wp2_with (first
  | (go_at_call 131;refine (HS.out (some ⟨w.heap.size+1,0,none⟩) _ (hx.later ((Qaa _ _).alloc _)) ?hp (by omega) (by omega)).mono ?_
     (case hp=>exact QdW ((Blk.new' _ 22 [.slice B m d] (by simp)).rd rfl) ⟨QdE (hy.later ((Qaa _ _).alloc _)) hd,trivial⟩)
     rintro e w1 ⟨rfl,hl1⟩)
  | (refine Qai rfl rfl 30 _ _ rfl w.heap.size 0 30 (QCA 32 (W8 0)) (T.map W8) ?b ?hx ?hy ?hi ?hf ?h1 ?_;(case hx=>rfl);(case hy=>rfl);(case hi=>rw[QCE,hT];kernel_rfl);(case hf=>simp[hT]);(case h1=>exact QaC _);(case b=>exact ((Blk.new w _ _).later (Qaa _ _)).later hl1);intro w6 hb6 ho6
     rw[Qal _ _ (by simp[hT])]at hb6))
 exact bodyPost_ret (QaE rfl _ _ _ _ (T.map W8) _ hb6 rfl Tryz.underlying30 rfl (by rw[QCE,hT];kernel_rfl)) rfl ⟨rfl,(((Qaa w _).alloc _).trans hl1).only ho6 (QCL _)⟩
set_option maxRecDepth 100000 in
set_option maxHeartbeats 1000000 in
theorem QcP (A:Option Addr) (n c:Nat) (ps:List (List UInt8)) (w:World) (hx:Parts w (fun _=>False) A n ps) (hm:n≤140737488355328) (hp:ps.flatten.length≤140737488355328):
 Calls Tryz.prog 53 #[.slice A n c] w fun e w'=>∃A' c',e= .returned (.slice A' ps.flatten.length c')∧OwnB w' w.heap.size A' ps.flatten.length c' ps.flatten∧Later w w':=by
 have hpl:=hx.len
 go_enter Tryz.func53,Tryz.ntmps53
 go_wp2
 go_loopw [3,11] (fun tot i wr=>∃k:Nat,k≤n∧i= .int .i64 k∧tot= .int .i64 ((ps.take k).flatten.length:Nat)∧Later w wr) (fun _ i _=>n-(intOf i).toNat)
 case atStart=>exact⟨0,by omega,rfl,rfl,Later.refl w⟩
 case round=>
  obtain⟨k,hk,rfl,rfl,hl⟩:=hrel
  by_cases hlt:k<n
  ·obtain⟨b,o,Ak,nk,ck,rfl,hb,hck,hcap,hrd,_⟩:=(hx.later hl).at_ hlt
   have hle:=QcQ ps (k+1)
   have hql:=hrd.len
   have hs':(ps.take (k+1)).flatten=(ps.take k).flatten++ps.getD k []:=by rw[Qeb ps k (by omega)];simp
   have hll:(ps.take (k+1)).flatten.length=(ps.take k).flatten.length+nk:=by rw[hs',QCK,hql]
   have HL:=hid hll
   rw[hll]at hle
   clear hs' hll
   generalize (ps.take k).flatten.length=fl at *
   generalize ps.getD k []=q at *
   go_wp2
   refine⟨⟨k+1,by omega,by go_num,by rw[HL.out];go_num,hl⟩,by simp only[intOf];omega⟩
  ·have hkn:k=n:=by omega
   subst hkn
   have hfe:(ps.take k).flatten.length=ps.flatten.length:=by rw[QCP (by omega)]
   rw[hfe]
   have HF:=hid hfe
   clear hfe
   generalize hFl:ps.flatten.length=fl at *
   go_wp2_with (first
    | (refine Qce rfl _ _ _ rfl 5 _ 1 Tryz.underlying22 Qb4 rfl _ _ _ _ 0 fl rfl rfl ?hL ?hC (by omega) (by omega) (by omega) ?_;(case hL=>rfl);(case hC=>rfl);intro w1 hown1 hl1))
   go_loopw [6,24] (fun out i w2=>∃(j:Nat) (A':Option Addr) (m c':Nat),j≤k∧i= .int .i64 j∧out= .slice A' m c'∧OwnB w2 w.heap.size A' m c' (ps.take j).flatten∧Later w w2) (fun _ i _=>k-(intOf i).toNat)
   case atStart=>exact⟨0,_,_,_,by omega,rfl,rfl,QdZ hown1 hl.size,hl.trans hl1⟩
   case round=>
    clear hown1 hl1
    obtain⟨j,A',m,c',hj,rfl,rfl,hown,hl2⟩:=hrel
    by_cases hlt2:j<k
    ·obtain⟨b,o,Ak,nk,ck,rfl,hb,hck,hcap,hrd,_⟩:=(hx.later hl2).at_ hlt2
     have hml:=hown.len
     have hle:=QcQ ps (j+1)
     have hlen:=hrd.len
     have hs':(ps.take (j+1)).flatten=(ps.take j).flatten++ps.getD j []:=by rw[Qeb ps j (by omega)];simp
     rw[hs',QCK]at hle
     have HS:=hid hs'
     clear hs'
     generalize ps.getD j []=q at *
     generalize (ps.take j).flatten=F at *
     go_wp2_with (first
      | (refine QaA rfl _ _ _ rfl 5 _ 1 Tryz.underlying22 Qb4 rfl w _ m _ hown hl2 Ak nk ck _ hrd (QaC _) rfl rfl (by omega) (by omega) ?_;intro A2 c2 w2' hown2 hl2' hg2 _))
     refine⟨⟨j+1,A2,m+nk,c2,by omega,by go_num,rfl,?_,hl2'⟩,by simp only[intOf];omega⟩
     rw[HS.out]
     exact Qh8 hown2 rfl rfl
    ·have hjk:j=k:=by omega
     rw[hjk,QCP (by omega)]at hown
     have hml:=hown.len
     rw[hFl]at hml
     subst hml
     go_wp2
     go_ret
     exact⟨_,_,by rw[hFl];rfl,by rw[hFl];exact hown,hl2⟩
def Front (w:World) (base:Nat) (A:Option Addr) (n:Nat) (bs:List UInt8):Prop:=
 bs.length=n∧((A=none∧n=0)∨∃g rest,A=some ⟨g,0,none⟩∧base≤g∧Blk w g 5 (bs.map W8++rest))
theorem Front.rd {w:World} {base:Nat} {A:Option Addr} {n:Nat} {bs:List UInt8} (h:Front w base A n bs):RdB w A n bs:=by
 obtain⟨h1,h2⟩:=h
 rcases h2 with ⟨rfl,rfl⟩|⟨g,rest,rfl,_,hb⟩
 ·obtain rfl:bs=[]:=QDj h1
  exact QhS w
 ·exact Qxw hb (by simpa using h1)
theorem Front.later {w w':World} {base:Nat} {A:Option Addr} {n:Nat} {bs:List UInt8} (h:Front w base A n bs) (hl:Later w w'):Front w' base A n bs:=by
 obtain⟨h1,h2⟩:=h
 exact⟨h1,h2.imp id fun ⟨g,rest,e,hb,hk⟩=>⟨g,rest,e,hb,hk.later hl⟩⟩
theorem Qsl {w:World} {base:Nat} {A:Option Addr} {n c m:Nat} {bs:List UInt8} (h:OwnB w base A n c bs) (hm:m≤n):Front w base A m (bs.take m):=by
 have hl:=h.len
 refine⟨by rw[QC1];omega,?_⟩
 rcases QsO h with ⟨rfl,rfl⟩|⟨g,rest,rfl,hb,hk,_⟩
 ·exact .inl ⟨rfl,by omega⟩
 ·refine .inr ⟨g,(bs.drop m).map W8++rest,rfl,hb,?_⟩
  rw[←QCR,←QDh,QC9]
  exact hk
theorem Qy1:(30:TypeId)≠5:=by decide
def LastAt (w:World) (v:Value) (k:Nat) (T:List UInt8):Prop:=
 (k=0∧v= .slice none 0 0∧T=[])∨∃g,0<k∧v= .slice (some ⟨g,0,none⟩) 32 32∧T.length=32∧Blk w g 30 (T.map W8)
theorem LastAt.rd {w:World} {v:Value} {k:Nat} {T:List UInt8} (h:LastAt w v k T):∃A n c,v= .slice A n c∧n≤c∧RdB w A n T:=by
 rcases h with ⟨_,rfl,rfl⟩|⟨g,_,rfl,hl,hb⟩
 ·exact⟨none,0,0,rfl,QCL _,QhS w⟩
 ·exact⟨_,32,32,rfl,QCL _,hb.rd (by simpa using hl)⟩
theorem Qj7 (a b c:List UInt8):[a,b,c].flatten=a++b++c:=by simp
set_option maxRecDepth 100000 in
set_option maxHeartbeats 2000000 in
theorem Qtr (A B:Option Addr) (n c m d:Nat) (N:Nat) (key:List UInt8) (ps:List (List UInt8)) (w:World) (hx:RdB w A n key) (hc:n≤c) (hn:n≤140737488355328) (hp:Parts w (fun _=>False) B m ps) (hm:m≤140737488355328) (hlen:ps.flatten.length≤70368744177664) (hN:N≤8160):
 Calls Tryz.prog 162 #[.slice A n c,.int .i64 N,.slice B m d] w fun e w'=>∃A',e= .returned (.tuple #[.slice A' N N,.int .i64 0])∧Front w' w.heap.size A' N (expB key ps.flatten N)∧Later w w':=by
 have hj:=hid (QcP B m d ps w hp hm (by omega))
 generalize ps.flatten=F at *
 generalize hFl:F.length=fl at *
 go_enter Tryz.func162,Tryz.ntmps162
 go_wp2_with (first
  | (go_at_call 53;refine hj.out.mono ?_;rintro e w1 ⟨A1,c1,rfl,hown1,hl1⟩)
  | (refine Qce rfl _ _ _ rfl 5 _ 1 Tryz.underlying22 Qb4 rfl _ _ _ _ 0 (N+32) rfl rfl ?hL ?hC (by omega) (by omega) (by omega) ?_;(case hL=>rfl);(case hC=>go_num);intro w2 hown2 hl2))
 have hown2':OwnB w2 w1.heap.size (some ⟨w1.heap.size,0,none⟩) 0 (N+32) []:=hown2
 have hlt1:=Qix hown1
 have hcap1:=hown1.cap
 go_loopw [9,10,11] (fun out last i wr=>∃(k:Nat) (A9:Option Addr) (c9:Nat),i= .int .i64 ((k:Int)+1)∧(k=0∨32*(k-1)<N)∧out= .slice A9 (32*k) c9∧LastAt wr last k (hkT key F k)∧OwnB wr w1.heap.size A9 (32*k) c9 (hkO key F k)∧Later w1 wr) (fun _ _ i _=>8200-32*(intOf i).toNat)
 case atStart=>exact⟨0,_,_,rfl,.inl rfl,rfl,.inl ⟨rfl,rfl,rfl⟩,hown2',hl2⟩
 case round=>
  clear hown2 hown2' hl2
  obtain⟨k,A9,c9,rfl,hkN,rfl,hlast,hown,hl⟩:=hrel
  have hcap9:=hown.cap
  by_cases hlt:32*k<N
  ·obtain⟨A10,l10,c10,rfl,hc10,hr10⟩:=hlast.rd
   have hkl:=Qjx key F k
   have hl10:=hr10.len
   have hT:(hkT key F (k+1)).length=32:=by rw[hkT,QaF]
   have ht:=fun B w h1 h2=>Qk2 A B n c 3 3 key [hkT key F k,F,[QDe (k:Int)+1]] w h1 hc hn h2
   have he:Qbb key [hkT key F k,F,[QDe (k:Int)+1]].flatten=hkT key F (k+1):=by rw[Qj7,hkT]
   rw[he,Qj7]at ht
   have hfl:(hkT key F k++F++[QDe (k:Int)+1]).length≤70368744177700:=by simp;omega
   have ho':hkO key F (k+1)=hkO key F k++hkT key F (k+1):=rfl
   have HT:=hid ht
   have HO:=hid ho'
   clear ht he ho'
   generalize hT1:hkT key F (k+1)=T at *
   generalize hkT key F k=Tk at *
   generalize hkO key F k=O at *
   have HT1:=hid hT1
   clear hT1
   have hltN:((32*k:Nat):Int)<(N:Int):=by omega
   go_wp2_with (first
    | (go_at_call 131;refine (HT.out (some ⟨wr.heap.size+1,0,none⟩) _ (hx.later ((hl1.trans hl).trans ((Qaa _ _).alloc _))) ?hp (by omega) (by omega)).mono ?_
       (case hp=>exact QdW ((Blk.new' _ 22 [.slice A10 l10 c10,.slice A1 fl c1,.slice (some ⟨wr.heap.size,0,none⟩) 1 1] (by simp)).rd rfl) ⟨QdE (hr10.later ((Qaa _ _).alloc _)) hc10,QdE ((hown1.later hl).later ((Qaa _ _).alloc _)).rd hcap1,QdE (((Blk.new wr 5 [W8 (QDe (k:Int)+1)]).later (Qaa _ _)).rd rfl) (by omega),trivial⟩)
       rintro e w3 ⟨rfl,hl3⟩)
    | (refine Qai rfl rfl 30 _ _ rfl w3.heap.size 0 30 (QCA 32 (W8 0)) (T.map W8) ?bk ?hx ?hy ?hi ?hf ?h1 ?_;(case hx=>rfl);(case hy=>rfl);(case hi=>rw[QCE,hT];kernel_rfl);(case hf=>simp[hT]);(case h1=>exact QaC _);(case bk=>exact Blk.new _ _ _);intro w4 hb4 ho4
       rw[Qal _ _ (by simp[hT])]at hb4
       have L3:=((Qaa wr _).alloc _).trans hl3
       have hown4:=QhU (Qbo (Qbo hown L3) (Qaa _ _)) ho4 (fun b hb=>by have:=Qix hown b hb;have:=L3.size;omega)
       have hl4:=((hl.trans L3).alloc _).only ho4 (by have:=(hl.trans L3).size;omega))
    | (refine QaA rfl _ _ _ rfl 5 _ 1 Tryz.underlying22 Qb4 rfl w1 _ (32*k) _ hown4 hl4 (some ⟨w3.heap.size,0,none⟩) 32 32 _ (hb4.rd (by simp[hT])) (QaC _) rfl rfl (by omega) (by omega) ?_;intro A5 c5 w5 hown5 hl5 hg5 _
       have hb5:=Qh2 hb4 hown4 Qy1 hg5
       have hown5':=Qh8 hown5 rfl (show 32*k+32=32*(k+1) by omega)))
   refine⟨⟨k+1,A5,c5,by go_num,.inr (by omega),by rw[show 32*k+32=32*(k+1) by omega],?_,?_,hl5⟩,by simp only[intOf];omega⟩
   ·exact .inr ⟨w3.heap.size,by omega,rfl,by rw[HT1.out];exact hT,by rw[HT1.out];exact hb5⟩
   ·rw[HO.out]
    exact hown5'
  ·have hk:k=(N+31)/32:=by omega
   have hltN: ¬((32*k:Nat):Int)<(N:Int):=by omega
   have hNc:N≤c9:=by omega
   go_wp2
   go_ret2
   refine⟨A9,rfl,?_,hl1.trans hl⟩
   rw[expB,←hk]
   have:=Qsl hown (m:=N) (by omega)
   exact⟨this.1,this.2.imp id fun ⟨g,rest,e,hb,hk⟩=>⟨g,rest,e,QDl hl1.size hb,hk⟩⟩
theorem Qm4 {w w':World} {b1 B:Nat} {e1:TypeId} {v1 v2:Value} {n1:Nat} {x1:List Value} (h1:w.ownsRow b1 e1 1 v1 n1 x1) (hB:B≤b1) (h2:∀b,v2.ownBlock=some b→b<B)
 (hg:w.grownBy w' v2.ownBlock):w'.ownsRow b1 e1 1 v1 n1 x1:=by
 refine h1.kept hg ?_
 cases hb:v1.ownBlock with
 | none=>exact .inl rfl
 | some b=>
   refine .inr fun he=>?_
   have:=h2 b he.symm
   have:=(h1.lt b hb).1
   omega
set_option maxRecDepth 100000 in
set_option maxHeartbeats 2000000 in
theorem Qlx (A B:Option Addr) (n c m d:Nat) (N:Nat) (key F:List UInt8) (w:World) (hx:RdB w A n key) (hn:n≤70368744177664) (hi:RdB w B m F) (hm:m≤17592186044416) (hN:N≤8160):
 Calls Tryz.prog 140 #[.slice A n c,.int .i64 N,.slice B m d] w fun e w'=>∃A' c',e= .returned (.tuple #[.slice A' N c',.int .i64 0])∧OwnB w' w.heap.size A' N c' (expB key F N)∧Later w w':=by
 have hFl:=hi.len
 go_enter Tryz.func140,Tryz.ntmps140
 go_wp2
 go_loopw [8,9,10] (fun out last i wr=>∃(k:Nat) (A8:Option Addr) (c8:Nat) (A9:Option Addr) (l9 c9:Nat),i= .int .i64 ((k:Int)+1)∧(k=0∨32*(k-1)<N)∧out= .slice A8 (32*k) c8∧last= .slice A9 l9 c9∧OwnB wr w.heap.size A9 l9 c9 (hkT key F k)∧OwnB wr w.heap.size A8 (32*k) c8 (hkO key F k)∧Later w wr) (fun _ _ i _=>8200-32*(intOf i).toNat)
 case atStart=>exact⟨0,_,_,_,_,_,rfl,.inl rfl,rfl,rfl,Qdj _ _ _,Qdj _ _ _,Later.refl w⟩
 case round=>
  obtain⟨k,A8,c8,A9,l9,c9,rfl,hkN,rfl,rfl,hlast,hown,hl⟩:=hrel
  have hcap8:=hown.cap
  by_cases hlt:32*k<N
  ·have hkl:=Qjx key F k
   have hl9:=hlast.len
   have hT:(hkT key F (k+1)).length=32:=by rw[hkT,QaF]
   have ht:=fun B d w h1 h2=>QgQ A B n c (l9+m+1) d key (hkT key F k++F++[QDe (k:Int)+1]) w h1 hn h2 (by omega)
   have he:Qbb key (hkT key F k++F++[QDe (k:Int)+1])=hkT key F (k+1):=by rw[hkT]
   rw[he]at ht
   have ho':hkO key F (k+1)=hkO key F k++hkT key F (k+1):=rfl
   have HT:=hid ht
   have HO:=hid ho'
   clear ht he ho'
   generalize hT1:hkT key F (k+1)=T at *
   generalize hkT key F k=Tk at *
   generalize hkO key F k=O at *
   have HT1:=hid hT1
   clear hT1
   have hltN:((32*k:Nat):Int)<(N:Int):=by omega
   have hlt8:=Qix hown
   go_wp2_with fail
   refine (Qfx A9 l9 c9 Tk _ hlast.rd (by omega)).mono ?_
   rintro e w1 ⟨A1,c1,rfl,hown1,hl1⟩
   go_wp2_with (first
    | (refine QaA rfl _ _ _ rfl 5 _ 1 Tryz.underlying22 Qb4 rfl wr _ l9 _ hown1 hl1 B m d _ (hi.later (hl.trans hl1)) (QaC _) rfl rfl (by omega) (by omega) ?_;intro A2 c2 w2 hown2 hl2 _ _)
    | (refine QaA rfl _ _ _ rfl 5 _ 1 Tryz.underlying22 Qb4 rfl wr _ (l9+m) _ (Qbo hown2 (Qaa _ _)) (hl2.alloc _) _ 1 1 [W8 (QDe (k:Int)+1)] (Qhj (Qg8 w2 _ [W8 (QDe (k:Int)+1)] (by simp))) (QaC [_]) rfl rfl (by omega) (by omega) ?_;intro A3 c3 w3 hown3 hl3 _ _
       have hown3':OwnB w3 wr.heap.size A3 (l9+m+1) c3 (Tk++F++[QDe (k:Int)+1]):=Qop hown3 rfl (by simp))
    | (go_at_call 110;refine (HT.out A3 c3 _ (hx.later (hl.trans hl3)) hown3'.rd).mono ?_;rintro e w4 ⟨rfl,hl4⟩)
    | (refine Qai rfl rfl 30 _ _ rfl w4.heap.size 0 30 (QCA 32 (W8 0)) (T.map W8) ?bk ?hx ?hy ?hi ?hf ?h1 ?_;(case hx=>rfl);(case hy=>rfl);(case hi=>rw[QCE,hT];kernel_rfl);(case hf=>simp[hT]);(case h1=>exact QaC _);(case bk=>exact Blk.new _ _ _);intro w5 hb5 ho5
       rw[Qal _ _ (by simp[hT])]at hb5
       have L4:=hl3.trans hl4
       have hl5:=((L4.alloc _).only ho5 L4.size)
       have hown5:=Qbo hown hl5)
    | (go_at_call 52;refine (Qfx (some ⟨w4.heap.size,0,none⟩) 32 32 T _ (hb5.rd (by simp[hT])) (by omega)).mono ?_;rintro e w6 ⟨A6,c6,rfl,hown6,hl6⟩
       have hout6:=Qbo hown5 hl6)
    | (refine QaA rfl _ _ _ rfl 5 _ 1 Tryz.underlying22 Qb4 rfl w _ (32*k) _ hout6 ((hl.trans hl5).trans hl6) A6 32 c6 _ hown6.rd (QaC _) rfl rfl (by omega) (by omega) ?_;intro A7 c7 w7 hown7 hl7 hg7 _;have hlast7:OwnB w7 w5.heap.size A6 32 c6 T:=Qm4 hown6 (QCL _) (fun b hb=>by have:=hlt8 b hb;have:=hl5.size;omega) hg7;have hown7':=Qh8 hown7 rfl (show 32*k+32=32*(k+1) by omega)))
   refine⟨⟨k+1,A7,c7,A6,32,c6,by go_num,.inr (by omega),by rw[show 32*k+32=32*(k+1) by omega],rfl,?_,?_,hl7⟩,by simp only[intOf];omega⟩
   ·rw[HT1.out]
    exact hlast7.mono (hl.trans hl5).size
   ·rw[HO.out]
    exact hown7'
  ·have hk:k=(N+31)/32:=by omega
   have hltN: ¬((32*k:Nat):Int)<(N:Int):=by omega
   have hNc:N≤c8:=by omega
   have hr:=(RdB.take hown.rd (m:=N) (by omega))
   have he:(hkO key F k).take N=expB key F N:=by rw[expB,←hk]
   rw[he]at hr
   generalize hE:expB key F N=E at *
   have HE:=hid hE
   clear hE
   go_wp2_with (first|(go_at_call 52;refine (Qfx A8 N c8 E _ hr (by omega)).mono ?_;rintro e w1 ⟨A1,c1,rfl,hown1,hl1⟩))
   go_ret2
   exact⟨A1,c1,rfl,by rw[HE.out];exact hown1.mono hl.size,hl.trans hl1⟩
theorem Qr0 (A B:Option Addr) (n c m d:Nat) (I:Int) (N:Nat) (hI:I=(N:Int)) (key:List UInt8) (ps:List (List UInt8)) (w:World) (hx:RdB w A n key) (hc:n≤c) (hn:n≤140737488355328) (hp:Parts w (fun _=>False) B m ps) (hm:m≤140737488355328) (hlen:ps.flatten.length≤70368744177664) (hN:N≤8160):
 Calls Tryz.prog 162 #[.slice A n c,.int .i64 I,.slice B m d] w fun e w'=>∃A',e= .returned (.tuple #[.slice A' N N,.int .i64 0])∧Front w' w.heap.size A' N (expB key ps.flatten N)∧Later w w':=by
 subst hI
 exact Qtr A B n c m d N key ps w hx hc hn hp hm hlen hN
theorem Qw5:(Tryz.prog.info? 30).map (fun i=>(i.zero,i.size,i.bytes))=some (some (.agg (QCA 32 (W8 0)).toArray),32,32):=by kernel_rfl
theorem QoC (m n:Nat) (v:Value) (hm:0<m):madeCells (QCA m v).toArray n=(QCA n v).toArray:=by
 apply Array.ext
 ·simp[madeCells]
 ·intro i h1 h2
  simp only[madeCells,Array.getElem_map,Array.getElem_range,List.getElem_toArray,List.getElem_replicate,List.size_toArray,QCM]
  have:i%m<m:=QC4 _ hm
  simp[this]
section
variable {P:Program} {ops:Array Oper} {rest:List Oper} {o:Oper} {a:Act} {w:World} {Q:Exit→Act→World→Prop}
theorem QiV (hgd:o.guard=none) (l c:Operand) (t:TypeId) (ho:o.op=Op.makeSlice t l c) (e:TypeId) (v:Value) (m bytes:Nat) (ht:P.underlying t=some (.slice e))
 (hinfo:(P.info? e).map (fun i=>(i.zero,i.size,i.bytes))=some (some (.agg (QCA m v).toArray),m,bytes)) (hm:0<m) (kl kc:IntKind) (L C:Int) (n:Nat) (hl:a.eval l= .int kl L) (hc:a.eval c= .int kc C) (hL:L=(n:Int)) (hC:C=(n:Int))
 (hby:0<bytes) (hsz:n*bytes≤140737488355328) (h:∀w',Blk w' w.heap.size e (QCA (n*m) v)→Later w w'→wpList P ops Q rest (a.put o.dst (.slice (some ⟨w.heap.size,0,none⟩) n n)) w'):
 wpList P ops Q (o :: rest) a w:=by
 cases hq:P.info? e with
 | none=>simp[hq]at hinfo
 | some i=>
   simp only[hq,QEm,Option.some.injEq,Prod.mk.injEq]at hinfo
   obtain⟨hz,hsize,hbytes⟩:=hinfo
   have hn:n≤140737488355328:=QDl (QDI _ hby) hsz
   refine wpList_plain hgd fun K hK=>?_
   have hb:((i.bytes:Int)*(n:Int))≤281474976710656:=by
    rw[hbytes,←QEn,QDE]
    omega
   have hr:=run_make (P:=P) w t e i _ ht hq hz kl kc n n (by omega) (Int.le_refl _) hb (by omega)
   have hcells:(Value.agg (QCA m v).toArray).cells=(QCA m v).toArray:=rfl
   simp only[QEv,hsize,hcells,QoC m _ v hm]at hr
   subst hL
   subst hC
   unfold Oper.wp
   simp only[execOp,ho,hl,hc,Sem.run_bind,hr,Result.andThen_ok,Sem.run_pure]
   exact hK _ _ (h _ (Blk.new w e _) (Qaa _ _))
end
def Qcp:List UInt8:=[115,104,97,108,108,111,116]
def derB (secret:List UInt8) (s:ByteArray):List UInt8:=expB (Qbb Qcp secret) (strB s) 32
theorem Qaz (secret:List UInt8) (s:ByteArray):(derB secret s).length=32:=Qil _ _ _
set_option maxRecDepth 100000 in
set_option maxHeartbeats 2000000 in
theorem Qdw (A:Option Addr) (n c:Nat) (secret:List UInt8) (s:ByteArray) (w:World) (hx:RdB w A n secret) (hn:n≤35184372088832) (hs:s.size≤17592186044416):
 Calls Tryz.prog 109 #[.slice A n c,.string s] w fun e w'=>e= .returned (.agg ((derB secret s).map W8).toArray)∧Later w w':=by
 have hsl:=Qf5 s
 have hT:=QaF Qcp secret
 have hD:=Qaz secret s
 have ht:=fun B d w h1 h2=>QgQ B A 7 d n c Qcp secret w h1 (by omega) h2 hn
 have he:=fun A B c d w h1 h2=>Qlx A B 32 c s.size d 32 (Qbb Qcp secret) (strB s) w h1 (by omega) h2 hs (by omega)
 have hde:expB (Qbb Qcp secret) (strB s) 32=derB secret s:=rfl
 rw[hde]at he
 clear hde
 generalize Qbb Qcp secret=T at *
 generalize derB secret s=D at *
 have HT:=hid ht
 have HE:=hid he
 clear ht he
 go_enter Tryz.func109,Tryz.ntmps109
 go_wp2_with (first
  | (refine QdO rfl _ _ rfl 5 Tryz.underlying22 Tryz.underlying5 (w.alloc (.cells (QCA 32 (W8 0)).toArray 30)) (Qcp.map W8) rfl (w.heap.size+1) 7 7 (by simp) rfl ?_;intro w1 hl1 hr1 hz1)
  | (go_at_call 110;refine (HT.out _ 7 _ hr1 (hx.later ((Qaa _ _).trans hl1))).mono ?_;rintro e w2 ⟨rfl,hl2⟩)
  | (refine Qai rfl rfl 30 _ _ rfl w2.heap.size 0 30 (QCA 32 (W8 0)) (T.map W8) ?bk ?hx ?hy ?hi ?hf ?h1 ?_;(case hx=>rfl);(case hy=>rfl);(case hi=>rw[QCE,hT];kernel_rfl);(case hf=>simp[hT]);(case h1=>exact QaC _);(case bk=>exact Blk.new _ _ _);intro w3 hb3 ho3;rw[Qal _ _ (by simp[hT])]at hb3)
  | (refine Qd6 rfl _ _ _ rfl 5 Tryz.underlying9 Tryz.underlying22 Tryz.underlying5 s rfl ?_;intro c4 w4 hl4 hr4 hc4 hz4)
  | (go_at_call 140;refine (HE.out (some ⟨w2.heap.size,0,none⟩) _ 32 c4 _ ((hb3.later hl4).rd (by simp[hT])) hr4).mono ?_;rintro e w5 ⟨A5,c5,rfl,hown5,hl5⟩
     have L2:=((Qaa w (.cells (QCA 32 (W8 0)).toArray 30)).trans hl1).trans hl2
     have hz2:w.heap.size+1≤w2.heap.size:=by have:=hl1.size;have:=hl2.size;simp at *;omega
     have hR3:Blk w3 w.heap.size 30 (QCA 32 (W8 0)):=((((Blk.new w _ _).later hl1).later hl2).later (Qaa _ _)).only ho3 (by omega)
     have L5:=(((L2.alloc _).only ho3 (by omega)).trans hl4).trans hl5
     have hR5:=(hR3.later hl4).later hl5
     have hlt5:=hR5.lt)
  | (refine Qar rfl _ _ _ _ rfl 5 Tryz.underlying22 Qbu w5.heap.size 0 32 32 30 (QCA 32 (W8 0)) (Blk.new _ _ _) A5 32 c5 (D.map W8) (Rd.later hown5.rd (Qaa _ _)) (QaC _) rfl rfl (by simp) ?_;intro w6 hb6 ho6
     rw[QCP (by simp[hD]),Qal _ _ (by simp[hD])]at hb6
     have hR6:=(hR5.later (Qaa _ _)).only ho6 (by omega)
     have L6:=(L5.alloc _).only ho6 L5.size)
  | (refine Qay rfl 30 _ rfl w5.heap.size 0 (D.map W8) ?hc ?hx _ Tryz.underlying30 rfl ?hi ?_;(case hx=>rfl);(case hi=>rw[QCE,hD];kernel_rfl);(case hc=>intro j v hv;rw[QC6];exact hb6.cellD j hv))
  | (refine Qai rfl rfl 30 _ _ rfl w.heap.size 0 30 (QCA 32 (W8 0)) (D.map W8) ?bk2 ?hx ?hy ?hi ?hf ?h1 ?_;(case hx=>rfl);(case hy=>rfl);(case hi=>rw[QCE,hD];kernel_rfl);(case hf=>simp[hD]);(case h1=>exact QaC _);(case bk2=>exact hR6);intro w9 hb9 ho9))
 rw[Qal _ _ (by simp[hD])]at hb9
 exact bodyPost_ret (QaE rfl _ _ _ _ (D.map W8) _ hb9 rfl Tryz.underlying30 rfl (by rw[QCE,hD];kernel_rfl)) rfl ⟨rfl,L6.only ho9 (QCL _)⟩
def Strs (w:World) (A:Option Addr) (n:Nat) (ss:List ByteArray):Prop:=Rd w A n (ss.map Value.string)
theorem Strs.at_ {w:World} {A:Option Addr} {n:Nat} {ss:List ByteArray} (h:Strs w A n ss) {k:Nat} (hk:k<n):
 ∃b o,A=some ⟨b,o,none⟩∧b<w.heap.size∧w.cell? ⟨b,o+k,none⟩=some (.string (ss.getD k .empty)):=by
 have hl:ss.length=n:=by simpa using h.1
 obtain⟨b,o,rfl,hb,hc⟩:=h.2 (by omega)
 refine⟨b,o,rfl,hb,hc k _ ?_⟩
 rw[QCS,QCI,QCH (by omega)]
 rfl
theorem Strs.later {w w':World} {A:Option Addr} {n:Nat} {ss:List ByteArray} (h:Strs w A n ss) (hl:Later w w'):Strs w' A n ss:=Rd.later h hl
def Qdp (secret:List UInt8) (ss:List ByteArray) (k:Nat):List UInt8:=((ss.take k).map (derB secret)).flatten++QCA (32*(ss.length-k)) 0
theorem Qhu (secret:List UInt8) (ss:List ByteArray) (k:Nat) (h:k≤ss.length):((ss.take k).map (derB secret)).flatten.length=32*k:=by
 induction k with
 | zero=>simp
 | succ k ih=>
   rw[QC8 (by omega),QDh,List.flatten_append,QCK,ih (by omega)]
   simp[Qaz]
   omega
theorem Qkv (secret:List UInt8) (ss:List ByteArray) (k:Nat) (h:k≤ss.length):(Qdp secret ss k).length=32*ss.length:=by
 rw[Qdp,QCK,Qhu _ _ _ h,QCM]
 omega
theorem Qno (secret:List UInt8) (ss:List ByteArray) (k:Nat) (h:k<ss.length):Qaq ((Qdp secret ss k).map W8) (32*k) (((derB secret (ss.getD k .empty)).map W8).take 32)=(Qdp secret ss (k+1)).map W8:=by
 have h1:=Qhu secret ss k (by omega)
 have h2:=Qaz secret (ss.getD k .empty)
 have hs:ss.getD k .empty=ss[k]:=by rw[QCI,QCH h];rfl
 rw[QCP (by rw[QCE,h2];omega),Qaq,Qdp,QDh,QDk (by rw[QCE,h1];omega),QCP (by rw[QCE,h1];omega),
  List.drop_append,QDL (by rw[QCE,h1,QCE,h2];omega),QCG,Qdp,QC8 h,hs]
 simp only[QDh,List.flatten_append,QC7,QC2,QDN,QEN,QDf,QCR,QDg,List.drop_replicate,QCE]
 rw[←hs,h2,h1,show 32*(ss.length-k)-(32*k+32-32*k)=32*(ss.length-(k+1)) by omega]
set_option maxRecDepth 100000 in
set_option maxHeartbeats 2000000 in
theorem Qjq (A B:Option Addr) (n c m d:Nat) (secret:List UInt8) (ss:List ByteArray) (w:World) (hx:RdB w A n secret) (hc:n≤c) (hn:n≤35184372088832) (hb:Strs w B m ss) (hm0:0<m) (hm:m≤1048576) (hs:∀s∈ss,s.size≤1048576):
 Calls Tryz.prog 128 #[.slice A n c,.slice B m d] w fun e w'=>∃g,e= .returned (.slice (some ⟨g,0,none⟩) m m)∧w.heap.size≤g∧Blk w' g 30 ((Qdp secret ss m).map W8)∧Later w w':=by
 have hml:ss.length=m:=by simpa using hb.1
 have hT:=QaF Qcp secret
 have ht:=fun B w h1 h2=>QnX B A 7 7 n c Qcp secret w h1 (by omega) (by omega) h2 hc (by omega)
 have he:=fun A B w (s:ByteArray) h1 h2 (h3:s.size≤1048576)=>Qr0 A B 32 32 1 1 32 32 rfl (Qbb Qcp secret) [strB s] w h1 (by omega) (by omega) h2 (by omega) (by rw[QbK,Qf5];omega) (by omega)
 have hd:∀s,expB (Qbb Qcp secret) [strB s].flatten 32=derB secret s:=fun s=>by rw[QbK];rfl
 simp only[hd]at he
 generalize Qbb Qcp secret=T at *
 have HT:=hid ht
 have HE:=hid he
 have HS:=hid hs
 clear ht he hd hs
 go_enter Tryz.func128,Tryz.ntmps128
 go_wp2_with (first
  | (refine QdO rfl _ _ rfl 5 Tryz.underlying22 Tryz.underlying5 w (Qcp.map W8) rfl w.heap.size 7 7 rfl rfl ?_;intro w1 hl1 hr1 hz1)
  | (go_at_call 161;refine (HT.out _ _ hr1 (hx.later hl1)).mono ?_;rintro e w2 ⟨rfl,hl2⟩)
  | (refine Qai rfl rfl 30 _ _ rfl w2.heap.size 0 30 (QCA 32 (W8 0)) (T.map W8) ?bk ?hx ?hy ?hi ?hf ?h1 ?_;(case hx=>rfl);(case hy=>rfl);(case hi=>rw[QCE,hT];kernel_rfl);(case hf=>simp[hT]);(case h1=>exact QaC _);(case bk=>exact Blk.new _ _ _);intro w3 hb3 ho3;rw[Qal _ _ (by simp[hT])]at hb3)
  | (refine QiV rfl _ _ _ rfl 30 (W8 0) 32 32 Tryz.underlying96 Qw5 (by omega) _ _ _ _ m rfl rfl ?hL ?hC (by omega) (by omega) ?_;(case hL=>rfl);(case hC=>rfl);intro w4 hb4 hl4))
 have L2:=hl1.trans hl2
 have L3:Later w w3:=(L2.alloc _).only ho3 L2.size
 have hk4:=hb3.later hl4
 have L4:=L3.trans hl4
 have hk0:(Qdp secret ss 0).map W8=QCA (m*32) (W8 0):=by rw[Qdp];simp only[QET,QC2,QEN,QCG,Nat.sub_zero,QDg,hml,QDE]
 rw[←hk0]at hb4
 have z2:=L2.size
 have z3:=hb3.lt
 have hgk:w2.heap.size≠w3.heap.size:=by omega
 have hg3:=L3.size
 clear hk0 hl1 hl2 hl4 hb3 ho3 L2 L3 hr1 hz1
 generalize w2.heap.size=gk at *
 generalize w3.heap.size=go at *
 go_loopw [23] (fun i wr=>∃k:Nat,k≤m∧i= .int .i64 k∧Blk wr gk 30 (T.map W8)∧Blk wr go 30 ((Qdp secret ss k).map W8)∧Later w wr) (fun i _=>m-(intOf i).toNat)
 case atStart=>exact⟨0,by omega,rfl,hk4,hb4,L4⟩
 case round=>
  clear hk4 hb4 L4
  obtain⟨k,hk,rfl,hK,hO,hl⟩:=hrel
  by_cases hlt:k<m
  ·obtain⟨b,o,rfl,hbb,hck⟩:=(hb.later hl).at_ hlt
   have hsz:=HS.out (ss.getD k .empty) (by rw[QCI,QCH (by omega)];exact QD2 _)
   have hkl:=Qkv secret ss k (by omega)
   have hst:=hid (Qno secret ss k (by omega))
   have hdl:=Qaz secret (ss.getD k .empty)
   have hsl:=Qf5 (ss.getD k .empty)
   generalize ss.getD k .empty=s at *
   have hE:=hid (fun A B w h1 h2=>HE.out A B w s h1 h2 hsz)
   generalize derB secret s=D at *
   go_wp2_with (first
    | (refine Qd6 rfl _ _ _ rfl 5 Tryz.underlying9 Tryz.underlying22 Tryz.underlying5 s rfl ?_;intro c1 w1 hl1 hr1 hc1 hz1)
    | (go_at_call 162;refine (hE.out (some ⟨gk,0,none⟩) (some ⟨w1.heap.size,0,none⟩) _ ((hK.later (hl1.alloc _)).rd (by simp[hT])) (QdW ((Blk.new w1 22 [.slice (some ⟨wr.heap.size,0,none⟩) s.size c1]).rd rfl) ⟨QdE (hr1.later (Qaa _ _)) hc1,trivial⟩)).mono ?_;rintro e w2 ⟨A2,rfl,hfr2,hl2⟩;have L2:=(hl1.alloc (.cells #[.slice (some ⟨wr.heap.size,0,none⟩) s.size c1] 22)).trans hl2)
    | (refine Qar rfl _ _ _ _ rfl 5 Tryz.underlying22 Qbu go (k*32) 32 32 30 ((Qdp secret ss k).map W8) (hO.later L2) A2 32 32 (D.map W8) hfr2.rd (QaC _) rfl rfl (by rw[QCE,hkl,hml];omega) ?_;intro w6 hb6 ho6;rw[QDE k 32,hst.out]at hb6))
   refine⟨⟨k+1,by omega,by go_num,(hK.later L2).only ho6 hgk,hb6,(hl.trans L2).only ho6 hg3⟩,by simp only[intOf];omega⟩
  ·have hkm:k=m:=by omega
   rw[hkm]at hO
   go_wp2
   go_ret
   exact⟨go,rfl,hg3,hO,hl⟩
end Go.Proofs.YtdhgpkdjdmlphaaGreat
