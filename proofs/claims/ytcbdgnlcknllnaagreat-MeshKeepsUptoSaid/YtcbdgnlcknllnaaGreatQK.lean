/-
  Lemmas for the last text of this claim (part 11 of 20).
-/
import Derived.ArgAppend
import Derived.BigQuiet
import Derived.BigRegion
import Derived.ChangeOld
import Derived.Deep.RegionWith
import Derived.DeepKeys4
import Derived.JoinedCond
import Derived.LaidMore
import Derived.Laws.CopyOwn
import Derived.Laws.Externs
import Derived.Laws.IdiomStrings
import Derived.Laws.Tables
import Derived.Lib.AppendStr
import Derived.Lib.AppendZerosOnto
import Derived.Lib.Mul64
import Derived.Lib.SlBytesConst
import Derived.LoopN
import Derived.Maps.OwnSet
import Derived.OpenShut
import Derived.OrdersHeld
import Derived.ProofKit
import Derived.Shelf.Spec.BitsCarry
import Derived.ShutString
import Derived.Test.YtcbdgnlcknllnaaGreatProg
import Derived.Test.YtcbdgnlcknllnaaGreatRows
import Derived.WalkKit
import Derived.WalkLawsBesides
import Derived.WalkSpells
import Derived.Test.YtcbdgnlcknllnaaGreatQE
import Derived.Test.YtcbdgnlcknllnaaGreatQJ
open Bool renaming eq_iff_iff → Qy7
open Int renaming natCast_mul → Qz1
open List renaming replicate → Qyl, getElem?_cons_succ → Qym, getElem?_cons_zero → Qyn, length_map → Qyo, getElem?_eq_getElem → Qyq, nil_append → Qyr, cons_append → Qys, getD_eq_getElem?_getD → Qyt, setIfInBounds_toArray → Qyu, set_cons_zero → Qyx, set_cons_succ → Qyy, length_append → Qyz, take_of_length_le → QyA, getElem?_eq_some_iff → QyB, getElem?_append_right → QyC, map_nil → QyD, getElem?_map → QyF, getElem?_append_left → QyG, map_cons → QyJ, append_assoc → QyK, length_replicate → QyO, take_succ_eq_append_getElem → QyR, append_nil → QyT, length_take → QyW, map_append → QyZ, eq_nil_of_length_eq_zero → Qy4, map_replicate → Qy5, take_append_drop → Qy9, take_append_of_le_length → Qza, drop_of_length_le → Qze, getElem_mem → Qzk, map_take → Qzp, take_zero → QzK, drop_append → QAi, take_left' → QAo
open Nat renaming le_refl → Qyv, zero_add → QyE, mod_lt → QyV, le_trans → QyX, le_mul_of_pos_right → Qzg, mul_comm → Qzt, add_sub_cancel_left → QzQ
open Option renaming toList_some → Qyp, map_some → Qzz
open UInt8 renaming ofInt → QzW
set_option linter.all false
namespace Go.Proofs.YtcbdgnlcknllnaaGreat
open Go.RowKit
def Qnn (key:List UInt8):List UInt8:=if 64<key.length then Qc0 key else key
def Qa5 (key:List UInt8):List UInt8:=Qnn key++Qyl (64-(Qnn key).length) 0
theorem QjX (key:List UInt8):(Qnn key).length≤64:=by
 unfold Qnn
 split
 ·rw[Qbz];omega
 ·omega
theorem QbZ (key:List UInt8):(Qa5 key).length=64:=by
 have:=QjX key
 simp[Qa5]
 omega
def QcH (k:List UInt8) (m:UInt8):List UInt8:=k.map (· ^^^ m)
theorem Qce (k:List UInt8) (m:UInt8):(QcH k m).length=k.length:=by simp[QcH]
def Qm6 (key bs:List UInt8):List UInt8:=Qc0 (QcH (Qa5 key) 54++bs)
def Qbk (key bs:List UInt8):List UInt8:=Qc0 (QcH (Qa5 key) 92++Qm6 key bs)
theorem QaI (key bs:List UInt8):(Qbk key bs).length=32:=Qbz _
theorem Qo6 (A B:Option Addr) (n m c d:Nat) (xs ys:List UInt8) (w:World) (hx:RdB w A n xs) (hy:RdB w B m ys) (hn:n≤140737488355328) (hm:m≤140737488355328):
 Calls Tryz.prog 174 #[.slice A n c,.slice B m d] w fun e w'=>∃k,e= .returned (.tuple #[.bool (decide (xs=ys)),.int .i64 k])∧Later w w':=by
 have lx:=hx.len
 have ly:=hy.len
 by_cases hnm:n=m
 ·subst hnm
  have hr:∀x:UInt8,(x=0↔xs=ys)→decide (xs=ys)=(x==0):=by
   intro x hb
   rw[Qy7,decide_eq_true_iff,beq_iff_eq]
   exact hb.symm
  have HR:=hid hr
  clear hr
  generalize decide (xs=ys)=R at *
  go_enter Tryz.func174,Tryz.ntmps174
  go_wp2
  go_loopw [6,7,16] (fun v6 v7 i wr=>∃(k:Nat) (x:UInt8),k≤n∧i= .int .i64 k∧v7= .int .i64 k∧v6=W8 x∧Later w wr∧Hid (x=0↔∀j,j<k→xs.getD j 0=ys.getD j 0)) (fun _ _ i _=>n-(intOf i).toNat)
  case atStart=>exact⟨0,0,by omega,rfl,rfl,rfl,Later.refl w,hid ⟨fun _ j hj=>absurd hj (by omega),fun _=>rfl⟩⟩
  case round=>
   obtain⟨k,x,hk,rfl,rfl,rfl,hl,he⟩:=hrel
   by_cases hlt:k<n
   ·obtain⟨b1,o1,rfl,hb1,hc1⟩:=hx.at_ (by omega)
    obtain⟨b2,o2,rfl,hb2,hc2⟩:=hy.at_ (by omega)
    have c1:wr.cell? ⟨b1,o1+k,none⟩=some (W8 (xs.getD k 0)):=(hl.below.cell (p:=⟨b1,o1+k,none⟩) hb1).trans (hc1 k hlt)
    have c2:wr.cell? ⟨b2,o2+k,none⟩=some (W8 (ys.getD k 0)):=(hl.below.cell (p:=⟨b2,o2+k,none⟩) hb2).trans (hc2 k hlt)
    clear hc1 hc2 hx hy
    generalize hX:xs.getD k 0=X at *
    generalize hY:ys.getD k 0=Y at *
    have HX:=hid hX
    have HY:=hid hY
    clear hX hY
    go_wp2
    refine Qad [] [0,1,2,3,4,5,6,7,8,9,10,11] [] (by as_aux_lemma=>kernel_rfl) (by as_aux_lemma=>kernel_rfl) (by intro _ _ d _ _ h;cases d<;>exact h) ?_
    simp only[Qaj,pick,Qym,Qyn,Qyp,Qys,Qyr]
    repeat (go_big_quiet_step (fail))
    refine wpQuiet_nil ?_
    go_wp2
    refine⟨⟨k+1,x ||| (X ^^^ Y),by omega,by go_num,by go_num,rfl,hl.drew,hid ?_⟩,by simp only[intOf];omega⟩
    have e:∀a b c:UInt8,(a ||| (b ^^^ c))=0↔a=0∧b=c:=by
     intro a b c
     rw[UInt8.or_eq_zero_iff,UInt8.xor_eq_zero_iff]
    rw[e,he.out]
    constructor
    ·rintro⟨h1,h2⟩ j hj
     by_cases hjk:j=k
     ·subst hjk
      rw[HX.out,HY.out,h2]
     ·exact h1 j (by omega)
    ·intro h
     exact⟨fun j hj=>h j (by omega),by rw[←HX.out,←HY.out];exact h k (by omega)⟩
   ·go_wp2
    go_ret2
    have hR:R=(x==0):=by
     refine HR.out x (he.out.trans ⟨fun h=>?_,fun h=>?_⟩)
     ·apply List.ext_getElem (by omega)
      intro j h1 h2
      have:=h j (by omega)
      rw[Qyt,Qyt,Qyq h1,Qyq h2]at this
      exact this
     ·intro j _
      rw[h]
    refine⟨k,?_,hl⟩
    rw[hR]
    rfl
 ·have hne:((n:Int) != (m:Int))=true:=by simp;omega
  have hf:decide (xs=ys)=false:=decide_eq_false (fun h=>hnm (by rw[←lx,←ly,h]))
  have HF:=hid hf
  clear hf
  generalize decide (xs=ys)=R at *
  go_enter Tryz.func174,Tryz.ntmps174
  go_wp2
  go_ret2
  exact⟨0,by rw[HF.out];rfl,Later.refl w⟩
theorem Qq9 (A B:Option Addr) (n m c d:Nat) (xs ys:List UInt8) (w:World) (hx:RdB w A n xs) (hy:RdB w B m ys) (hn:n≤140737488355328) (hm:m≤140737488355328):
 Calls Tryz.prog 160 #[.slice A n c,.slice B m d] w fun e w'=>e= .returned (.bool (decide (xs=ys)))∧Later w w':=by
 have h:=hid (Qo6 A B n m c d xs ys w hx hy hn hm)
 generalize decide (xs=ys)=R at *
 go_enter Tryz.func160,Tryz.ntmps160
 go_wp2_with (first|(go_at_call 174;refine h.out.mono ?_;rintro e w1 ⟨k,rfl,hl⟩))
 go_ret
 exact⟨rfl,hl⟩
theorem QhL (l:List UInt8) (h:l.length≤64):Qan (Qyl 64 (W8 0)) 0 ((l.map W8).take 64)=(l++Qyl (64-l.length) 0).map W8:=by
 rw[QyA (by simpa using h),Qan]
 simp only[QzK,Qyr,Qyo,QyE,List.drop_replicate,QyZ,Qy5]
set_option maxRecDepth 100000 in
set_option maxHeartbeats 1000000 in
theorem QnL (A:Option Addr) (n c:Nat) (key:List UInt8) (w:World) (hx:RdB w A n key) (hc:n≤c) (hn:n≤140737488355328):
 Calls Tryz.prog 181 #[.slice A n c] w fun e w'=>e= .returned (.agg ((Qa5 key).map W8).toArray)∧Later w w':=by
 have hl:=hx.len
 have hkl:=QbZ key
 by_cases h64:64<n
 ·have hk:Qa5 key=Qc0 key++Qyl (64-(Qc0 key).length) 0:=by rw[Qa5,Qnn,if_pos (by omega)]
  have hG:=Qbz key
  have hs:=fun A n c w hx=>QlK A n c [key] w hx
  rw[Qbv]at hs
  generalize Qc0 key=G at *
  generalize Qa5 key=K at *
  have HS:=hid hs
  have HK:=hid hk
  clear hs hk
  go_enter Tryz.func181,Tryz.ntmps181
  go_wp2_with (first
   | (go_at_call 185;refine (HS.out (some ⟨w.heap.size+2,0,none⟩) 1 1 _ ?hx (by omega) (by omega)).mono ?_
      (case hx=>exact Qe5 ((Blk.new' _ 25 [.slice A n c] (by simp)).rd rfl) ⟨Qc9 (hx.later (((Qaa _ _).alloc _).alloc _)) hc,trivial⟩)
      rintro e w1 ⟨rfl,hl1⟩)
   | (refine Qal rfl rfl 45 _ _ rfl w1.heap.size 0 45 (Qyl 32 (W8 0)) (G.map W8) ?b ?hx ?hy ?hi ?hf ?h1 ?_;(case hx=>rfl);(case hy=>rfl);(case hi=>rw[Qyo,hG];kernel_rfl);(case hf=>simp[hG]);(case h1=>exact QaC _);(case b=>exact Blk.new _ _ _);intro w2 hb2 ho2
      rw[Qap _ _ (by simp[hG])]at hb2))
  have z1:w.heap.size+3≤w1.heap.size:=by have:=hl1.size;simp at this;omega
  have hB2:Blk w2 w.heap.size 303 (Qyl 64 (W8 0)):=(((Blk.new w _ _).later (((Qaa _ _).alloc _).trans hl1)).later (Qaa _ _)).only ho2 (by omega)
  have hB3:Blk w2 (w.heap.size+1) 303 (Qyl 64 (W8 0)):=(((Blk.new' _ _ (Qyl 64 (W8 0)) (by simp)).later ((Qaa _ _).trans hl1)).later (Qaa _ _)).only ho2 (by omega)
  have hL2:Later w w2:=(((((Qaa w _).alloc _).alloc _).trans hl1).alloc _).only ho2 (by omega)
  refine Qad [] [0,1] [2] (by as_aux_lemma=>kernel_rfl) (by as_aux_lemma=>kernel_rfl) (by intro _ _ d _ _ h;cases d<;>exact h) ?_
  simp only[Qaj,pick,Qym,Qyn,Qyp,Qys,Qyr]
  repeat (go_big_quiet_step (fail))
  refine wpQuiet_nil ?_
  go_wp2_with (first
   | (refine Qaq rfl _ _ _ _ rfl 5 Tryz.underlying25 Qbo (w.heap.size+1) 0 64 64 303 (Qyl 64 (W8 0)) (hB3.later (Qab _)) (some ⟨w1.heap.size,0,none⟩) 32 32 (G.map W8) ((hb2.later (Qab _)).rd (by simp[hG])) (QaC _) rfl rfl (by simp) ?_;intro w4 hb4 ho4
      rw[QhL G (by omega),←HK.out]at hb4
      have hB4:=(hB2.later (Qab _)).only ho4 (by omega)
      have hL4:=(hL2.drew).only ho4 (by omega))
   | (refine Qau rfl 303 _ rfl (w.heap.size+1) 0 (K.map W8) ?hc ?hx _ Tryz.underlying303 rfl ?hi ?_;(case hx=>rfl);(case hi=>rw[Qyo,hkl];kernel_rfl);(case hc=>intro j v hv;rw[QyE];exact hb4.cellD j hv))
   | (refine Qal rfl rfl 303 _ _ rfl w.heap.size 0 303 (Qyl 64 (W8 0)) (K.map W8) ?b ?hx ?hy ?hi ?hf ?h1 ?_;(case hx=>rfl);(case hy=>rfl);(case hi=>rw[Qyo,hkl];kernel_rfl);(case hf=>simp[hkl]);(case h1=>exact QaC _);(case b=>exact hB4);intro w9 hb9 ho9))
  rw[Qap _ _ (by simp[hkl])]at hb9
  exact bodyPost_ret (QaK rfl _ _ _ _ (K.map W8) _ hb9 rfl Tryz.underlying303 rfl (by rw[Qyo,hkl];kernel_rfl)) rfl ⟨rfl,hL4.only ho9 (Qyv _)⟩
 ·have hk:Qa5 key=key++Qyl (64-key.length) 0:=by rw[Qa5,Qnn,if_neg (by omega)]
  generalize Qa5 key=K at *
  have HK:=hid hk
  clear hk
  go_enter Tryz.func181,Tryz.ntmps181
  go_wp2_with (first
   | (refine Qaq rfl _ _ _ _ rfl 5 Tryz.underlying25 Qbo (w.heap.size+1) 0 64 64 303 (Qyl 64 (W8 0)) (Blk.new' _ _ _ (by simp)) A n c (key.map W8) (RdB.later hx ((Qaa _ _).alloc _)) (QaC _) rfl rfl (by simp) ?_;intro w4 hb4 ho4
      rw[QhL key (by omega),←HK.out]at hb4
      have hB4:Blk w4 w.heap.size 303 (Qyl 64 (W8 0)):=((Blk.new w _ _).later (Qaa _ _)).only ho4 (by omega)
      have hL4:Later w w4:=((Qaa w _).alloc _).only ho4 (by omega))
   | (refine Qau rfl 303 _ rfl (w.heap.size+1) 0 (K.map W8) ?hc ?hx _ Tryz.underlying303 rfl ?hi ?_;(case hx=>rfl);(case hi=>rw[Qyo,hkl];kernel_rfl);(case hc=>intro j v hv;rw[QyE];exact hb4.cellD j hv))
   | (refine Qal rfl rfl 303 _ _ rfl w.heap.size 0 303 (Qyl 64 (W8 0)) (K.map W8) ?b ?hx ?hy ?hi ?hf ?h1 ?_;(case hx=>rfl);(case hy=>rfl);(case hi=>rw[Qyo,hkl];kernel_rfl);(case hf=>simp[hkl]);(case h1=>exact QaC _);(case b=>exact hB4);intro w9 hb9 ho9))
  rw[Qap _ _ (by simp[hkl])]at hb9
  exact bodyPost_ret (QaK rfl _ _ _ _ (K.map W8) _ hb9 rfl Tryz.underlying303 rfl (by rw[Qyo,hkl];kernel_rfl)) rfl ⟨rfl,hL4.only ho9 (Qyv _)⟩
set_option maxRecDepth 100000 in
set_option maxHeartbeats 1000000 in
theorem Qh2 (k:List UInt8) (m:UInt8) (w:World) (hk:k.length=64):
 Calls Tryz.prog 182 #[.agg (k.map W8).toArray,W8 m] w fun e w'=>∃A c,e= .returned (.slice A 64 c)∧OwnB w' w.heap.size A 64 c (QcH k m)∧Later w w':=by
 have hml:=Qce k m
 rw[hk]at hml
 have hg:∀j (hj:j<64),(k.map W8)[j]?=some (W8 (k.getD j 0))∧(QcH k m)[j]?=some (k.getD j 0 ^^^ m):=by
  intro j hj
  rw[Qyt,QyF,QcH,QyF,Qyq (by omega)]
  exact⟨rfl,rfl⟩
 generalize QcH k m=M at *
 have hkm:(k.map W8).length=64:=by simpa using hk
 have h1:=QaC k
 have HG:=hid hg
 clear hg
 generalize hkv:k.map W8=kv at *
 clear hkv
 go_enter Tryz.func182,Tryz.ntmps182
 go_wp2_with (first
  | (refine QaT rfl _ _ _ rfl 5 _ 1 Tryz.underlying25 QcG rfl _ _ _ _ 64 rfl rfl ?hL ?hC (by omega) (by omega) ?_;(case hL=>rfl);(case hC=>rfl);intro w1 hb1 hl1)
  | (refine Qau rfl 303 _ rfl w.heap.size 0 kv ?hc ?hx _ Tryz.underlying303 rfl ?hi ?_;(case hx=>rfl);(case hi=>rw[hkm];kernel_rfl);(case hc=>intro j v hv;rw[QyE];exact ((Blk.new w _ _).later hl1).cellD j hv)))
 have hfz:QgQ M 64 0=Qyl 64 0:=rfl
 have hb1':Blk w1 (w.heap.size+1) 5 ((QgQ M 64 0).map W8):=by
  rw[hfz,Qy5]
  have hb:=hb1
  simp only[World.size_alloc]at hb
  exact hb
 have hl1':Later w w1:=(Qaa _ _).trans hl1
 clear hb1 hl1 hfz
 go_loopw [10] (fun i wr=>∃j:Nat,j≤64∧i= .int .i64 j∧Later w wr∧Blk wr (w.heap.size+1) 5 ((QgQ M 64 j).map W8)) (fun i _=>64-(intOf i).toNat)
 case atStart=>exact⟨0,by omega,rfl,hl1',hb1'⟩
 case round=>
  clear hb1' hl1'
  obtain⟨j,hj,rfl,hl,hb⟩:=hrel
  by_cases hlt:j<64
  ·obtain⟨e1,e2⟩:=HG.out j hlt
   have hfl:=QjT M 64 j hml hj
   have HST:=hid (QmD M 64 j _ hml hlt e2)
   clear e2
   generalize k.getD j 0=x at *
   have hix:∀W',(Instr.index 303 (.agg kv.toArray) (.int .i64 (j:Int))).run Tryz.prog W'= .ok (W8 x) W':=fun W'=>Qdt Tryz.underlying303 Qbo Tryz.underlying5 rfl kv .i64 j (W8 x) hlt e1 W'
   go_wp2_with (first
    | (refine Qag rfl rfl _ _ _ rfl _ _ _ _ hb rfl ?hl rfl (by kernel_rfl) ?_;(case hl=>rw[Qyo,hfl];omega);intro v' w5 hv' hb5 ho5;simp[go_sem]at hv';subst hv'))
   go_roundw
   case rel=>
    refine⟨j+1,by omega,by go_num,hl.only ho5 (by omega),?_⟩
    rw[←HST.out,←Qcs]
    exact hb5
   case measure=>simp only[intOf];omega
  ·have hj':j=64:=by omega
   rw[hj',QpE M 64 hml]at hb
   go_wp2
   go_ret
   refine⟨_,_,rfl,?_,hl⟩
   have:=Qdj hb (show w.heap.size≤w.heap.size+1 by omega) (by simp[hml])
   rwa [Qyo,hml]at this
theorem QuX:Tryz.zeroCells307=(Qa0 Qem (Qyl 64 0) 0++Qyl 64 (W8 0)).toArray:=by kernel_rfl
theorem Qm9 (l z v:List Value) (n:Nat) (hl:l.length=n) (hz:z.length=v.length):Qan (l++z) n v=l++v:=by
 subst hl
 rw[Qan,QAo,Qze (by simp[hz]),QyT]
 rfl
theorem Qrj (K:List UInt8) (hK:K.length=64):List.foldl (fun (cs:Array Value) (x:Value×Nat)=>cs.setIfInBounds (73+x.snd) x.fst) Tryz.zeroCells307 (K.map W8).zipIdx=(Qa0 Qem (Qyl 64 0) 0++K.map W8).toArray:=by
 have hl:=QbC Qem (Qyl 64 0) 0 (by simp)
 have hk:(K.map W8).length=64:=by simpa using hK
 rw[QuX]
 have h:=QdV (K.map W8) 0 73 (Qa0 Qem (Qyl 64 0) 0++Qyl 64 (W8 0)) (by rw[Qyz,hl,hk];simp)
 rcases h with h|h
 ·rw[Qm9 _ _ _ 73 hl (by rw[hk];simp)]at h
  exact h
 ·omega
def TagAt (w:World) (g:Nat) (key bs:List UInt8):Prop:=HashAt w g 307 ((Qa5 key).map W8) (QcH (Qa5 key) 54++bs)
theorem HashAt.restD {w:World} {g:Nat} {t:TypeId} {rest:List Value} {bs:List UInt8} (h:HashAt w g t rest bs):∀(j:Nat) v,rest[j]?=some v→w.cell? ⟨g,73+j,none⟩=some v:=by
 obtain⟨st,op,h1,h2⟩:=h
 intro j v hv
 refine h2.cellD (73+j) ?_
 have hl:=QbC st op bs.length h1.len
 rw[QyC (by omega),hl,QzQ]
 exact hv
set_option maxRecDepth 100000 in
set_option maxHeartbeats 1000000 in
theorem Qiw (A:Option Addr) (n c:Nat) (key:List UInt8) (w:World) (hx:RdB w A n key) (hc:n≤c) (hn:n≤140737488355328):
 Calls Tryz.prog 177 #[.slice A n c] w fun e w'=>∃g,e= .returned (.pointer (some ⟨g,0,none⟩))∧w.heap.size≤g∧TagAt w' g key []∧Later w w':=by
 have hb:=QnL A n c key w hx hc hn
 have hkl:=QbZ key
 unfold TagAt
 rw[QyT]
 generalize Qa5 key=K at *
 have HB:=hid hb
 clear hb
 have hkm:(K.map W8).length=64:=by simpa using hkl
 go_enter Tryz.func177,Tryz.ntmps177
 go_wp2_with (first
  | (go_at_call 181;refine HB.out.mono ?_;rintro e w1 ⟨rfl,hl1⟩))
 rw[Qrj K hkl]
 have hH0:HashAt (w1.alloc (.cells (Qa0 Qem (Qyl 64 0) 0++K.map W8).toArray 307)) w1.heap.size 307 (K.map W8) []:=⟨Qem,Qyl 64 0,Qoj,Blk.new _ _ _⟩
 generalize hC:Qa0 Qem (Qyl 64 0) 0++K.map W8=C at *
 clear hC
 have L0:=hl1.alloc (.cells C.toArray 307)
 have hz:=hl1.size
 have hlt0:=hH0.lt
 generalize hW:w1.alloc (.cells C.toArray 307)=W at *
 clear hW
 generalize w1.heap.size=g at *
 have hH1:=hH0.later (Qab _)
 refine Qad [([0,1,2,3,4,5,6],7),([],8)] [] [9] (by as_aux_lemma=>kernel_rfl) (by as_aux_lemma=>kernel_rfl) (by intro _ _ d _ _ h;cases d<;>exact h) ?_
 simp only[Qaj,pick,Qym,Qyn,Qyp,Qys,Qyr]
 repeat (first|go_big_quiet_skip|(go_big_quiet_want;refine QaQ 303 _ rfl g 73 (K.map W8) ?hc ?hx _ Tryz.underlying303 rfl ?hi ?_;(case hx=>rfl);(case hi=>rw[hkm];kernel_rfl);(case hc=>rintro w' ⟨x,rfl⟩;exact (hH1.later ⟨x,rfl⟩).restD);simp only[Act.put,Qyu,Qyy,Qyx];go_big_quiet_on)|(go_big_quiet_step (fail)))
 refine wpQuiet_nil ?_
 go_wp2_with (go_at_call 182;refine (Qh2 K 54 _ hkl).mono ?_;rintro e w2 ⟨A2,c2,rfl,hown2,hl2⟩)
 try refine⟨by first|assumption|exact Qab _|exact Qaa _ _|exact Later.refl _,?_⟩
 try simp only[Qaj,pick,Qym,Qyn,Qyp,Qys,Qyr]
 repeat (go_big_quiet_step (fail))
 refine wpQuiet_nil ?_
 go_wp2
 try refine⟨by first|assumption|exact Qab _|exact Qaa _ _|exact Later.refl _,?_⟩
 try simp only[Qaj,pick,Qym,Qyn,Qyp,Qys,Qyr]
 repeat (go_big_quiet_step (fail))
 refine wpQuiet_nil ?_
 have hone:[QcH K 54].flatten=QcH K 54:=by simp
 have hml:=Qce K 54
 have HO:=hid hone
 clear hone
 generalize hM:QcH K 54=M at *
 have HM:=hid hM
 clear hM
 go_wp2_with (first
  | (go_at_call 178;refine (QgO g 307 (K.map W8) [] (some ⟨w2.heap.size,0,none⟩) 1 1 [M] _ ?hh ?hx (by omega) (by rw[HO.out];simp;omega)).mono ?_
     (case hh=>exact (hH1.later hl2).later (Qaa _ _))
     (case hx=>exact Qg3 ((Blk.new w2 25 [.slice A2 64 c2]).rd rfl) (Qq6 (by have:=hl2.size;simp at this;omega)) ⟨QqZ (hown2.later (Qaa _ _)) (by simpa using hlt0),trivial⟩)
     rintro e w3 ⟨rfl,hh3,ho3⟩
     rw[HO.out,Qyr]at hh3))
 go_ret
 exact⟨g,rfl,hz,by rw[HM.out];exact hh3,(((L0.trans (Qab _)).trans hl2).alloc _).only ho3 hz⟩
theorem Qp3 (key bs:List UInt8):Qbk key bs=Qc0 [QcH (Qa5 key) 92,Qm6 key bs].flatten:=by simp[Qbk]
set_option maxRecDepth 100000 in
set_option maxHeartbeats 1000000 in
theorem QmX (g:Nat) (key bs:List UInt8) (w:World) (hh:TagAt w g key bs) (hlen:bs.length≤2305843009213693000):
 Calls Tryz.prog 179 #[.pointer (some ⟨g,0,none⟩)] w fun e w'=>e= .returned (.agg ((Qbk key bs).map W8).toArray)∧Later w w':=by
 have hkl:=QbZ key
 have hml:=Qce (Qa5 key) 54
 unfold TagAt at hh
 have hs:=fun g t rest w hh=>Qlh g t rest (QcH (Qa5 key) 54++bs) w hh (by rw[Qyz,hml,hkl];omega)
 have hin:=Qbz (QcH (Qa5 key) 54++bs)
 have hT:=QaI key bs
 have hsum:=fun A n c w hx=>QlK A n c [QcH (Qa5 key) 92,Qm6 key bs] w hx
 rw[←Qp3]at hsum
 generalize Qbk key bs=T at *
 have hmk:(QcH (Qa5 key) 92).length=64:=by rw[Qce,hkl]
 have hmi:=QbZ key
 have hf:[QcH (Qa5 key) 92,Qm6 key bs].flatten.length=96:=by simp[hmk,Qm6,Qbz]
 unfold Qm6 at *
 generalize Qc0 (QcH (Qa5 key) 54++bs)=I at *
 generalize QcH (Qa5 key) 54++bs=X at *
 have hmm:=fun w=>Qh2 (Qa5 key) 92 w hkl
 generalize QcH (Qa5 key) 92=M at *
 generalize Qa5 key=K at *
 have HS:=hid hs
 have HSUM:=hid hsum
 have HF:=hid hf
 have HMM:=hid hmm
 clear hs hsum hf hmm
 have hkm:(K.map W8).length=64:=by simpa using hkl
 go_enter Tryz.func179,Tryz.ntmps179
 go_wp2_with (first
  | (go_at_call 184;refine (HS.out g 307 (K.map W8) _ (hh.later (Qaa _ _))).mono ?_;rintro e w1 ⟨rfl,hl1⟩)
  | (refine Qal rfl rfl 45 _ _ rfl w1.heap.size 0 45 (Qyl 32 (W8 0)) (I.map W8) ?b ?hx ?hy ?hi ?hf ?h1 ?_;(case hx=>rfl);(case hy=>rfl);(case hi=>rw[Qyo,hin];kernel_rfl);(case hf=>simp[hin]);(case h1=>exact QaC _);(case b=>exact Blk.new _ _ _);intro w2 hb2 ho2
     rw[Qap _ _ (by simp[hin])]at hb2))
 have z1:w.heap.size+1≤w1.heap.size:=by have:=hl1.size;simpa using this
 have hh2:=(((hh.later (Qaa _ _)).later hl1).later (Qaa _ _)).only ho2 (by have:=hh.lt;omega)
 have hR2:Blk w2 w.heap.size 45 (Qyl 32 (W8 0)):=(((Blk.new w _ _).later hl1).later (Qaa _ _)).only ho2 (by omega)
 have hL2:Later w w2:=(((Qaa w _).trans hl1).alloc _).only ho2 (by omega)
 clear hl1 ho2 hh
 generalize w1.heap.size=g1 at *
 have hh3:=hh2.later (Qab _)
 refine Qad [([0,1,2,3,5],4)] [] [6,7,8] (by as_aux_lemma=>kernel_rfl) (by as_aux_lemma=>kernel_rfl) (by intro _ _ d _ _ h;cases d<;>exact h) ?_
 simp only[Qaj,pick,Qym,Qyn,Qyp,Qys,Qyr]
 repeat (first|go_big_quiet_skip|(go_big_quiet_want;refine QaQ 303 _ rfl g 73 (K.map W8) ?hc ?hx _ Tryz.underlying303 rfl ?hi ?_;(case hx=>rfl);(case hi=>rw[hkm];kernel_rfl);(case hc=>rintro w' ⟨x,rfl⟩;exact (hh3.later ⟨x,rfl⟩).restD);simp only[Act.put,Qyu,Qyy,Qyx];go_big_quiet_on)|(go_big_quiet_step (fail)))
 refine wpQuiet_nil ?_
 go_wp2_with (go_at_call 182;refine (HMM.out _).mono ?_;rintro e w3 ⟨A3,c3,rfl,hown3,hl3⟩)
 try refine⟨by first|assumption|exact Qab _|exact Qaa _ _|exact Later.refl _,?_⟩
 try simp only[Qaj,pick,Qym,Qyn,Qyp,Qys,Qyr]
 repeat (go_big_quiet_step (fail))
 refine wpQuiet_nil ?_
 have hb3:=(hb2.later (Qab _)).later hl3
 have hR3:=(hR2.later (Qab _)).later hl3
 have hL3:=(hL2.drew).trans hl3
 go_wp2_with (first
  | (go_at_call 185;refine (HSUM.out (some ⟨w3.heap.size,0,none⟩) 2 2 _ ?hx (by omega) (by rw[HF.out];omega)).mono ?_
     (case hx=>exact Qe5 ((Blk.new w3 25 [.slice A3 64 c3,.slice (some ⟨g1,0,none⟩) 32 32]).rd rfl) ⟨Qc9 (RdB.later hown3.rd (Qaa _ _)) hown3.cap,Qc9 ((hb3.later (Qaa _ _)).rd (by simp[hin])) (by omega),trivial⟩)
     rintro e w4 ⟨rfl,hl4⟩)
  | (refine Qal rfl rfl 45 _ _ rfl w.heap.size 0 45 (Qyl 32 (W8 0)) (T.map W8) ?b ?hx ?hy ?hi ?hf ?h1 ?_;(case hx=>rfl);(case hy=>rfl);(case hi=>rw[Qyo,hT];kernel_rfl);(case hf=>simp[hT]);(case h1=>exact QaC _);(case b=>exact (hR3.later (Qaa _ _)).later hl4);intro w5 hb5 ho5
     rw[Qap _ _ (by simp[hT])]at hb5))
 exact bodyPost_ret (QaK rfl _ _ _ _ (T.map W8) _ hb5 rfl Tryz.underlying45 rfl (by rw[Qyo,hT];kernel_rfl)) rfl ⟨rfl,(((hL3.alloc _).trans hl4)).only ho5 (Qyv _)⟩
theorem TagAt.write {w:World} {g:Nat} {key bs x:List UInt8} (h:HashAt w g 307 ((Qa5 key).map W8) ((QcH (Qa5 key) 54++bs)++x)):TagAt w g key (bs++x):=by
 unfold TagAt
 rw[←QyK]
 exact h
set_option maxRecDepth 100000 in
set_option maxHeartbeats 1000000 in
theorem Qix (A B:Option Addr) (n c m d:Nat) (key:List UInt8) (ps:List (List UInt8)) (w:World) (hx:RdB w A n key) (hc:n≤c) (hn:n≤140737488355328) (hp:Parts w (fun _=>False) B m ps) (hm:m≤140737488355328) (hlen:ps.flatten.length≤2305843009213690000):
 Calls Tryz.prog 166 #[.slice A n c,.slice B m d] w fun e w'=>e= .returned (.agg ((Qbk key ps.flatten).map W8).toArray)∧Later w w':=by
 have hT:=QaI key ps.flatten
 have hs:=fun g w hh=>QmX g key ps.flatten w hh (by omega)
 have hw:=fun g bs n c w hh hx hm=>QgO g 307 ((Qa5 key).map W8) bs B n c ps w hh hx hm
 generalize Qbk key ps.flatten=T at *
 have hml:(QcH (Qa5 key) 54).length=64:=by rw[Qce,QbZ]
 have HS:=hid hs
 have HW:=hid hw
 clear hs hw
 go_enter Tryz.func166,Tryz.ntmps166
 go_wp2_with (first
  | (go_at_call 177;refine (Qiw A n c key _ (hx.later (Qaa _ _)) hc hn).mono ?_;rintro e w1 ⟨g,rfl,hg,hh1,hl1⟩)
  | (go_at_call 178;refine (HW.out g _ m d _ hh1 ?hx hm ?hl).mono ?_
     (case hx=>exact (hp.more (fun b hb=>.inr (by subst hb;simp at hg;omega))).later ((Qaa _ _).trans hl1))
     (case hl=>rw[QyT,hml];omega)
     rintro e w2 ⟨rfl,hh2,ho2⟩
     have ht2:=TagAt.write hh2
     rw[Qyr]at ht2)
  | (go_at_call 179;refine (HS.out g _ ht2).mono ?_;rintro e w3 ⟨rfl,hl3⟩)
  | (refine Qal rfl rfl 45 _ _ rfl w.heap.size 0 45 (Qyl 32 (W8 0)) (T.map W8) ?b ?hx ?hy ?hi ?hf ?h1 ?_;(case hx=>rfl);(case hy=>rfl);(case hi=>rw[Qyo,hT];kernel_rfl);(case hf=>simp[hT]);(case h1=>exact QaC _);(case b=>exact (((Blk.new w _ _).later hl1).only ho2 (by simp at hg;omega)).later hl3);intro w5 hb5 ho5
     rw[Qap _ _ (by simp[hT])]at hb5))
 exact bodyPost_ret (QaK rfl _ _ _ _ (T.map W8) _ hb5 rfl Tryz.underlying45 rfl (by rw[Qyo,hT];kernel_rfl)) rfl
  ⟨rfl,((((Qaa w _).trans hl1).only ho2 (by simp at hg;omega)).trans hl3).only ho5 (Qyv _)⟩
theorem QvW (G:List UInt8) (h:G.length=32):Qan (Qyl 16 (W8 0)) 0 ((G.map W8).take 16)=(G.take 16).map W8:=by
 rw[Qap _ _ (by simp[h]),Qzp]
set_option maxRecDepth 100000 in
theorem QkI (G:List UInt8) (hG:G.length=32) (w:World):
 Calls Tryz.prog 175 #[.agg (G.map W8).toArray] w fun e w'=>∃A c,e= .returned (.slice A 16 c)∧OwnB w' w.heap.size A 16 c (G.take 16)∧Later w w':=by
 have hb0:=Blk.new w 45 (G.map W8)
 have ht:=QvW G hG
 have hl16:(G.take 16).length=16:=by simp[hG]
 have hgl:(G.map W8).length=32:=by simp[hG]
 have h1:=QaC G
 generalize G.take 16=F at *
 generalize G.map W8=gl at *
 have HT:=hid ht
 clear ht
 go_enter Tryz.func175,Tryz.ntmps175
 go_wp2_with (first
  | (refine QaT rfl _ _ _ rfl 5 _ 1 Tryz.underlying25 QcG rfl _ _ _ _ 16 rfl rfl ?hL ?hC (by omega) (by omega) ?_;(case hL=>rfl);(case hC=>rfl);intro w1 hb1 hl1;simp only[World.size_alloc]at hb1)
  | (refine Qaq rfl _ _ _ _ rfl 5 Tryz.underlying25 Qbo (w.heap.size+1) 0 16 16 5 (Qyl 16 (W8 0)) hb1 (some ⟨w.heap.size,0,none⟩) 32 32 gl ((hb0.later hl1).rd hgl) h1 rfl rfl (by simp) ?_;intro w4 hb4 ho4
     rw[HT.out]at hb4))
 go_ret
 refine⟨_,_,rfl,?_,((Qaa w _).trans hl1).only ho4 (by omega)⟩
 have:=Qdj hb4 (show w.heap.size≤w.heap.size+1 by omega) (by simp[hl16])
 rwa [Qyo,hl16]at this
theorem QpZ (A B:Option Addr) (n c m d:Nat) (key:List UInt8) (ps:List (List UInt8)) (w:World) (hx:RdB w A n key) (hc:n≤c) (hn:n≤140737488355328) (hp:Parts w (fun _=>False) B m ps) (hm:m≤140737488355328) (hlen:ps.flatten.length≤2305843009213690000):
 Calls Tryz.prog 161 #[.slice A n c,.slice B m d] w fun e w'=>∃A' c',e= .returned (.slice A' 16 c')∧OwnB w' w.heap.size A' 16 c' ((Qbk key ps.flatten).take 16)∧Later w w':=by
 have hT:=QaI key ps.flatten
 have hs:=hid (Qix A B n c m d key ps w hx hc hn hp hm hlen)
 generalize Qbk key ps.flatten=T at *
 have hf:=hid (fun w=>QkI T hT w)
 go_enter Tryz.func161,Tryz.ntmps161
 go_wp2_with (first
  | (go_at_call 166;refine hs.out.mono ?_;rintro e w1 ⟨rfl,hl1⟩)
  | (go_at_call 175;refine (hf.out _).mono ?_;rintro e w2 ⟨A2,c2,rfl,hown2,hl2⟩))
 go_ret
 exact⟨A2,c2,rfl,hown2.mono hl1.size,hl1.trans hl2⟩
theorem Qo0 (A B C:Option Addr) (n c m d k e0:Nat) (key tag:List UInt8) (ps:List (List UInt8)) (w:World) (hx:RdB w A n key) (hc:n≤c) (hn:n≤140737488355328) (ht:RdB w C k tag) (hk:k≤140737488355328)
 (hp:Parts w (fun _=>False) B m ps) (hm:m≤140737488355328) (hlen:ps.flatten.length≤2305843009213690000):
 Calls Tryz.prog 140 #[.slice A n c,.slice C k e0,.slice B m d] w fun e w'=>e= .returned (.bool (decide ((Qbk key ps.flatten).take 16=tag)))∧Later w w':=by
 have hs:=hid (QpZ A B n c m d key ps w hx hc hn hp hm hlen)
 have hl16:((Qbk key ps.flatten).take 16).length=16:=by simp[QaI]
 generalize (Qbk key ps.flatten).take 16=S at *
 have hq:=hid (fun A c w hx hy=>Qq9 A C 16 k c e0 S tag w hx hy (by omega) hk)
 generalize decide (S=tag)=R at *
 go_enter Tryz.func140,Tryz.ntmps140
 go_wp2_with (first
  | (go_at_call 161;refine hs.out.mono ?_;rintro e w1 ⟨A1,c1,rfl,hown1,hl1⟩)
  | (go_at_call 160;refine (hq.out A1 c1 _ hown1.rd (ht.later hl1)).mono ?_;rintro e w2 ⟨rfl,hl2⟩))
 go_ret
 exact⟨rfl,hl1.trans hl2⟩
theorem Qs7 {w:World} {g n:Nat} {t:TypeId} {vs rest:List Value} (h:Blk w g t (vs++rest)) (hn:vs.length=n):Rd w (some ⟨g,0,none⟩) n vs:=
 ⟨hn,fun _=>⟨g,0,rfl,h.lt,fun j u hu=>by rw[QyE];exact h.cellD j (by rw[QyG (QyB.1 hu).1];exact hu)⟩⟩
def hkT (key info:List UInt8):Nat→List UInt8
 | 0=>[]
 | i+1=>Qbk key (hkT key info i++info++[QzW (i:Int)+1])
def hkO (key info:List UInt8):Nat→List UInt8
 | 0=>[]
 | i+1=>hkO key info i++hkT key info (i+1)
theorem Qmf (key info:List UInt8) (i:Nat):(hkT key info i).length≤32:=by
 cases i with
 | zero=>simp[hkT]
 | succ i=>rw[hkT,QaI];omega
theorem QmA (key info:List UInt8) (i:Nat):(hkO key info i).length=32*i:=by
 induction i with
 | zero=>rfl
 | succ i ih=>rw[hkO,Qyz,ih,hkT,QaI];omega
def expB (key info:List UInt8) (n:Nat):List UInt8:=(hkO key info ((n+31)/32)).take n
theorem Qg2 (key info:List UInt8) (n:Nat):(expB key info n).length=n:=by
 rw[expB,QyW,QmA]
 omega
set_option maxRecDepth 100000 in
set_option maxHeartbeats 1000000 in
theorem QkG (A B:Option Addr) (n c m d:Nat) (salt secret:List UInt8) (w:World) (hx:RdB w A n salt) (hc:n≤c) (hn:n≤140737488355328) (hy:RdB w B m secret) (hd:m≤d) (hm:m≤140737488355328):
 Calls Tryz.prog 158 #[.slice A n c,.slice B m d] w fun e w'=>e= .returned (.agg ((Qbk salt secret).map W8).toArray)∧Later w w':=by
 have hyl:=hy.len
 have hT:=QaI salt secret
 have hs:=fun B w h=>Qix A B n c 1 1 salt [secret] w h hc hn
 rw[Qbv]at hs
 generalize Qbk salt secret=T at *
 have HS:=hid hs
 clear hs
 go_enter Tryz.func158,Tryz.ntmps158
 go_wp2_with (first
  | (go_at_call 166;refine (HS.out (some ⟨w.heap.size+1,0,none⟩) _ (hx.later ((Qaa _ _).alloc _)) ?hp (by omega) (by omega)).mono ?_
     (case hp=>exact Qe5 ((Blk.new' _ 25 [.slice B m d] (by simp)).rd rfl) ⟨Qc9 (hy.later ((Qaa _ _).alloc _)) hd,trivial⟩)
     rintro e w1 ⟨rfl,hl1⟩)
  | (refine Qal rfl rfl 45 _ _ rfl w.heap.size 0 45 (Qyl 32 (W8 0)) (T.map W8) ?b ?hx ?hy ?hi ?hf ?h1 ?_;(case hx=>rfl);(case hy=>rfl);(case hi=>rw[Qyo,hT];kernel_rfl);(case hf=>simp[hT]);(case h1=>exact QaC _);(case b=>exact ((Blk.new w _ _).later (Qaa _ _)).later hl1);intro w6 hb6 ho6
     rw[Qap _ _ (by simp[hT])]at hb6))
 exact bodyPost_ret (QaK rfl _ _ _ _ (T.map W8) _ hb6 rfl Tryz.underlying45 rfl (by rw[Qyo,hT];kernel_rfl)) rfl ⟨rfl,(((Qaa w _).alloc _).trans hl1).only ho6 (Qyv _)⟩
set_option maxRecDepth 100000 in
set_option maxHeartbeats 1000000 in
theorem QeK (A:Option Addr) (n c:Nat) (ps:List (List UInt8)) (w:World) (hx:Parts w (fun _=>False) A n ps) (hm:n≤140737488355328) (hp:ps.flatten.length≤140737488355328):
 Calls Tryz.prog 70 #[.slice A n c] w fun e w'=>∃A' c',e= .returned (.slice A' ps.flatten.length c')∧OwnB w' w.heap.size A' ps.flatten.length c' ps.flatten∧Later w w':=by
 have hpl:=hx.len
 go_enter Tryz.func70,Tryz.ntmps70
 go_wp2
 go_loopw [3,11] (fun tot i wr=>∃k:Nat,k≤n∧i= .int .i64 k∧tot= .int .i64 ((ps.take k).flatten.length:Nat)∧Later w wr) (fun _ i _=>n-(intOf i).toNat)
 case atStart=>exact⟨0,by omega,rfl,rfl,Later.refl w⟩
 case round=>
  obtain⟨k,hk,rfl,rfl,hl⟩:=hrel
  by_cases hlt:k<n
  ·obtain⟨b,o,Ak,nk,ck,rfl,hb,hck,hcap,hrd,_⟩:=(hx.later hl).at_ hlt
   have hle:=QbX ps (k+1)
   have hql:=hrd.len
   have hs':(ps.take (k+1)).flatten=(ps.take k).flatten++ps.getD k []:=by rw[Qee ps k (by omega)];simp
   have hll:(ps.take (k+1)).flatten.length=(ps.take k).flatten.length+nk:=by rw[hs',Qyz,hql]
   have HL:=hid hll
   rw[hll]at hle
   clear hs' hll
   generalize (ps.take k).flatten.length=fl at *
   generalize ps.getD k []=q at *
   go_wp2
   refine⟨⟨k+1,by omega,by go_num,by rw[HL.out];go_num,hl⟩,by simp only[intOf];omega⟩
  ·have hkn:k=n:=by omega
   subst hkn
   have hfe:(ps.take k).flatten.length=ps.flatten.length:=by rw[QyA (by omega)]
   rw[hfe]
   have HF:=hid hfe
   clear hfe
   generalize hFl:ps.flatten.length=fl at *
   go_wp2_with (first
    | (refine QbU rfl _ _ _ rfl 5 _ 1 Tryz.underlying25 QcG rfl _ _ _ _ 0 fl rfl rfl ?hL ?hC (by omega) (by omega) (by omega) ?_;(case hL=>rfl);(case hC=>rfl);intro w1 hown1 hl1))
   go_loopw [6,24] (fun out i w2=>∃(j:Nat) (A':Option Addr) (m c':Nat),j≤k∧i= .int .i64 j∧out= .slice A' m c'∧OwnB w2 w.heap.size A' m c' (ps.take j).flatten∧Later w w2) (fun _ i _=>k-(intOf i).toNat)
   case atStart=>exact⟨0,_,_,_,by omega,rfl,rfl,QbR hown1 hl.size,hl.trans hl1⟩
   case round=>
    clear hown1 hl1
    obtain⟨j,A',m,c',hj,rfl,rfl,hown,hl2⟩:=hrel
    by_cases hlt2:j<k
    ·obtain⟨b,o,Ak,nk,ck,rfl,hb,hck,hcap,hrd,_⟩:=(hx.later hl2).at_ hlt2
     have hml:=hown.len
     have hle:=QbX ps (j+1)
     have hlen:=hrd.len
     have hs':(ps.take (j+1)).flatten=(ps.take j).flatten++ps.getD j []:=by rw[Qee ps j (by omega)];simp
     rw[hs',Qyz]at hle
     have HS:=hid hs'
     clear hs'
     generalize ps.getD j []=q at *
     generalize (ps.take j).flatten=F at *
     go_wp2_with (first
      | (refine QaJ rfl _ _ _ rfl 5 _ 1 Tryz.underlying25 QcG rfl w _ m _ hown hl2 Ak nk ck _ hrd (QaC _) rfl rfl (by omega) (by omega) ?_;intro A2 c2 w2' hown2 hl2' hg2 _))
     refine⟨⟨j+1,A2,m+nk,c2,by omega,by go_num,rfl,?_,hl2'⟩,by simp only[intOf];omega⟩
     rw[HS.out]
     exact QnV hown2 rfl rfl
    ·have hjk:j=k:=by omega
     rw[hjk,QyA (by omega)]at hown
     have hml:=hown.len
     rw[hFl]at hml
     subst hml
     go_wp2
     go_ret
     exact⟨_,_,by rw[hFl];rfl,by rw[hFl];exact hown,hl2⟩
def Front (w:World) (base:Nat) (A:Option Addr) (n:Nat) (bs:List UInt8):Prop:=
 bs.length=n∧((A=none∧n=0)∨∃g rest,A=some ⟨g,0,none⟩∧base≤g∧Blk w g 5 (bs.map W8++rest))
theorem Front.rd {w:World} {base:Nat} {A:Option Addr} {n:Nat} {bs:List UInt8} (h:Front w base A n bs):RdB w A n bs:=by
 obtain⟨h1,h2⟩:=h
 rcases h2 with ⟨rfl,rfl⟩|⟨g,rest,rfl,_,hb⟩
 ·obtain rfl:bs=[]:=Qy4 h1
  exact QiL w
 ·exact Qs7 hb (by simpa using h1)
theorem Front.later {w w':World} {base:Nat} {A:Option Addr} {n:Nat} {bs:List UInt8} (h:Front w base A n bs) (hl:Later w w'):Front w' base A n bs:=by
 obtain⟨h1,h2⟩:=h
 exact⟨h1,h2.imp id fun ⟨g,rest,e,hb,hk⟩=>⟨g,rest,e,hb,hk.later hl⟩⟩
theorem QpW {w:World} {base:Nat} {A:Option Addr} {n c m:Nat} {bs:List UInt8} (h:OwnB w base A n c bs) (hm:m≤n):Front w base A m (bs.take m):=by
 have hl:=h.len
 refine⟨by rw[QyW];omega,?_⟩
 rcases QpG h with ⟨rfl,rfl⟩|⟨g,rest,rfl,hb,hk,_⟩
 ·exact .inl ⟨rfl,by omega⟩
 ·refine .inr ⟨g,(bs.drop m).map W8++rest,rfl,hb,?_⟩
  rw[←QyK,←QyZ,Qy9]
  exact hk
theorem QvP:(45:TypeId)≠5:=by decide
def LastAt (w:World) (v:Value) (k:Nat) (T:List UInt8):Prop:=
 (k=0∧v= .slice none 0 0∧T=[])∨∃g,0<k∧v= .slice (some ⟨g,0,none⟩) 32 32∧T.length=32∧Blk w g 45 (T.map W8)
theorem LastAt.rd {w:World} {v:Value} {k:Nat} {T:List UInt8} (h:LastAt w v k T):∃A n c,v= .slice A n c∧n≤c∧RdB w A n T:=by
 rcases h with ⟨_,rfl,rfl⟩|⟨g,_,rfl,hl,hb⟩
 ·exact⟨none,0,0,rfl,Qyv _,QiL w⟩
 ·exact⟨_,32,32,rfl,Qyv _,hb.rd (by simpa using hl)⟩
theorem Qhs (a b c:List UInt8):[a,b,c].flatten=a++b++c:=by simp
set_option maxRecDepth 100000 in
set_option maxHeartbeats 2000000 in
theorem QoS (A B:Option Addr) (n c m d:Nat) (N:Nat) (key:List UInt8) (ps:List (List UInt8)) (w:World) (hx:RdB w A n key) (hc:n≤c) (hn:n≤140737488355328) (hp:Parts w (fun _=>False) B m ps) (hm:m≤140737488355328) (hlen:ps.flatten.length≤70368744177664) (hN:N≤8160):
 Calls Tryz.prog 159 #[.slice A n c,.int .i64 N,.slice B m d] w fun e w'=>∃A',e= .returned (.tuple #[.slice A' N N,.int .i64 0])∧Front w' w.heap.size A' N (expB key ps.flatten N)∧Later w w':=by
 have hj:=hid (QeK B m d ps w hp hm (by omega))
 generalize ps.flatten=F at *
 generalize hFl:F.length=fl at *
 go_enter Tryz.func159,Tryz.ntmps159
 go_wp2_with (first
  | (go_at_call 70;refine hj.out.mono ?_;rintro e w1 ⟨A1,c1,rfl,hown1,hl1⟩)
  | (refine QbU rfl _ _ _ rfl 5 _ 1 Tryz.underlying25 QcG rfl _ _ _ _ 0 (N+32) rfl rfl ?hL ?hC (by omega) (by omega) (by omega) ?_;(case hL=>rfl);(case hC=>go_num);intro w2 hown2 hl2))
 have hown2':OwnB w2 w1.heap.size (some ⟨w1.heap.size,0,none⟩) 0 (N+32) []:=hown2
 have hlt1:=Qjj hown1
 have hcap1:=hown1.cap
 go_loopw [9,10,11] (fun out last i wr=>∃(k:Nat) (A9:Option Addr) (c9:Nat),i= .int .i64 ((k:Int)+1)∧(k=0∨32*(k-1)<N)∧out= .slice A9 (32*k) c9∧LastAt wr last k (hkT key F k)∧OwnB wr w1.heap.size A9 (32*k) c9 (hkO key F k)∧Later w1 wr) (fun _ _ i _=>8200-32*(intOf i).toNat)
 case atStart=>exact⟨0,_,_,rfl,.inl rfl,rfl,.inl ⟨rfl,rfl,rfl⟩,hown2',hl2⟩
 case round=>
  clear hown2 hown2' hl2
  obtain⟨k,A9,c9,rfl,hkN,rfl,hlast,hown,hl⟩:=hrel
  have hcap9:=hown.cap
  by_cases hlt:32*k<N
  ·obtain⟨A10,l10,c10,rfl,hc10,hr10⟩:=hlast.rd
   have hkl:=Qmf key F k
   have hl10:=hr10.len
   have hT:(hkT key F (k+1)).length=32:=by rw[hkT,QaI]
   have ht:=fun B w h1 h2=>Qix A B n c 3 3 key [hkT key F k,F,[QzW (k:Int)+1]] w h1 hc hn h2
   have he:Qbk key [hkT key F k,F,[QzW (k:Int)+1]].flatten=hkT key F (k+1):=by rw[Qhs,hkT]
   rw[he,Qhs]at ht
   have hfl:(hkT key F k++F++[QzW (k:Int)+1]).length≤70368744177700:=by simp;omega
   have ho':hkO key F (k+1)=hkO key F k++hkT key F (k+1):=rfl
   have HT:=hid ht
   have HO:=hid ho'
   clear ht he ho'
   generalize hT1:hkT key F (k+1)=T at *
   generalize hkT key F k=Tk at *
   generalize hkO key F k=O at *
   have HT1:=hid hT1
   clear hT1
   have hltN:((32*k:Nat):Int)<(N:Int):=by omega
   go_wp2_with (first
    | (go_at_call 166;refine (HT.out (some ⟨wr.heap.size+1,0,none⟩) _ (hx.later ((hl1.trans hl).trans ((Qaa _ _).alloc _))) ?hp (by omega) (by omega)).mono ?_
       (case hp=>exact Qe5 ((Blk.new' _ 25 [.slice A10 l10 c10,.slice A1 fl c1,.slice (some ⟨wr.heap.size,0,none⟩) 1 1] (by simp)).rd rfl) ⟨Qc9 (hr10.later ((Qaa _ _).alloc _)) hc10,Qc9 ((hown1.later hl).later ((Qaa _ _).alloc _)).rd hcap1,Qc9 (((Blk.new wr 5 [W8 (QzW (k:Int)+1)]).later (Qaa _ _)).rd rfl) (by omega),trivial⟩)
       rintro e w3 ⟨rfl,hl3⟩)
    | (refine Qal rfl rfl 45 _ _ rfl w3.heap.size 0 45 (Qyl 32 (W8 0)) (T.map W8) ?bk ?hx ?hy ?hi ?hf ?h1 ?_;(case hx=>rfl);(case hy=>rfl);(case hi=>rw[Qyo,hT];kernel_rfl);(case hf=>simp[hT]);(case h1=>exact QaC _);(case bk=>exact Blk.new _ _ _);intro w4 hb4 ho4
       rw[Qap _ _ (by simp[hT])]at hb4
       have L3:=((Qaa wr _).alloc _).trans hl3
       have hown4:=QfT (Qay (Qay hown L3) (Qaa _ _)) ho4 (fun b hb=>by have:=Qjj hown b hb;have:=L3.size;omega)
       have hl4:=((hl.trans L3).alloc _).only ho4 (by have:=(hl.trans L3).size;omega))
    | (refine QaJ rfl _ _ _ rfl 5 _ 1 Tryz.underlying25 QcG rfl w1 _ (32*k) _ hown4 hl4 (some ⟨w3.heap.size,0,none⟩) 32 32 _ (hb4.rd (by simp[hT])) (QaC _) rfl rfl (by omega) (by omega) ?_;intro A5 c5 w5 hown5 hl5 hg5 _
       have hb5:=QgU hb4 hown4 QvP hg5
       have hown5':=QnV hown5 rfl (show 32*k+32=32*(k+1) by omega)))
   refine⟨⟨k+1,A5,c5,by go_num,.inr (by omega),by rw[show 32*k+32=32*(k+1) by omega],?_,?_,hl5⟩,by simp only[intOf];omega⟩
   ·exact .inr ⟨w3.heap.size,by omega,rfl,by rw[HT1.out];exact hT,by rw[HT1.out];exact hb5⟩
   ·rw[HO.out]
    exact hown5'
  ·have hk:k=(N+31)/32:=by omega
   have hltN: ¬((32*k:Nat):Int)<(N:Int):=by omega
   have hNc:N≤c9:=by omega
   go_wp2
   go_ret2
   refine⟨A9,rfl,?_,hl1.trans hl⟩
   rw[expB,←hk]
   have:=QpW hown (m:=N) (by omega)
   exact⟨this.1,this.2.imp id fun ⟨g,rest,e,hb,hk⟩=>⟨g,rest,e,QyX hl1.size hb,hk⟩⟩
theorem QpV (A B:Option Addr) (n c m d:Nat) (I:Int) (N:Nat) (hI:I=(N:Int)) (key:List UInt8) (ps:List (List UInt8)) (w:World) (hx:RdB w A n key) (hc:n≤c) (hn:n≤140737488355328) (hp:Parts w (fun _=>False) B m ps) (hm:m≤140737488355328) (hlen:ps.flatten.length≤70368744177664) (hN:N≤8160):
 Calls Tryz.prog 159 #[.slice A n c,.int .i64 I,.slice B m d] w fun e w'=>∃A',e= .returned (.tuple #[.slice A' N N,.int .i64 0])∧Front w' w.heap.size A' N (expB key ps.flatten N)∧Later w w':=by
 subst hI
 exact QoS A B n c m d N key ps w hx hc hn hp hm hlen hN
theorem Qt0:(Tryz.prog.info? 45).map (fun i=>(i.zero,i.size,i.bytes))=some (some (.agg (Qyl 32 (W8 0)).toArray),32,32):=by kernel_rfl
theorem Qqm (m n:Nat) (v:Value) (hm:0<m):madeCells (Qyl m v).toArray n=(Qyl n v).toArray:=by
 apply Array.ext
 ·simp[madeCells]
 ·intro i h1 h2
  simp only[madeCells,Array.getElem_map,Array.getElem_range,List.getElem_toArray,List.getElem_replicate,List.size_toArray,QyO]
  have:i%m<m:=QyV _ hm
  simp[this]
section
variable {P:Program} {ops:Array Oper} {rest:List Oper} {o:Oper} {a:Act} {w:World} {Q:Exit→Act→World→Prop}
theorem Qgi (hgd:o.guard=none) (l c:Operand) (t:TypeId) (ho:o.op=Op.makeSlice t l c) (e:TypeId) (v:Value) (m bytes:Nat) (ht:P.underlying t=some (.slice e))
 (hinfo:(P.info? e).map (fun i=>(i.zero,i.size,i.bytes))=some (some (.agg (Qyl m v).toArray),m,bytes)) (hm:0<m) (kl kc:IntKind) (L C:Int) (n:Nat) (hl:a.eval l= .int kl L) (hc:a.eval c= .int kc C) (hL:L=(n:Int)) (hC:C=(n:Int))
 (hby:0<bytes) (hsz:n*bytes≤140737488355328) (h:∀w',Blk w' w.heap.size e (Qyl (n*m) v)→Later w w'→wpList P ops Q rest (a.put o.dst (.slice (some ⟨w.heap.size,0,none⟩) n n)) w'):
 wpList P ops Q (o :: rest) a w:=by
 cases hq:P.info? e with
 | none=>simp[hq]at hinfo
 | some i=>
   simp only[hq,Qzz,Option.some.injEq,Prod.mk.injEq]at hinfo
   obtain⟨hz,hsize,hbytes⟩:=hinfo
   have hn:n≤140737488355328:=QyX (Qzg _ hby) hsz
   refine wpList_plain hgd fun K hK=>?_
   have hb:((i.bytes:Int)*(n:Int))≤281474976710656:=by
    rw[hbytes,←Qz1,Qzt]
    omega
   have hr:=run_make (P:=P) w t e i _ ht hq hz kl kc n n (by omega) (Int.le_refl _) hb (by omega)
   have hcells:(Value.agg (Qyl m v).toArray).cells=(Qyl m v).toArray:=rfl
   simp only[Int.toNat_natCast,hsize,hcells,Qqm m _ v hm]at hr
   subst hL
   subst hC
   unfold Oper.wp
   simp only[execOp,ho,hl,hc,Sem.run_bind,hr,Result.andThen_ok,Sem.run_pure]
   exact hK _ _ (h _ (Blk.new w e _) (Qaa _ _))
end
def QdA:List UInt8:=[115,104,97,108,108,111,116]
def derB (secret:List UInt8) (s:ByteArray):List UInt8:=expB (Qbk QdA secret) (strB s) 32
theorem QaW (secret:List UInt8) (s:ByteArray):(derB secret s).length=32:=Qg2 _ _ _
def Strs (w:World) (A:Option Addr) (n:Nat) (ss:List ByteArray):Prop:=Rd w A n (ss.map Value.string)
theorem Strs.at_ {w:World} {A:Option Addr} {n:Nat} {ss:List ByteArray} (h:Strs w A n ss) {k:Nat} (hk:k<n):
 ∃b o,A=some ⟨b,o,none⟩∧b<w.heap.size∧w.cell? ⟨b,o+k,none⟩=some (.string (ss.getD k .empty)):=by
 have hl:ss.length=n:=by simpa using h.1
 obtain⟨b,o,rfl,hb,hc⟩:=h.2 (by omega)
 refine⟨b,o,rfl,hb,hc k _ ?_⟩
 rw[QyF,Qyt,Qyq (by omega)]
 rfl
theorem Strs.later {w w':World} {A:Option Addr} {n:Nat} {ss:List ByteArray} (h:Strs w A n ss) (hl:Later w w'):Strs w' A n ss:=Rd.later h hl
def Qco (secret:List UInt8) (ss:List ByteArray) (k:Nat):List UInt8:=((ss.take k).map (derB secret)).flatten++Qyl (32*(ss.length-k)) 0
theorem QfA (secret:List UInt8) (ss:List ByteArray) (k:Nat) (h:k≤ss.length):((ss.take k).map (derB secret)).flatten.length=32*k:=by
 induction k with
 | zero=>simp
 | succ k ih=>
   rw[QyR (by omega),QyZ,List.flatten_append,Qyz,ih (by omega)]
   simp[QaW]
   omega
theorem Qih (secret:List UInt8) (ss:List ByteArray) (k:Nat) (h:k≤ss.length):(Qco secret ss k).length=32*ss.length:=by
 rw[Qco,Qyz,QfA _ _ _ h,QyO]
 omega
theorem Qj9 (secret:List UInt8) (ss:List ByteArray) (k:Nat) (h:k<ss.length):Qan ((Qco secret ss k).map W8) (32*k) (((derB secret (ss.getD k .empty)).map W8).take 32)=(Qco secret ss (k+1)).map W8:=by
 have h1:=QfA secret ss k (by omega)
 have h2:=QaW secret (ss.getD k .empty)
 have hs:ss.getD k .empty=ss[k]:=by rw[Qyt,Qyq h];rfl
 rw[QyA (by rw[Qyo,h2];omega),Qan,Qco,QyZ,Qza (by rw[Qyo,h1];omega),QyA (by rw[Qyo,h1];omega),
  QAi,Qze (by rw[Qyo,h1,Qyo,h2];omega),Qyr,Qco,QyR h,hs]
 simp only[QyZ,List.flatten_append,QyJ,QyD,List.flatten_cons,List.flatten_nil,QyT,QyK,Qy5,List.drop_replicate,Qyo]
 rw[←hs,h2,h1,show 32*(ss.length-k)-(32*k+32-32*k)=32*(ss.length-(k+1)) by omega]
set_option maxRecDepth 100000 in
set_option maxHeartbeats 2000000 in
theorem Qhp (A B:Option Addr) (n c m d:Nat) (secret:List UInt8) (ss:List ByteArray) (w:World) (hx:RdB w A n secret) (hc:n≤c) (hn:n≤35184372088832) (hb:Strs w B m ss) (hm0:0<m) (hm:m≤1048576) (hs:∀s∈ss,s.size≤1048576):
 Calls Tryz.prog 139 #[.slice A n c,.slice B m d] w fun e w'=>∃g,e= .returned (.slice (some ⟨g,0,none⟩) m m)∧w.heap.size≤g∧Blk w' g 45 ((Qco secret ss m).map W8)∧Later w w':=by
 have hml:ss.length=m:=by simpa using hb.1
 have hT:=QaI QdA secret
 have ht:=fun B w h1 h2=>QkG B A 7 7 n c QdA secret w h1 (by omega) (by omega) h2 hc (by omega)
 have he:=fun A B w (s:ByteArray) h1 h2 (h3:s.size≤1048576)=>QpV A B 32 32 1 1 32 32 rfl (Qbk QdA secret) [strB s] w h1 (by omega) (by omega) h2 (by omega) (by rw[Qbv,QgP];omega) (by omega)
 have hd:∀s,expB (Qbk QdA secret) [strB s].flatten 32=derB secret s:=fun s=>by rw[Qbv];rfl
 simp only[hd]at he
 generalize Qbk QdA secret=T at *
 have HT:=hid ht
 have HE:=hid he
 have HS:=hid hs
 clear ht he hd hs
 go_enter Tryz.func139,Tryz.ntmps139
 go_wp2_with (first
  | (refine Qe3 rfl _ _ rfl 5 Tryz.underlying25 Tryz.underlying5 w (QdA.map W8) rfl w.heap.size 7 7 rfl rfl ?_;intro w1 hl1 hr1 hz1)
  | (go_at_call 158;refine (HT.out _ _ hr1 (hx.later hl1)).mono ?_;rintro e w2 ⟨rfl,hl2⟩)
  | (refine Qal rfl rfl 45 _ _ rfl w2.heap.size 0 45 (Qyl 32 (W8 0)) (T.map W8) ?bk ?hx ?hy ?hi ?hf ?h1 ?_;(case hx=>rfl);(case hy=>rfl);(case hi=>rw[Qyo,hT];kernel_rfl);(case hf=>simp[hT]);(case h1=>exact QaC _);(case bk=>exact Blk.new _ _ _);intro w3 hb3 ho3;rw[Qap _ _ (by simp[hT])]at hb3)
  | (refine Qgi rfl _ _ _ rfl 45 (W8 0) 32 32 Tryz.underlying258 Qt0 (by omega) _ _ _ _ m rfl rfl ?hL ?hC (by omega) (by omega) ?_;(case hL=>rfl);(case hC=>rfl);intro w4 hb4 hl4))
 have L2:=hl1.trans hl2
 have L3:Later w w3:=(L2.alloc _).only ho3 L2.size
 have hk4:=hb3.later hl4
 have L4:=L3.trans hl4
 have hk0:(Qco secret ss 0).map W8=Qyl (m*32) (W8 0):=by rw[Qco];simp only[QzK,QyD,List.flatten_nil,Qyr,Nat.sub_zero,Qy5,hml,Qzt]
 rw[←hk0]at hb4
 have z2:=L2.size
 have z3:=hb3.lt
 have hgk:w2.heap.size≠w3.heap.size:=by omega
 have hg3:=L3.size
 clear hk0 hl1 hl2 hl4 hb3 ho3 L2 L3 hr1 hz1
 generalize w2.heap.size=gk at *
 generalize w3.heap.size=go at *
 go_loopw [23] (fun i wr=>∃k:Nat,k≤m∧i= .int .i64 k∧Blk wr gk 45 (T.map W8)∧Blk wr go 45 ((Qco secret ss k).map W8)∧Later w wr) (fun i _=>m-(intOf i).toNat)
 case atStart=>exact⟨0,by omega,rfl,hk4,hb4,L4⟩
 case round=>
  clear hk4 hb4 L4
  obtain⟨k,hk,rfl,hK,hO,hl⟩:=hrel
  by_cases hlt:k<m
  ·obtain⟨b,o,rfl,hbb,hck⟩:=(hb.later hl).at_ hlt
   have hsz:=HS.out (ss.getD k .empty) (by rw[Qyt,Qyq (by omega)];exact Qzk _)
   have hkl:=Qih secret ss k (by omega)
   have hst:=hid (Qj9 secret ss k (by omega))
   have hdl:=QaW secret (ss.getD k .empty)
   have hsl:=QgP (ss.getD k .empty)
   generalize ss.getD k .empty=s at *
   have hE:=hid (fun A B w h1 h2=>HE.out A B w s h1 h2 hsz)
   generalize derB secret s=D at *
   go_wp2_with (first
    | (refine QeN rfl _ _ _ rfl 5 Tryz.underlying9 Tryz.underlying25 Tryz.underlying5 s rfl ?_;intro c1 w1 hl1 hr1 hc1 hz1)
    | (go_at_call 159;refine (hE.out (some ⟨gk,0,none⟩) (some ⟨w1.heap.size,0,none⟩) _ ((hK.later (hl1.alloc _)).rd (by simp[hT])) (Qe5 ((Blk.new w1 25 [.slice (some ⟨wr.heap.size,0,none⟩) s.size c1]).rd rfl) ⟨Qc9 (hr1.later (Qaa _ _)) hc1,trivial⟩)).mono ?_;rintro e w2 ⟨A2,rfl,hfr2,hl2⟩;have L2:=(hl1.alloc (.cells #[.slice (some ⟨wr.heap.size,0,none⟩) s.size c1] 25)).trans hl2)
    | (refine Qaq rfl _ _ _ _ rfl 5 Tryz.underlying25 Qbo go (k*32) 32 32 45 ((Qco secret ss k).map W8) (hO.later L2) A2 32 32 (D.map W8) hfr2.rd (QaC _) rfl rfl (by rw[Qyo,hkl,hml];omega) ?_;intro w6 hb6 ho6;rw[Qzt k 32,hst.out]at hb6))
   refine⟨⟨k+1,by omega,by go_num,(hK.later L2).only ho6 hgk,hb6,(hl.trans L2).only ho6 hg3⟩,by simp only[intOf];omega⟩
  ·have hkm:k=m:=by omega
   rw[hkm]at hO
   go_wp2
   go_ret
   exact⟨go,rfl,hg3,hO,hl⟩
end Go.Proofs.YtcbdgnlcknllnaaGreat
