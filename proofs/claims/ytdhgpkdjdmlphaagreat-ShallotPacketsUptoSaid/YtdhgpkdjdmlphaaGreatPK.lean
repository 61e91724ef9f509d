/-
  Lemmas for the last text of this claim (part 11 of 20).
-/
import Derived.ArgAppend
import Derived.BigQuiet
import Derived.BigRegion
import Derived.ChangeOld
import Derived.Deep.RegionWith
import Derived.DeepKeys4
import Derived.JoinedCond
import Derived.LaidMore
import Derived.Laws.BytesArg
import Derived.Laws.CopyOwn
import Derived.Laws.Externs
import Derived.Laws.IdiomStrings
import Derived.Laws.Tables
import Derived.Lib.AppendStr
import Derived.Lib.AppendZerosOnto
import Derived.Lib.Mul64
import Derived.Lib.SlBytesConst
import Derived.LoopN
import Derived.Maps.OwnSet
import Derived.OpenShut
import Derived.OrdersHeld
import Derived.ProofKit
import Derived.Shelf.Spec.BitsCarry
import Derived.ShutString
import Derived.Test.YtdhgpkdjdmlphaaGreatProg
import Derived.Test.YtdhgpkdjdmlphaaGreatRows
import Derived.WalkKit
import Derived.WalkLawsBesides
import Derived.WalkSpells
import Derived.Test.YtdhgpkdjdmlphaaGreatPD
import Derived.Test.YtdhgpkdjdmlphaaGreatPJ
open Bool renaming eq_iff_iff → Qy7
open Int renaming natCast_mul → QzS, toNat_natCast → QAh
open List renaming replicate → Qym, length_map → Qyn, getElem?_cons_succ → Qyo, getElem?_cons_zero → Qyp, getElem?_eq_getElem → Qyq, getD_eq_getElem?_getD → Qys, nil_append → Qyt, cons_append → Qyu, length_append → Qyv, take_of_length_le → Qyx, length_replicate → Qyy, getElem?_append_right → Qyz, getElem?_eq_some_iff → QyC, setIfInBounds_toArray → QyD, append_assoc → QyE, getElem?_map → QyF, getElem?_append_left → QyH, set_cons_zero → QyI, length_take → QyL, set_cons_succ → QyM, take_succ_eq_append_getElem → QyQ, map_cons → QyT, map_nil → QyU, take_append_drop → QyV, append_nil → QyZ, map_replicate → Qy4, eq_nil_of_length_eq_zero → Qy5, map_append → Qy6, take_append_of_le_length → Qzf, drop_of_length_le → Qzm, flatten_cons → Qzz, getElem_mem → QzH, map_take → QzZ, take_left' → QAj, take_zero → QAs
open Nat renaming le_refl → Qyw, mod_lt → QyS, zero_add → QyY, le_trans → Qy3, le_mul_of_pos_right → Qzi, mul_comm → Qzj
open Option renaming toList_some → Qyr, map_some → QzW
open UInt8 renaming ofInt → Qy1
set_option linter.all false
namespace Go.Proofs.YtdhgpkdjdmlphaaGreat
open Go.RowKit
def Qm6 (key:List UInt8):List UInt8:=if 64<key.length then Qdh key else key
def Qa4 (key:List UInt8):List UInt8:=Qm6 key++Qym (64-(Qm6 key).length) 0
theorem Qjx (key:List UInt8):(Qm6 key).length≤64:=by
 unfold Qm6
 split
 ·rw[QbF];omega
 ·omega
theorem Qb9 (key:List UInt8):(Qa4 key).length=64:=by
 have:=Qjx key
 simp[Qa4]
 omega
def QcQ (k:List UInt8) (m:UInt8):List UInt8:=k.map (· ^^^ m)
theorem Qcr (k:List UInt8) (m:UInt8):(QcQ k m).length=k.length:=by simp[QcQ]
def QmD (key bs:List UInt8):List UInt8:=Qdh (QcQ (Qa4 key) 54++bs)
def Qbb (key bs:List UInt8):List UInt8:=Qdh (QcQ (Qa4 key) 92++QmD key bs)
theorem Qax (key bs:List UInt8):(Qbb key bs).length=32:=QbF _
theorem Qqa (A B:Option Addr) (n m c d:Nat) (xs ys:List UInt8) (w:World) (hx:RdB w A n xs) (hy:RdB w B m ys) (hn:n≤140737488355328) (hm:m≤140737488355328):
 Calls Tryz.prog 129 #[.slice A n c,.slice B m d] w fun e w'=>∃k,e= .returned (.tuple #[.bool (decide (xs=ys)),.int .i64 k])∧Later w w':=by
 have lx:=hx.len
 have ly:=hy.len
 by_cases hnm:n=m
 ·subst hnm
  have hr:∀x:UInt8,(x=0↔xs=ys)→decide (xs=ys)=(x==0):=by
   intro x hb
   rw[Qy7,decide_eq_true_iff,beq_iff_eq]
   exact hb.symm
  have HR:=hid hr
  clear hr
  generalize decide (xs=ys)=R at *
  go_enter Tryz.func129,Tryz.ntmps129
  go_wp2
  go_loopw [6,7,16] (fun v6 v7 i wr=>∃(k:Nat) (x:UInt8),k≤n∧i= .int .i64 k∧v7= .int .i64 k∧v6=W8 x∧Later w wr∧Hid (x=0↔∀j,j<k→xs.getD j 0=ys.getD j 0)) (fun _ _ i _=>n-(intOf i).toNat)
  case atStart=>exact⟨0,0,by omega,rfl,rfl,rfl,Later.refl w,hid ⟨fun _ j hj=>absurd hj (by omega),fun _=>rfl⟩⟩
  case round=>
   obtain⟨k,x,hk,rfl,rfl,rfl,hl,he⟩:=hrel
   by_cases hlt:k<n
   ·obtain⟨b1,o1,rfl,hb1,hc1⟩:=hx.at_ (by omega)
    obtain⟨b2,o2,rfl,hb2,hc2⟩:=hy.at_ (by omega)
    have c1:wr.cell? ⟨b1,o1+k,none⟩=some (W8 (xs.getD k 0)):=(hl.below.cell (p:=⟨b1,o1+k,none⟩) hb1).trans (hc1 k hlt)
    have c2:wr.cell? ⟨b2,o2+k,none⟩=some (W8 (ys.getD k 0)):=(hl.below.cell (p:=⟨b2,o2+k,none⟩) hb2).trans (hc2 k hlt)
    clear hc1 hc2 hx hy
    generalize hX:xs.getD k 0=X at *
    generalize hY:ys.getD k 0=Y at *
    have HX:=hid hX
    have HY:=hid hY
    clear hX hY
    go_wp2
    refine Qaf [] [0,1,2,3,4,5,6,7,8,9,10,11] [] (by as_aux_lemma=>kernel_rfl) (by as_aux_lemma=>kernel_rfl) (by intro _ _ d _ _ h;cases d<;>exact h) ?_
    simp only[Qaj,pick,Qyo,Qyp,Qyr,Qyu,Qyt]
    repeat (go_big_quiet_step (fail))
    refine wpQuiet_nil ?_
    go_wp2
    refine⟨⟨k+1,x ||| (X ^^^ Y),by omega,by go_num,by go_num,rfl,hl.drew,hid ?_⟩,by simp only[intOf];omega⟩
    have e:∀a b c:UInt8,(a ||| (b ^^^ c))=0↔a=0∧b=c:=by
     intro a b c
     rw[UInt8.or_eq_zero_iff,UInt8.xor_eq_zero_iff]
    rw[e,he.out]
    constructor
    ·rintro⟨h1,h2⟩ j hj
     by_cases hjk:j=k
     ·subst hjk
      rw[HX.out,HY.out,h2]
     ·exact h1 j (by omega)
    ·intro h
     exact⟨fun j hj=>h j (by omega),by rw[←HX.out,←HY.out];exact h k (by omega)⟩
   ·go_wp2
    go_ret2
    have hR:R=(x==0):=by
     refine HR.out x (he.out.trans ⟨fun h=>?_,fun h=>?_⟩)
     ·apply List.ext_getElem (by omega)
      intro j h1 h2
      have:=h j (by omega)
      rw[Qys,Qys,Qyq h1,Qyq h2]at this
      exact this
     ·intro j _
      rw[h]
    refine⟨k,?_,hl⟩
    rw[hR]
    rfl
 ·have hne:((n:Int) != (m:Int))=true:=by simp;omega
  have hf:decide (xs=ys)=false:=decide_eq_false (fun h=>hnm (by rw[←lx,←ly,h]))
  have HF:=hid hf
  clear hf
  generalize decide (xs=ys)=R at *
  go_enter Tryz.func129,Tryz.ntmps129
  go_wp2
  go_ret2
  exact⟨0,by rw[HF.out];rfl,Later.refl w⟩
theorem QrE (A B:Option Addr) (n m c d:Nat) (xs ys:List UInt8) (w:World) (hx:RdB w A n xs) (hy:RdB w B m ys) (hn:n≤140737488355328) (hm:m≤140737488355328):
 Calls Tryz.prog 97 #[.slice A n c,.slice B m d] w fun e w'=>e= .returned (.bool (decide (xs=ys)))∧Later w w':=by
 have h:=hid (Qqa A B n m c d xs ys w hx hy hn hm)
 generalize decide (xs=ys)=R at *
 go_enter Tryz.func97,Tryz.ntmps97
 go_wp2_with (first|(go_at_call 129;refine h.out.mono ?_;rintro e w1 ⟨k,rfl,hl⟩))
 go_ret
 exact⟨rfl,hl⟩
theorem QhF (l:List UInt8) (h:l.length≤64):Qan (Qym 64 (W8 0)) 0 ((l.map W8).take 64)=(l++Qym (64-l.length) 0).map W8:=by
 rw[Qyx (by simpa using h),Qan]
 simp only[QAs,Qyt,Qyn,QyY,List.drop_replicate,Qy6,Qy4]
set_option maxRecDepth 100000 in
set_option maxHeartbeats 1000000 in
theorem QoD (A:Option Addr) (n c:Nat) (key:List UInt8) (w:World) (hx:RdB w A n key) (hc:n≤c) (hn:n≤140737488355328):
 Calls Tryz.prog 181 #[.slice A n c] w fun e w'=>e= .returned (.agg ((Qa4 key).map W8).toArray)∧Later w w':=by
 have hl:=hx.len
 have hkl:=Qb9 key
 by_cases h64:64<n
 ·have hk:Qa4 key=Qdh key++Qym (64-(Qdh key).length) 0:=by rw[Qa4,Qm6,if_pos (by omega)]
  have hG:=QbF key
  have hs:=fun A n c w hx=>QlY A n c [key] w hx
  rw[QaW]at hs
  generalize Qdh key=G at *
  generalize Qa4 key=K at *
  have HS:=hid hs
  have HK:=hid hk
  clear hs hk
  go_enter Tryz.func181,Tryz.ntmps181
  go_wp2_with (first
   | (go_at_call 185;refine (HS.out (some ⟨w.heap.size+2,0,none⟩) 1 1 _ ?hx (by omega) (by omega)).mono ?_
      (case hx=>exact Qc8 ((Blk.new' _ 22 [.slice A n c] (by simp)).rd rfl) ⟨Qcz (hx.later (((Qaa _ _).alloc _).alloc _)) hc,trivial⟩)
      rintro e w1 ⟨rfl,hl1⟩)
   | (refine Qai rfl rfl 30 _ _ rfl w1.heap.size 0 30 (Qym 32 (W8 0)) (G.map W8) ?b ?hx ?hy ?hi ?hf ?h1 ?_;(case hx=>rfl);(case hy=>rfl);(case hi=>rw[Qyn,hG];kernel_rfl);(case hf=>simp[hG]);(case h1=>exact QaK _);(case b=>exact Blk.new _ _ _);intro w2 hb2 ho2
      rw[Qam _ _ (by simp[hG])]at hb2))
  have z1:w.heap.size+3≤w1.heap.size:=by have:=hl1.size;simp at this;omega
  have hB2:Blk w2 w.heap.size 288 (Qym 64 (W8 0)):=(((Blk.new w _ _).later (((Qaa _ _).alloc _).trans hl1)).later (Qaa _ _)).only ho2 (by omega)
  have hB3:Blk w2 (w.heap.size+1) 288 (Qym 64 (W8 0)):=(((Blk.new' _ _ (Qym 64 (W8 0)) (by simp)).later ((Qaa _ _).trans hl1)).later (Qaa _ _)).only ho2 (by omega)
  have hL2:Later w w2:=(((((Qaa w _).alloc _).alloc _).trans hl1).alloc _).only ho2 (by omega)
  refine Qaf [] [0,1] [2] (by as_aux_lemma=>kernel_rfl) (by as_aux_lemma=>kernel_rfl) (by intro _ _ d _ _ h;cases d<;>exact h) ?_
  simp only[Qaj,pick,Qyo,Qyp,Qyr,Qyu,Qyt]
  repeat (go_big_quiet_step (fail))
  refine wpQuiet_nil ?_
  go_wp2_with (first
   | (refine Qat rfl _ _ _ _ rfl 5 Tryz.underlying22 Qbv (w.heap.size+1) 0 64 64 288 (Qym 64 (W8 0)) (hB3.later (Qad _)) (some ⟨w1.heap.size,0,none⟩) 32 32 (G.map W8) ((hb2.later (Qad _)).rd (by simp[hG])) (QaK _) rfl rfl (by simp) ?_;intro w4 hb4 ho4
      rw[QhF G (by omega),←HK.out]at hb4
      have hB4:=(hB2.later (Qad _)).only ho4 (by omega)
      have hL4:=(hL2.drew).only ho4 (by omega))
   | (refine Qau rfl 288 _ rfl (w.heap.size+1) 0 (K.map W8) ?hc ?hx _ Tryz.underlying288 rfl ?hi ?_;(case hx=>rfl);(case hi=>rw[Qyn,hkl];kernel_rfl);(case hc=>intro j v hv;rw[QyY];exact hb4.cellD j hv))
   | (refine Qai rfl rfl 288 _ _ rfl w.heap.size 0 288 (Qym 64 (W8 0)) (K.map W8) ?b ?hx ?hy ?hi ?hf ?h1 ?_;(case hx=>rfl);(case hy=>rfl);(case hi=>rw[Qyn,hkl];kernel_rfl);(case hf=>simp[hkl]);(case h1=>exact QaK _);(case b=>exact hB4);intro w9 hb9 ho9))
  rw[Qam _ _ (by simp[hkl])]at hb9
  exact bodyPost_ret (QaE rfl _ _ _ _ (K.map W8) _ hb9 rfl Tryz.underlying288 rfl (by rw[Qyn,hkl];kernel_rfl)) rfl ⟨rfl,hL4.only ho9 (Qyw _)⟩
 ·have hk:Qa4 key=key++Qym (64-key.length) 0:=by rw[Qa4,Qm6,if_neg (by omega)]
  generalize Qa4 key=K at *
  have HK:=hid hk
  clear hk
  go_enter Tryz.func181,Tryz.ntmps181
  go_wp2_with (first
   | (refine Qat rfl _ _ _ _ rfl 5 Tryz.underlying22 Qbv (w.heap.size+1) 0 64 64 288 (Qym 64 (W8 0)) (Blk.new' _ _ _ (by simp)) A n c (key.map W8) (RdB.later hx ((Qaa _ _).alloc _)) (QaK _) rfl rfl (by simp) ?_;intro w4 hb4 ho4
      rw[QhF key (by omega),←HK.out]at hb4
      have hB4:Blk w4 w.heap.size 288 (Qym 64 (W8 0)):=((Blk.new w _ _).later (Qaa _ _)).only ho4 (by omega)
      have hL4:Later w w4:=((Qaa w _).alloc _).only ho4 (by omega))
   | (refine Qau rfl 288 _ rfl (w.heap.size+1) 0 (K.map W8) ?hc ?hx _ Tryz.underlying288 rfl ?hi ?_;(case hx=>rfl);(case hi=>rw[Qyn,hkl];kernel_rfl);(case hc=>intro j v hv;rw[QyY];exact hb4.cellD j hv))
   | (refine Qai rfl rfl 288 _ _ rfl w.heap.size 0 288 (Qym 64 (W8 0)) (K.map W8) ?b ?hx ?hy ?hi ?hf ?h1 ?_;(case hx=>rfl);(case hy=>rfl);(case hi=>rw[Qyn,hkl];kernel_rfl);(case hf=>simp[hkl]);(case h1=>exact QaK _);(case b=>exact hB4);intro w9 hb9 ho9))
  rw[Qam _ _ (by simp[hkl])]at hb9
  exact bodyPost_ret (QaE rfl _ _ _ _ (K.map W8) _ hb9 rfl Tryz.underlying288 rfl (by rw[Qyn,hkl];kernel_rfl)) rfl ⟨rfl,hL4.only ho9 (Qyw _)⟩
set_option maxRecDepth 100000 in
set_option maxHeartbeats 1000000 in
theorem QhS (k:List UInt8) (m:UInt8) (w:World) (hk:k.length=64):
 Calls Tryz.prog 182 #[.agg (k.map W8).toArray,W8 m] w fun e w'=>∃A c,e= .returned (.slice A 64 c)∧OwnB w' w.heap.size A 64 c (QcQ k m)∧Later w w':=by
 have hml:=Qcr k m
 rw[hk]at hml
 have hg:∀j (hj:j<64),(k.map W8)[j]?=some (W8 (k.getD j 0))∧(QcQ k m)[j]?=some (k.getD j 0 ^^^ m):=by
  intro j hj
  rw[Qys,QyF,QcQ,QyF,Qyq (by omega)]
  exact⟨rfl,rfl⟩
 generalize QcQ k m=M at *
 have hkm:(k.map W8).length=64:=by simpa using hk
 have h1:=QaK k
 have HG:=hid hg
 clear hg
 generalize hkv:k.map W8=kv at *
 clear hkv
 go_enter Tryz.func182,Tryz.ntmps182
 go_wp2_with (first
  | (refine Qar rfl _ _ _ rfl 5 _ 1 Tryz.underlying22 Qcg rfl _ _ _ _ 64 rfl rfl ?hL ?hC (by omega) (by omega) ?_;(case hL=>rfl);(case hC=>rfl);intro w1 hb1 hl1)
  | (refine Qau rfl 288 _ rfl w.heap.size 0 kv ?hc ?hx _ Tryz.underlying288 rfl ?hi ?_;(case hx=>rfl);(case hi=>rw[hkm];kernel_rfl);(case hc=>intro j v hv;rw[QyY];exact ((Blk.new w _ _).later hl1).cellD j hv)))
 have hfz:QgD M 64 0=Qym 64 0:=rfl
 have hb1':Blk w1 (w.heap.size+1) 5 ((QgD M 64 0).map W8):=by
  rw[hfz,Qy4]
  have hb:=hb1
  simp only[World.size_alloc]at hb
  exact hb
 have hl1':Later w w1:=(Qaa _ _).trans hl1
 clear hb1 hl1 hfz
 go_loopw [10] (fun i wr=>∃j:Nat,j≤64∧i= .int .i64 j∧Later w wr∧Blk wr (w.heap.size+1) 5 ((QgD M 64 j).map W8)) (fun i _=>64-(intOf i).toNat)
 case atStart=>exact⟨0,by omega,rfl,hl1',hb1'⟩
 case round=>
  clear hb1' hl1'
  obtain⟨j,hj,rfl,hl,hb⟩:=hrel
  by_cases hlt:j<64
  ·obtain⟨e1,e2⟩:=HG.out j hlt
   have hfl:=QjU M 64 j hml hj
   have HST:=hid (Qnp M 64 j _ hml hlt e2)
   clear e2
   generalize k.getD j 0=x at *
   have hix:∀W',(Instr.index 288 (.agg kv.toArray) (.int .i64 (j:Int))).run Tryz.prog W'= .ok (W8 x) W':=fun W'=>QdG Tryz.underlying288 Qbv Tryz.underlying5 rfl kv .i64 j (W8 x) hlt e1 W'
   go_wp2_with (first
    | (refine Qae rfl rfl _ _ _ rfl _ _ _ _ hb rfl ?hl rfl (by kernel_rfl) ?_;(case hl=>rw[Qyn,hfl];omega);intro v' w5 hv' hb5 ho5;simp[go_sem]at hv';subst hv'))
   go_roundw
   case rel=>
    refine⟨j+1,by omega,by go_num,hl.only ho5 (by omega),?_⟩
    rw[←HST.out,←Qbq]
    exact hb5
   case measure=>simp only[intOf];omega
  ·have hj':j=64:=by omega
   rw[hj',Qoq M 64 hml]at hb
   go_wp2
   go_ret
   refine⟨_,_,rfl,?_,hl⟩
   have:=QcJ hb (show w.heap.size≤w.heap.size+1 by omega) (by simp[hml])
   rwa [Qyn,hml]at this
theorem Qvf:Tryz.zeroCells292=(QaU QeG (Qym 64 0) 0++Qym 64 (W8 0)).toArray:=by kernel_rfl
theorem Qnu (l z v:List Value) (n:Nat) (hl:l.length=n) (hz:z.length=v.length):Qan (l++z) n v=l++v:=by
 subst hl
 rw[Qan,QAj,Qzm (by simp[hz]),QyZ]
 rfl
theorem QqA (K:List UInt8) (hK:K.length=64):List.foldl (fun (cs:Array Value) (x:Value×Nat)=>cs.setIfInBounds (73+x.snd) x.fst) Tryz.zeroCells292 (K.map W8).zipIdx=(QaU QeG (Qym 64 0) 0++K.map W8).toArray:=by
 have hl:=QbH QeG (Qym 64 0) 0 (by simp)
 have hk:(K.map W8).length=64:=by simpa using hK
 rw[Qvf]
 have h:=Qec (K.map W8) 0 73 (QaU QeG (Qym 64 0) 0++Qym 64 (W8 0)) (by rw[Qyv,hl,hk];simp)
 rcases h with h|h
 ·rw[Qnu _ _ _ 73 hl (by rw[hk];simp)]at h
  exact h
 ·omega
def TagAt (w:World) (g:Nat) (key bs:List UInt8):Prop:=HashAt w g 292 ((Qa4 key).map W8) (QcQ (Qa4 key) 54++bs)
theorem HashAt.restD {w:World} {g:Nat} {t:TypeId} {rest:List Value} {bs:List UInt8} (h:HashAt w g t rest bs):∀(j:Nat) v,rest[j]?=some v→w.cell? ⟨g,73+j,none⟩=some v:=by
 obtain⟨st,op,h1,h2⟩:=h
 intro j v hv
 refine h2.cellD (73+j) ?_
 have hl:=QbH st op bs.length h1.len
 rw[Qyz (by omega),hl,Nat.add_sub_cancel_left]
 exact hv
set_option maxRecDepth 100000 in
set_option maxHeartbeats 1000000 in
theorem Qig (A:Option Addr) (n c:Nat) (key:List UInt8) (w:World) (hx:RdB w A n key) (hc:n≤c) (hn:n≤140737488355328):
 Calls Tryz.prog 163 #[.slice A n c] w fun e w'=>∃g,e= .returned (.pointer (some ⟨g,0,none⟩))∧w.heap.size≤g∧TagAt w' g key []∧Later w w':=by
 have hb:=QoD A n c key w hx hc hn
 have hkl:=Qb9 key
 unfold TagAt
 rw[QyZ]
 generalize Qa4 key=K at *
 have HB:=hid hb
 clear hb
 have hkm:(K.map W8).length=64:=by simpa using hkl
 go_enter Tryz.func163,Tryz.ntmps163
 go_wp2_with (first
  | (go_at_call 181;refine HB.out.mono ?_;rintro e w1 ⟨rfl,hl1⟩))
 rw[QqA K hkl]
 have hH0:HashAt (w1.alloc (.cells (QaU QeG (Qym 64 0) 0++K.map W8).toArray 292)) w1.heap.size 292 (K.map W8) []:=⟨QeG,Qym 64 0,Qpo,Blk.new _ _ _⟩
 generalize hC:QaU QeG (Qym 64 0) 0++K.map W8=C at *
 clear hC
 have L0:=hl1.alloc (.cells C.toArray 292)
 have hz:=hl1.size
 have hlt0:=hH0.lt
 generalize hW:w1.alloc (.cells C.toArray 292)=W at *
 clear hW
 generalize w1.heap.size=g at *
 have hH1:=hH0.later (Qad _)
 refine Qaf [([0,1,2,3,4,5,6],7),([],8)] [] [9] (by as_aux_lemma=>kernel_rfl) (by as_aux_lemma=>kernel_rfl) (by intro _ _ d _ _ h;cases d<;>exact h) ?_
 simp only[Qaj,pick,Qyo,Qyp,Qyr,Qyu,Qyt]
 repeat (first|go_big_quiet_skip|(go_big_quiet_want;refine Qbc 288 _ rfl g 73 (K.map W8) ?hc ?hx _ Tryz.underlying288 rfl ?hi ?_;(case hx=>rfl);(case hi=>rw[hkm];kernel_rfl);(case hc=>rintro w' ⟨x,rfl⟩;exact (hH1.later ⟨x,rfl⟩).restD);simp only[Act.put,QyD,QyM,QyI];go_big_quiet_on)|(go_big_quiet_step (fail)))
 refine wpQuiet_nil ?_
 go_wp2_with (go_at_call 182;refine (QhS K 54 _ hkl).mono ?_;rintro e w2 ⟨A2,c2,rfl,hown2,hl2⟩)
 try refine⟨by first|assumption|exact Qad _|exact Qaa _ _|exact Later.refl _,?_⟩
 try simp only[Qaj,pick,Qyo,Qyp,Qyr,Qyu,Qyt]
 repeat (go_big_quiet_step (fail))
 refine wpQuiet_nil ?_
 go_wp2
 try refine⟨by first|assumption|exact Qad _|exact Qaa _ _|exact Later.refl _,?_⟩
 try simp only[Qaj,pick,Qyo,Qyp,Qyr,Qyu,Qyt]
 repeat (go_big_quiet_step (fail))
 refine wpQuiet_nil ?_
 have hone:[QcQ K 54].flatten=QcQ K 54:=by simp
 have hml:=Qcr K 54
 have HO:=hid hone
 clear hone
 generalize hM:QcQ K 54=M at *
 have HM:=hid hM
 clear hM
 go_wp2_with (first
  | (go_at_call 164;refine (Qg4 g 292 (K.map W8) [] (some ⟨w2.heap.size,0,none⟩) 1 1 [M] _ ?hh ?hx (by omega) (by rw[HO.out];simp;omega)).mono ?_
     (case hh=>exact (hH1.later hl2).later (Qaa _ _))
     (case hx=>exact Qe0 ((Blk.new w2 22 [.slice A2 64 c2]).rd rfl) (QrQ (by have:=hl2.size;simp at this;omega)) ⟨QrU (hown2.later (Qaa _ _)) (by simpa using hlt0),trivial⟩)
     rintro e w3 ⟨rfl,hh3,ho3⟩
     rw[HO.out,Qyt]at hh3))
 go_ret
 exact⟨g,rfl,hz,by rw[HM.out];exact hh3,(((L0.trans (Qad _)).trans hl2).alloc _).only ho3 hz⟩
theorem Qpm (key bs:List UInt8):Qbb key bs=Qdh [QcQ (Qa4 key) 92,QmD key bs].flatten:=by simp[Qbb]
set_option maxRecDepth 100000 in
set_option maxHeartbeats 1000000 in
theorem Qnq (g:Nat) (key bs:List UInt8) (w:World) (hh:TagAt w g key bs) (hlen:bs.length≤2305843009213693000):
 Calls Tryz.prog 165 #[.pointer (some ⟨g,0,none⟩)] w fun e w'=>e= .returned (.agg ((Qbb key bs).map W8).toArray)∧Later w w':=by
 have hkl:=Qb9 key
 have hml:=Qcr (Qa4 key) 54
 unfold TagAt at hh
 have hs:=fun g t rest w hh=>Qlt g t rest (QcQ (Qa4 key) 54++bs) w hh (by rw[Qyv,hml,hkl];omega)
 have hin:=QbF (QcQ (Qa4 key) 54++bs)
 have hT:=Qax key bs
 have hsum:=fun A n c w hx=>QlY A n c [QcQ (Qa4 key) 92,QmD key bs] w hx
 rw[←Qpm]at hsum
 generalize Qbb key bs=T at *
 have hmk:(QcQ (Qa4 key) 92).length=64:=by rw[Qcr,hkl]
 have hmi:=Qb9 key
 have hf:[QcQ (Qa4 key) 92,QmD key bs].flatten.length=96:=by simp[hmk,QmD,QbF]
 unfold QmD at *
 generalize Qdh (QcQ (Qa4 key) 54++bs)=I at *
 generalize QcQ (Qa4 key) 54++bs=X at *
 have hmm:=fun w=>QhS (Qa4 key) 92 w hkl
 generalize QcQ (Qa4 key) 92=M at *
 generalize Qa4 key=K at *
 have HS:=hid hs
 have HSUM:=hid hsum
 have HF:=hid hf
 have HMM:=hid hmm
 clear hs hsum hf hmm
 have hkm:(K.map W8).length=64:=by simpa using hkl
 go_enter Tryz.func165,Tryz.ntmps165
 go_wp2_with (first
  | (go_at_call 184;refine (HS.out g 292 (K.map W8) _ (hh.later (Qaa _ _))).mono ?_;rintro e w1 ⟨rfl,hl1⟩)
  | (refine Qai rfl rfl 30 _ _ rfl w1.heap.size 0 30 (Qym 32 (W8 0)) (I.map W8) ?b ?hx ?hy ?hi ?hf ?h1 ?_;(case hx=>rfl);(case hy=>rfl);(case hi=>rw[Qyn,hin];kernel_rfl);(case hf=>simp[hin]);(case h1=>exact QaK _);(case b=>exact Blk.new _ _ _);intro w2 hb2 ho2
     rw[Qam _ _ (by simp[hin])]at hb2))
 have z1:w.heap.size+1≤w1.heap.size:=by have:=hl1.size;simpa using this
 have hh2:=(((hh.later (Qaa _ _)).later hl1).later (Qaa _ _)).only ho2 (by have:=hh.lt;omega)
 have hR2:Blk w2 w.heap.size 30 (Qym 32 (W8 0)):=(((Blk.new w _ _).later hl1).later (Qaa _ _)).only ho2 (by omega)
 have hL2:Later w w2:=(((Qaa w _).trans hl1).alloc _).only ho2 (by omega)
 clear hl1 ho2 hh
 generalize w1.heap.size=g1 at *
 have hh3:=hh2.later (Qad _)
 refine Qaf [([0,1,2,3,5],4)] [] [6,7,8] (by as_aux_lemma=>kernel_rfl) (by as_aux_lemma=>kernel_rfl) (by intro _ _ d _ _ h;cases d<;>exact h) ?_
 simp only[Qaj,pick,Qyo,Qyp,Qyr,Qyu,Qyt]
 repeat (first|go_big_quiet_skip|(go_big_quiet_want;refine Qbc 288 _ rfl g 73 (K.map W8) ?hc ?hx _ Tryz.underlying288 rfl ?hi ?_;(case hx=>rfl);(case hi=>rw[hkm];kernel_rfl);(case hc=>rintro w' ⟨x,rfl⟩;exact (hh3.later ⟨x,rfl⟩).restD);simp only[Act.put,QyD,QyM,QyI];go_big_quiet_on)|(go_big_quiet_step (fail)))
 refine wpQuiet_nil ?_
 go_wp2_with (go_at_call 182;refine (HMM.out _).mono ?_;rintro e w3 ⟨A3,c3,rfl,hown3,hl3⟩)
 try refine⟨by first|assumption|exact Qad _|exact Qaa _ _|exact Later.refl _,?_⟩
 try simp only[Qaj,pick,Qyo,Qyp,Qyr,Qyu,Qyt]
 repeat (go_big_quiet_step (fail))
 refine wpQuiet_nil ?_
 have hb3:=(hb2.later (Qad _)).later hl3
 have hR3:=(hR2.later (Qad _)).later hl3
 have hL3:=(hL2.drew).trans hl3
 go_wp2_with (first
  | (go_at_call 185;refine (HSUM.out (some ⟨w3.heap.size,0,none⟩) 2 2 _ ?hx (by omega) (by rw[HF.out];omega)).mono ?_
     (case hx=>exact Qc8 ((Blk.new w3 22 [.slice A3 64 c3,.slice (some ⟨g1,0,none⟩) 32 32]).rd rfl) ⟨Qcz (RdB.later hown3.rd (Qaa _ _)) hown3.cap,Qcz ((hb3.later (Qaa _ _)).rd (by simp[hin])) (by omega),trivial⟩)
     rintro e w4 ⟨rfl,hl4⟩)
  | (refine Qai rfl rfl 30 _ _ rfl w.heap.size 0 30 (Qym 32 (W8 0)) (T.map W8) ?b ?hx ?hy ?hi ?hf ?h1 ?_;(case hx=>rfl);(case hy=>rfl);(case hi=>rw[Qyn,hT];kernel_rfl);(case hf=>simp[hT]);(case h1=>exact QaK _);(case b=>exact (hR3.later (Qaa _ _)).later hl4);intro w5 hb5 ho5
     rw[Qam _ _ (by simp[hT])]at hb5))
 exact bodyPost_ret (QaE rfl _ _ _ _ (T.map W8) _ hb5 rfl Tryz.underlying30 rfl (by rw[Qyn,hT];kernel_rfl)) rfl ⟨rfl,(((hL3.alloc _).trans hl4)).only ho5 (Qyw _)⟩
theorem TagAt.write {w:World} {g:Nat} {key bs x:List UInt8} (h:HashAt w g 292 ((Qa4 key).map W8) ((QcQ (Qa4 key) 54++bs)++x)):TagAt w g key (bs++x):=by
 unfold TagAt
 rw[←QyE]
 exact h
set_option maxRecDepth 100000 in
set_option maxHeartbeats 1000000 in
theorem Qiw (A B:Option Addr) (n c m d:Nat) (key:List UInt8) (ps:List (List UInt8)) (w:World) (hx:RdB w A n key) (hc:n≤c) (hn:n≤140737488355328) (hp:Parts w (fun _=>False) B m ps) (hm:m≤140737488355328) (hlen:ps.flatten.length≤2305843009213690000):
 Calls Tryz.prog 131 #[.slice A n c,.slice B m d] w fun e w'=>e= .returned (.agg ((Qbb key ps.flatten).map W8).toArray)∧Later w w':=by
 have hT:=Qax key ps.flatten
 have hs:=fun g w hh=>Qnq g key ps.flatten w hh (by omega)
 have hw:=fun g bs n c w hh hx hm=>Qg4 g 292 ((Qa4 key).map W8) bs B n c ps w hh hx hm
 generalize Qbb key ps.flatten=T at *
 have hml:(QcQ (Qa4 key) 54).length=64:=by rw[Qcr,Qb9]
 have HS:=hid hs
 have HW:=hid hw
 clear hs hw
 go_enter Tryz.func131,Tryz.ntmps131
 go_wp2_with (first
  | (go_at_call 163;refine (Qig A n c key _ (hx.later (Qaa _ _)) hc hn).mono ?_;rintro e w1 ⟨g,rfl,hg,hh1,hl1⟩)
  | (go_at_call 164;refine (HW.out g _ m d _ hh1 ?hx hm ?hl).mono ?_
     (case hx=>exact (hp.more (fun b hb=>.inr (by subst hb;simp at hg;omega))).later ((Qaa _ _).trans hl1))
     (case hl=>rw[QyZ,hml];omega)
     rintro e w2 ⟨rfl,hh2,ho2⟩
     have ht2:=TagAt.write hh2
     rw[Qyt]at ht2)
  | (go_at_call 165;refine (HS.out g _ ht2).mono ?_;rintro e w3 ⟨rfl,hl3⟩)
  | (refine Qai rfl rfl 30 _ _ rfl w.heap.size 0 30 (Qym 32 (W8 0)) (T.map W8) ?b ?hx ?hy ?hi ?hf ?h1 ?_;(case hx=>rfl);(case hy=>rfl);(case hi=>rw[Qyn,hT];kernel_rfl);(case hf=>simp[hT]);(case h1=>exact QaK _);(case b=>exact (((Blk.new w _ _).later hl1).only ho2 (by simp at hg;omega)).later hl3);intro w5 hb5 ho5
     rw[Qam _ _ (by simp[hT])]at hb5))
 exact bodyPost_ret (QaE rfl _ _ _ _ (T.map W8) _ hb5 rfl Tryz.underlying30 rfl (by rw[Qyn,hT];kernel_rfl)) rfl
  ⟨rfl,((((Qaa w _).trans hl1).only ho2 (by simp at hg;omega)).trans hl3).only ho5 (Qyw _)⟩
theorem QuV (G:List UInt8) (h:G.length=32):Qan (Qym 16 (W8 0)) 0 ((G.map W8).take 16)=(G.take 16).map W8:=by
 rw[Qam _ _ (by simp[h]),QzZ]
set_option maxRecDepth 100000 in
theorem Qlf (G:List UInt8) (hG:G.length=32) (w:World):
 Calls Tryz.prog 130 #[.agg (G.map W8).toArray] w fun e w'=>∃A c,e= .returned (.slice A 16 c)∧OwnB w' w.heap.size A 16 c (G.take 16)∧Later w w':=by
 have hb0:=Blk.new w 30 (G.map W8)
 have ht:=QuV G hG
 have hl16:(G.take 16).length=16:=by simp[hG]
 have hgl:(G.map W8).length=32:=by simp[hG]
 have h1:=QaK G
 generalize G.take 16=F at *
 generalize G.map W8=gl at *
 have HT:=hid ht
 clear ht
 go_enter Tryz.func130,Tryz.ntmps130
 go_wp2_with (first
  | (refine Qar rfl _ _ _ rfl 5 _ 1 Tryz.underlying22 Qcg rfl _ _ _ _ 16 rfl rfl ?hL ?hC (by omega) (by omega) ?_;(case hL=>rfl);(case hC=>rfl);intro w1 hb1 hl1;simp only[World.size_alloc]at hb1)
  | (refine Qat rfl _ _ _ _ rfl 5 Tryz.underlying22 Qbv (w.heap.size+1) 0 16 16 5 (Qym 16 (W8 0)) hb1 (some ⟨w.heap.size,0,none⟩) 32 32 gl ((hb0.later hl1).rd hgl) h1 rfl rfl (by simp) ?_;intro w4 hb4 ho4
     rw[HT.out]at hb4))
 go_ret
 refine⟨_,_,rfl,?_,((Qaa w _).trans hl1).only ho4 (by omega)⟩
 have:=QcJ hb4 (show w.heap.size≤w.heap.size+1 by omega) (by simp[hl16])
 rwa [Qyn,hl16]at this
theorem Qi7 (A B:Option Addr) (n c m d:Nat) (key:List UInt8) (ps:List (List UInt8)) (w:World) (hx:RdB w A n key) (hc:n≤c) (hn:n≤140737488355328) (hp:Parts w (fun _=>False) B m ps) (hm:m≤140737488355328) (hlen:ps.flatten.length≤2305843009213690000):
 Calls Tryz.prog 98 #[.slice A n c,.slice B m d] w fun e w'=>∃A' c',e= .returned (.slice A' 16 c')∧OwnB w' w.heap.size A' 16 c' ((Qbb key ps.flatten).take 16)∧Later w w':=by
 have hT:=Qax key ps.flatten
 have hs:=hid (Qiw A B n c m d key ps w hx hc hn hp hm hlen)
 generalize Qbb key ps.flatten=T at *
 have hf:=hid (fun w=>Qlf T hT w)
 go_enter Tryz.func98,Tryz.ntmps98
 go_wp2_with (first
  | (go_at_call 131;refine hs.out.mono ?_;rintro e w1 ⟨rfl,hl1⟩)
  | (go_at_call 130;refine (hf.out _).mono ?_;rintro e w2 ⟨A2,c2,rfl,hown2,hl2⟩))
 go_ret
 exact⟨A2,c2,rfl,hown2.mono hl1.size,hl1.trans hl2⟩
theorem QnF (A B C:Option Addr) (n c m d k e0:Nat) (key tag:List UInt8) (ps:List (List UInt8)) (w:World) (hx:RdB w A n key) (hc:n≤c) (hn:n≤140737488355328) (ht:RdB w C k tag) (hk:k≤140737488355328)
 (hp:Parts w (fun _=>False) B m ps) (hm:m≤140737488355328) (hlen:ps.flatten.length≤2305843009213690000):
 Calls Tryz.prog 61 #[.slice A n c,.slice C k e0,.slice B m d] w fun e w'=>e= .returned (.bool (decide ((Qbb key ps.flatten).take 16=tag)))∧Later w w':=by
 have hs:=hid (Qi7 A B n c m d key ps w hx hc hn hp hm hlen)
 have hl16:((Qbb key ps.flatten).take 16).length=16:=by simp[Qax]
 generalize (Qbb key ps.flatten).take 16=S at *
 have hq:=hid (fun A c w hx hy=>QrE A C 16 k c e0 S tag w hx hy (by omega) hk)
 generalize decide (S=tag)=R at *
 go_enter Tryz.func61,Tryz.ntmps61
 go_wp2_with (first
  | (go_at_call 98;refine hs.out.mono ?_;rintro e w1 ⟨A1,c1,rfl,hown1,hl1⟩)
  | (go_at_call 97;refine (hq.out A1 c1 _ hown1.rd (ht.later hl1)).mono ?_;rintro e w2 ⟨rfl,hl2⟩))
 go_ret
 exact⟨rfl,hl1.trans hl2⟩
theorem Qti {w:World} {g n:Nat} {t:TypeId} {vs rest:List Value} (h:Blk w g t (vs++rest)) (hn:vs.length=n):Rd w (some ⟨g,0,none⟩) n vs:=
 ⟨hn,fun _=>⟨g,0,rfl,h.lt,fun j u hu=>by rw[QyY];exact h.cellD j (by rw[QyH (QyC.1 hu).1];exact hu)⟩⟩
def hkT (key info:List UInt8):Nat→List UInt8
 | 0=>[]
 | i+1=>Qbb key (hkT key info i++info++[Qy1 (i:Int)+1])
def hkO (key info:List UInt8):Nat→List UInt8
 | 0=>[]
 | i+1=>hkO key info i++hkT key info (i+1)
theorem Qm8 (key info:List UInt8) (i:Nat):(hkT key info i).length≤32:=by
 cases i with
 | zero=>simp[hkT]
 | succ i=>rw[hkT,Qax];omega
theorem Qmk (key info:List UInt8) (i:Nat):(hkO key info i).length=32*i:=by
 induction i with
 | zero=>rfl
 | succ i ih=>rw[hkO,Qyv,ih,hkT,Qax];omega
def expB (key info:List UInt8) (n:Nat):List UInt8:=(hkO key info ((n+31)/32)).take n
theorem QgH (key info:List UInt8) (n:Nat):(expB key info n).length=n:=by
 rw[expB,QyL,Qmk]
 omega
set_option maxRecDepth 100000 in
set_option maxHeartbeats 1000000 in
theorem Qks (A B:Option Addr) (n c m d:Nat) (salt secret:List UInt8) (w:World) (hx:RdB w A n salt) (hc:n≤c) (hn:n≤140737488355328) (hy:RdB w B m secret) (hd:m≤d) (hm:m≤140737488355328):
 Calls Tryz.prog 161 #[.slice A n c,.slice B m d] w fun e w'=>e= .returned (.agg ((Qbb salt secret).map W8).toArray)∧Later w w':=by
 have hyl:=hy.len
 have hT:=Qax salt secret
 have hs:=fun B w h=>Qiw A B n c 1 1 salt [secret] w h hc hn
 rw[QaW]at hs
 generalize Qbb salt secret=T at *
 have HS:=hid hs
 clear hs
 go_enter Tryz.func161,Tryz.ntmps161
 go_wp2_with (first
  | (go_at_call 131;refine (HS.out (some ⟨w.heap.size+1,0,none⟩) _ (hx.later ((Qaa _ _).alloc _)) ?hp (by omega) (by omega)).mono ?_
     (case hp=>exact Qc8 ((Blk.new' _ 22 [.slice B m d] (by simp)).rd rfl) ⟨Qcz (hy.later ((Qaa _ _).alloc _)) hd,trivial⟩)
     rintro e w1 ⟨rfl,hl1⟩)
  | (refine Qai rfl rfl 30 _ _ rfl w.heap.size 0 30 (Qym 32 (W8 0)) (T.map W8) ?b ?hx ?hy ?hi ?hf ?h1 ?_;(case hx=>rfl);(case hy=>rfl);(case hi=>rw[Qyn,hT];kernel_rfl);(case hf=>simp[hT]);(case h1=>exact QaK _);(case b=>exact ((Blk.new w _ _).later (Qaa _ _)).later hl1);intro w6 hb6 ho6
     rw[Qam _ _ (by simp[hT])]at hb6))
 exact bodyPost_ret (QaE rfl _ _ _ _ (T.map W8) _ hb6 rfl Tryz.underlying30 rfl (by rw[Qyn,hT];kernel_rfl)) rfl ⟨rfl,(((Qaa w _).alloc _).trans hl1).only ho6 (Qyw _)⟩
set_option maxRecDepth 100000 in
set_option maxHeartbeats 1000000 in
theorem QbO (A:Option Addr) (n c:Nat) (ps:List (List UInt8)) (w:World) (hx:Parts w (fun _=>False) A n ps) (hm:n≤140737488355328) (hp:ps.flatten.length≤140737488355328):
 Calls Tryz.prog 53 #[.slice A n c] w fun e w'=>∃A' c',e= .returned (.slice A' ps.flatten.length c')∧OwnB w' w.heap.size A' ps.flatten.length c' ps.flatten∧Later w w':=by
 have hpl:=hx.len
 go_enter Tryz.func53,Tryz.ntmps53
 go_wp2
 go_loopw [3,11] (fun tot i wr=>∃k:Nat,k≤n∧i= .int .i64 k∧tot= .int .i64 ((ps.take k).flatten.length:Nat)∧Later w wr) (fun _ i _=>n-(intOf i).toNat)
 case atStart=>exact⟨0,by omega,rfl,rfl,Later.refl w⟩
 case round=>
  obtain⟨k,hk,rfl,rfl,hl⟩:=hrel
  by_cases hlt:k<n
  ·obtain⟨b,o,Ak,nk,ck,rfl,hb,hck,hcap,hrd,_⟩:=(hx.later hl).at_ hlt
   have hle:=Qb5 ps (k+1)
   have hql:=hrd.len
   have hs':(ps.take (k+1)).flatten=(ps.take k).flatten++ps.getD k []:=by rw[Qdj ps k (by omega)];simp
   have hll:(ps.take (k+1)).flatten.length=(ps.take k).flatten.length+nk:=by rw[hs',Qyv,hql]
   have HL:=hid hll
   rw[hll]at hle
   clear hs' hll
   generalize (ps.take k).flatten.length=fl at *
   generalize ps.getD k []=q at *
   go_wp2
   refine⟨⟨k+1,by omega,by go_num,by rw[HL.out];go_num,hl⟩,by simp only[intOf];omega⟩
  ·have hkn:k=n:=by omega
   subst hkn
   have hfe:(ps.take k).flatten.length=ps.flatten.length:=by rw[Qyx (by omega)]
   rw[hfe]
   have HF:=hid hfe
   clear hfe
   generalize hFl:ps.flatten.length=fl at *
   go_wp2_with (first
    | (refine QbE rfl _ _ _ rfl 5 _ 1 Tryz.underlying22 Qcg rfl _ _ _ _ 0 fl rfl rfl ?hL ?hC (by omega) (by omega) (by omega) ?_;(case hL=>rfl);(case hC=>rfl);intro w1 hown1 hl1))
   go_loopw [6,24] (fun out i w2=>∃(j:Nat) (A':Option Addr) (m c':Nat),j≤k∧i= .int .i64 j∧out= .slice A' m c'∧OwnB w2 w.heap.size A' m c' (ps.take j).flatten∧Later w w2) (fun _ i _=>k-(intOf i).toNat)
   case atStart=>exact⟨0,_,_,_,by omega,rfl,rfl,Qdg hown1 hl.size,hl.trans hl1⟩
   case round=>
    clear hown1 hl1
    obtain⟨j,A',m,c',hj,rfl,rfl,hown,hl2⟩:=hrel
    by_cases hlt2:j<k
    ·obtain⟨b,o,Ak,nk,ck,rfl,hb,hck,hcap,hrd,_⟩:=(hx.later hl2).at_ hlt2
     have hml:=hown.len
     have hle:=Qb5 ps (j+1)
     have hlen:=hrd.len
     have hs':(ps.take (j+1)).flatten=(ps.take j).flatten++ps.getD j []:=by rw[Qdj ps j (by omega)];simp
     rw[hs',Qyv]at hle
     have HS:=hid hs'
     clear hs'
     generalize ps.getD j []=q at *
     generalize (ps.take j).flatten=F at *
     go_wp2_with (first
      | (refine QaY rfl _ _ _ rfl 5 _ 1 Tryz.underlying22 Qcg rfl w _ m _ hown hl2 Ak nk ck _ hrd (QaK _) rfl rfl (by omega) (by omega) ?_;intro A2 c2 w2' hown2 hl2' hg2 _))
     refine⟨⟨j+1,A2,m+nk,c2,by omega,by go_num,rfl,?_,hl2'⟩,by simp only[intOf];omega⟩
     rw[HS.out]
     exact QpM hown2 rfl rfl
    ·have hjk:j=k:=by omega
     rw[hjk,Qyx (by omega)]at hown
     have hml:=hown.len
     rw[hFl]at hml
     subst hml
     go_wp2
     go_ret
     exact⟨_,_,by rw[hFl];rfl,by rw[hFl];exact hown,hl2⟩
def Front (w:World) (base:Nat) (A:Option Addr) (n:Nat) (bs:List UInt8):Prop:=
 bs.length=n∧((A=none∧n=0)∨∃g rest,A=some ⟨g,0,none⟩∧base≤g∧Blk w g 5 (bs.map W8++rest))
theorem Front.rd {w:World} {base:Nat} {A:Option Addr} {n:Nat} {bs:List UInt8} (h:Front w base A n bs):RdB w A n bs:=by
 obtain⟨h1,h2⟩:=h
 rcases h2 with ⟨rfl,rfl⟩|⟨g,rest,rfl,_,hb⟩
 ·obtain rfl:bs=[]:=Qy5 h1
  exact Qlr w
 ·exact Qti hb (by simpa using h1)
theorem Front.later {w w':World} {base:Nat} {A:Option Addr} {n:Nat} {bs:List UInt8} (h:Front w base A n bs) (hl:Later w w'):Front w' base A n bs:=by
 obtain⟨h1,h2⟩:=h
 exact⟨h1,h2.imp id fun ⟨g,rest,e,hb,hk⟩=>⟨g,rest,e,hb,hk.later hl⟩⟩
theorem Qpp {w:World} {base:Nat} {A:Option Addr} {n c m:Nat} {bs:List UInt8} (h:OwnB w base A n c bs) (hm:m≤n):Front w base A m (bs.take m):=by
 have hl:=h.len
 refine⟨by rw[QyL];omega,?_⟩
 rcases QoJ h with ⟨rfl,rfl⟩|⟨g,rest,rfl,hb,hk,_⟩
 ·exact .inl ⟨rfl,by omega⟩
 ·refine .inr ⟨g,(bs.drop m).map W8++rest,rfl,hb,?_⟩
  rw[←QyE,←Qy6,QyV]
  exact hk
theorem QvL:(30:TypeId)≠5:=by decide
def LastAt (w:World) (v:Value) (k:Nat) (T:List UInt8):Prop:=
 (k=0∧v= .slice none 0 0∧T=[])∨∃g,0<k∧v= .slice (some ⟨g,0,none⟩) 32 32∧T.length=32∧Blk w g 30 (T.map W8)
theorem LastAt.rd {w:World} {v:Value} {k:Nat} {T:List UInt8} (h:LastAt w v k T):∃A n c,v= .slice A n c∧n≤c∧RdB w A n T:=by
 rcases h with ⟨_,rfl,rfl⟩|⟨g,_,rfl,hl,hb⟩
 ·exact⟨none,0,0,rfl,Qyw _,Qlr w⟩
 ·exact⟨_,32,32,rfl,Qyw _,hb.rd (by simpa using hl)⟩
theorem Qhx (a b c:List UInt8):[a,b,c].flatten=a++b++c:=by simp
set_option maxRecDepth 100000 in
set_option maxHeartbeats 2000000 in
theorem Qon (A B:Option Addr) (n c m d:Nat) (N:Nat) (key:List UInt8) (ps:List (List UInt8)) (w:World) (hx:RdB w A n key) (hc:n≤c) (hn:n≤140737488355328) (hp:Parts w (fun _=>False) B m ps) (hm:m≤140737488355328) (hlen:ps.flatten.length≤70368744177664) (hN:N≤8160):
 Calls Tryz.prog 162 #[.slice A n c,.int .i64 N,.slice B m d] w fun e w'=>∃A',e= .returned (.tuple #[.slice A' N N,.int .i64 0])∧Front w' w.heap.size A' N (expB key ps.flatten N)∧Later w w':=by
 have hj:=hid (QbO B m d ps w hp hm (by omega))
 generalize ps.flatten=F at *
 generalize hFl:F.length=fl at *
 go_enter Tryz.func162,Tryz.ntmps162
 go_wp2_with (first
  | (go_at_call 53;refine hj.out.mono ?_;rintro e w1 ⟨A1,c1,rfl,hown1,hl1⟩)
  | (refine QbE rfl _ _ _ rfl 5 _ 1 Tryz.underlying22 Qcg rfl _ _ _ _ 0 (N+32) rfl rfl ?hL ?hC (by omega) (by omega) (by omega) ?_;(case hL=>rfl);(case hC=>go_num);intro w2 hown2 hl2))
 have hown2':OwnB w2 w1.heap.size (some ⟨w1.heap.size,0,none⟩) 0 (N+32) []:=hown2
 have hlt1:=Qjy hown1
 have hcap1:=hown1.cap
 go_loopw [9,10,11] (fun out last i wr=>∃(k:Nat) (A9:Option Addr) (c9:Nat),i= .int .i64 ((k:Int)+1)∧(k=0∨32*(k-1)<N)∧out= .slice A9 (32*k) c9∧LastAt wr last k (hkT key F k)∧OwnB wr w1.heap.size A9 (32*k) c9 (hkO key F k)∧Later w1 wr) (fun _ _ i _=>8200-32*(intOf i).toNat)
 case atStart=>exact⟨0,_,_,rfl,.inl rfl,rfl,.inl ⟨rfl,rfl,rfl⟩,hown2',hl2⟩
 case round=>
  clear hown2 hown2' hl2
  obtain⟨k,A9,c9,rfl,hkN,rfl,hlast,hown,hl⟩:=hrel
  have hcap9:=hown.cap
  by_cases hlt:32*k<N
  ·obtain⟨A10,l10,c10,rfl,hc10,hr10⟩:=hlast.rd
   have hkl:=Qm8 key F k
   have hl10:=hr10.len
   have hT:(hkT key F (k+1)).length=32:=by rw[hkT,Qax]
   have ht:=fun B w h1 h2=>Qiw A B n c 3 3 key [hkT key F k,F,[Qy1 (k:Int)+1]] w h1 hc hn h2
   have he:Qbb key [hkT key F k,F,[Qy1 (k:Int)+1]].flatten=hkT key F (k+1):=by rw[Qhx,hkT]
   rw[he,Qhx]at ht
   have hfl:(hkT key F k++F++[Qy1 (k:Int)+1]).length≤70368744177700:=by simp;omega
   have ho':hkO key F (k+1)=hkO key F k++hkT key F (k+1):=rfl
   have HT:=hid ht
   have HO:=hid ho'
   clear ht he ho'
   generalize hT1:hkT key F (k+1)=T at *
   generalize hkT key F k=Tk at *
   generalize hkO key F k=O at *
   have HT1:=hid hT1
   clear hT1
   have hltN:((32*k:Nat):Int)<(N:Int):=by omega
   go_wp2_with (first
    | (go_at_call 131;refine (HT.out (some ⟨wr.heap.size+1,0,none⟩) _ (hx.later ((hl1.trans hl).trans ((Qaa _ _).alloc _))) ?hp (by omega) (by omega)).mono ?_
       (case hp=>exact Qc8 ((Blk.new' _ 22 [.slice A10 l10 c10,.slice A1 fl c1,.slice (some ⟨wr.heap.size,0,none⟩) 1 1] (by simp)).rd rfl) ⟨Qcz (hr10.later ((Qaa _ _).alloc _)) hc10,Qcz ((hown1.later hl).later ((Qaa _ _).alloc _)).rd hcap1,Qcz (((Blk.new wr 5 [W8 (Qy1 (k:Int)+1)]).later (Qaa _ _)).rd rfl) (by omega),trivial⟩)
       rintro e w3 ⟨rfl,hl3⟩)
    | (refine Qai rfl rfl 30 _ _ rfl w3.heap.size 0 30 (Qym 32 (W8 0)) (T.map W8) ?bk ?hx ?hy ?hi ?hf ?h1 ?_;(case hx=>rfl);(case hy=>rfl);(case hi=>rw[Qyn,hT];kernel_rfl);(case hf=>simp[hT]);(case h1=>exact QaK _);(case bk=>exact Blk.new _ _ _);intro w4 hb4 ho4
       rw[Qam _ _ (by simp[hT])]at hb4
       have L3:=((Qaa wr _).alloc _).trans hl3
       have hown4:=QiS (Qa0 (Qa0 hown L3) (Qaa _ _)) ho4 (fun b hb=>by have:=Qjy hown b hb;have:=L3.size;omega)
       have hl4:=((hl.trans L3).alloc _).only ho4 (by have:=(hl.trans L3).size;omega))
    | (refine QaY rfl _ _ _ rfl 5 _ 1 Tryz.underlying22 Qcg rfl w1 _ (32*k) _ hown4 hl4 (some ⟨w3.heap.size,0,none⟩) 32 32 _ (hb4.rd (by simp[hT])) (QaK _) rfl rfl (by omega) (by omega) ?_;intro A5 c5 w5 hown5 hl5 hg5 _
       have hb5:=QgP hb4 hown4 QvL hg5
       have hown5':=QpM hown5 rfl (show 32*k+32=32*(k+1) by omega)))
   refine⟨⟨k+1,A5,c5,by go_num,.inr (by omega),by rw[show 32*k+32=32*(k+1) by omega],?_,?_,hl5⟩,by simp only[intOf];omega⟩
   ·exact .inr ⟨w3.heap.size,by omega,rfl,by rw[HT1.out];exact hT,by rw[HT1.out];exact hb5⟩
   ·rw[HO.out]
    exact hown5'
  ·have hk:k=(N+31)/32:=by omega
   have hltN: ¬((32*k:Nat):Int)<(N:Int):=by omega
   have hNc:N≤c9:=by omega
   go_wp2
   go_ret2
   refine⟨A9,rfl,?_,hl1.trans hl⟩
   rw[expB,←hk]
   have:=Qpp hown (m:=N) (by omega)
   exact⟨this.1,this.2.imp id fun ⟨g,rest,e,hb,hk⟩=>⟨g,rest,e,Qy3 hl1.size hb,hk⟩⟩
theorem QnT (A B:Option Addr) (n c m d:Nat) (I:Int) (N:Nat) (hI:I=(N:Int)) (key:List UInt8) (ps:List (List UInt8)) (w:World) (hx:RdB w A n key) (hc:n≤c) (hn:n≤140737488355328) (hp:Parts w (fun _=>False) B m ps) (hm:m≤140737488355328) (hlen:ps.flatten.length≤70368744177664) (hN:N≤8160):
 Calls Tryz.prog 162 #[.slice A n c,.int .i64 I,.slice B m d] w fun e w'=>∃A',e= .returned (.tuple #[.slice A' N N,.int .i64 0])∧Front w' w.heap.size A' N (expB key ps.flatten N)∧Later w w':=by
 subst hI
 exact Qon A B n c m d N key ps w hx hc hn hp hm hlen hN
theorem Qt3:(Tryz.prog.info? 30).map (fun i=>(i.zero,i.size,i.bytes))=some (some (.agg (Qym 32 (W8 0)).toArray),32,32):=by kernel_rfl
theorem Qls (m n:Nat) (v:Value) (hm:0<m):madeCells (Qym m v).toArray n=(Qym n v).toArray:=by
 apply Array.ext
 ·simp[madeCells]
 ·intro i h1 h2
  simp only[madeCells,Array.getElem_map,Array.getElem_range,List.getElem_toArray,List.getElem_replicate,List.size_toArray,Qyy]
  have:i%m<m:=QyS _ hm
  simp[this]
section
variable {P:Program} {ops:Array Oper} {rest:List Oper} {o:Oper} {a:Act} {w:World} {Q:Exit→Act→World→Prop}
theorem Qgp (hgd:o.guard=none) (l c:Operand) (t:TypeId) (ho:o.op=Op.makeSlice t l c) (e:TypeId) (v:Value) (m bytes:Nat) (ht:P.underlying t=some (.slice e))
 (hinfo:(P.info? e).map (fun i=>(i.zero,i.size,i.bytes))=some (some (.agg (Qym m v).toArray),m,bytes)) (hm:0<m) (kl kc:IntKind) (L C:Int) (n:Nat) (hl:a.eval l= .int kl L) (hc:a.eval c= .int kc C) (hL:L=(n:Int)) (hC:C=(n:Int))
 (hby:0<bytes) (hsz:n*bytes≤140737488355328) (h:∀w',Blk w' w.heap.size e (Qym (n*m) v)→Later w w'→wpList P ops Q rest (a.put o.dst (.slice (some ⟨w.heap.size,0,none⟩) n n)) w'):
 wpList P ops Q (o :: rest) a w:=by
 cases hq:P.info? e with
 | none=>simp[hq]at hinfo
 | some i=>
   simp only[hq,QzW,Option.some.injEq,Prod.mk.injEq]at hinfo
   obtain⟨hz,hsize,hbytes⟩:=hinfo
   have hn:n≤140737488355328:=Qy3 (Qzi _ hby) hsz
   refine wpList_plain hgd fun K hK=>?_
   have hb:((i.bytes:Int)*(n:Int))≤281474976710656:=by
    rw[hbytes,←QzS,Qzj]
    omega
   have hr:=run_make (P:=P) w t e i _ ht hq hz kl kc n n (by omega) (Int.le_refl _) hb (by omega)
   have hcells:(Value.agg (Qym m v).toArray).cells=(Qym m v).toArray:=rfl
   simp only[QAh,hsize,hcells,Qls m _ v hm]at hr
   subst hL
   subst hC
   unfold Oper.wp
   simp only[execOp,ho,hl,hc,Sem.run_bind,hr,Result.andThen_ok,Sem.run_pure]
   exact hK _ _ (h _ (Blk.new w e _) (Qaa _ _))
end
def QdK:List UInt8:=[115,104,97,108,108,111,116]
def derB (secret:List UInt8) (s:ByteArray):List UInt8:=expB (Qbb QdK secret) (strB s) 32
theorem Qaw (secret:List UInt8) (s:ByteArray):(derB secret s).length=32:=QgH _ _ _
def Strs (w:World) (A:Option Addr) (n:Nat) (ss:List ByteArray):Prop:=Rd w A n (ss.map Value.string)
theorem Strs.at_ {w:World} {A:Option Addr} {n:Nat} {ss:List ByteArray} (h:Strs w A n ss) {k:Nat} (hk:k<n):
 ∃b o,A=some ⟨b,o,none⟩∧b<w.heap.size∧w.cell? ⟨b,o+k,none⟩=some (.string (ss.getD k .empty)):=by
 have hl:ss.length=n:=by simpa using h.1
 obtain⟨b,o,rfl,hb,hc⟩:=h.2 (by omega)
 refine⟨b,o,rfl,hb,hc k _ ?_⟩
 rw[QyF,Qys,Qyq (by omega)]
 rfl
theorem Strs.later {w w':World} {A:Option Addr} {n:Nat} {ss:List ByteArray} (h:Strs w A n ss) (hl:Later w w'):Strs w' A n ss:=Rd.later h hl
def QcA (secret:List UInt8) (ss:List ByteArray) (k:Nat):List UInt8:=((ss.take k).map (derB secret)).flatten++Qym (32*(ss.length-k)) 0
theorem QfZ (secret:List UInt8) (ss:List ByteArray) (k:Nat) (h:k≤ss.length):((ss.take k).map (derB secret)).flatten.length=32*k:=by
 induction k with
 | zero=>simp
 | succ k ih=>
   rw[QyQ (by omega),Qy6,List.flatten_append,Qyv,ih (by omega)]
   simp[Qaw]
   omega
theorem Qiv (secret:List UInt8) (ss:List ByteArray) (k:Nat) (h:k≤ss.length):(QcA secret ss k).length=32*ss.length:=by
 rw[QcA,Qyv,QfZ _ _ _ h,Qyy]
 omega
theorem QkF (secret:List UInt8) (ss:List ByteArray) (k:Nat) (h:k<ss.length):Qan ((QcA secret ss k).map W8) (32*k) (((derB secret (ss.getD k .empty)).map W8).take 32)=(QcA secret ss (k+1)).map W8:=by
 have h1:=QfZ secret ss k (by omega)
 have h2:=Qaw secret (ss.getD k .empty)
 have hs:ss.getD k .empty=ss[k]:=by rw[Qys,Qyq h];rfl
 rw[Qyx (by rw[Qyn,h2];omega),Qan,QcA,Qy6,Qzf (by rw[Qyn,h1];omega),Qyx (by rw[Qyn,h1];omega),
  List.drop_append,Qzm (by rw[Qyn,h1,Qyn,h2];omega),Qyt,QcA,QyQ h,hs]
 simp only[Qy6,List.flatten_append,QyT,QyU,Qzz,List.flatten_nil,QyZ,QyE,Qy4,List.drop_replicate,Qyn]
 rw[←hs,h2,h1,show 32*(ss.length-k)-(32*k+32-32*k)=32*(ss.length-(k+1)) by omega]
set_option maxRecDepth 100000 in
set_option maxHeartbeats 2000000 in
theorem Qh5 (A B:Option Addr) (n c m d:Nat) (secret:List UInt8) (ss:List ByteArray) (w:World) (hx:RdB w A n secret) (hc:n≤c) (hn:n≤35184372088832) (hb:Strs w B m ss) (hm0:0<m) (hm:m≤1048576) (hs:∀s∈ss,s.size≤1048576):
 Calls Tryz.prog 128 #[.slice A n c,.slice B m d] w fun e w'=>∃g,e= .returned (.slice (some ⟨g,0,none⟩) m m)∧w.heap.size≤g∧Blk w' g 30 ((QcA secret ss m).map W8)∧Later w w':=by
 have hml:ss.length=m:=by simpa using hb.1
 have hT:=Qax QdK secret
 have ht:=fun B w h1 h2=>Qks B A 7 7 n c QdK secret w h1 (by omega) (by omega) h2 hc (by omega)
 have he:=fun A B w (s:ByteArray) h1 h2 (h3:s.size≤1048576)=>QnT A B 32 32 1 1 32 32 rfl (Qbb QdK secret) [strB s] w h1 (by omega) (by omega) h2 (by omega) (by rw[QaW,QgG];omega) (by omega)
 have hd:∀s,expB (Qbb QdK secret) [strB s].flatten 32=derB secret s:=fun s=>by rw[QaW];rfl
 simp only[hd]at he
 generalize Qbb QdK secret=T at *
 have HT:=hid ht
 have HE:=hid he
 have HS:=hid hs
 clear ht he hd hs
 go_enter Tryz.func128,Tryz.ntmps128
 go_wp2_with (first
  | (refine Qe7 rfl _ _ rfl 5 Tryz.underlying22 Tryz.underlying5 w (QdK.map W8) rfl w.heap.size 7 7 rfl rfl ?_;intro w1 hl1 hr1 hz1)
  | (go_at_call 161;refine (HT.out _ _ hr1 (hx.later hl1)).mono ?_;rintro e w2 ⟨rfl,hl2⟩)
  | (refine Qai rfl rfl 30 _ _ rfl w2.heap.size 0 30 (Qym 32 (W8 0)) (T.map W8) ?bk ?hx ?hy ?hi ?hf ?h1 ?_;(case hx=>rfl);(case hy=>rfl);(case hi=>rw[Qyn,hT];kernel_rfl);(case hf=>simp[hT]);(case h1=>exact QaK _);(case bk=>exact Blk.new _ _ _);intro w3 hb3 ho3;rw[Qam _ _ (by simp[hT])]at hb3)
  | (refine Qgp rfl _ _ _ rfl 30 (W8 0) 32 32 Tryz.underlying96 Qt3 (by omega) _ _ _ _ m rfl rfl ?hL ?hC (by omega) (by omega) ?_;(case hL=>rfl);(case hC=>rfl);intro w4 hb4 hl4))
 have L2:=hl1.trans hl2
 have L3:Later w w3:=(L2.alloc _).only ho3 L2.size
 have hk4:=hb3.later hl4
 have L4:=L3.trans hl4
 have hk0:(QcA secret ss 0).map W8=Qym (m*32) (W8 0):=by rw[QcA];simp only[QAs,QyU,List.flatten_nil,Qyt,Nat.sub_zero,Qy4,hml,Qzj]
 rw[←hk0]at hb4
 have z2:=L2.size
 have z3:=hb3.lt
 have hgk:w2.heap.size≠w3.heap.size:=by omega
 have hg3:=L3.size
 clear hk0 hl1 hl2 hl4 hb3 ho3 L2 L3 hr1 hz1
 generalize w2.heap.size=gk at *
 generalize w3.heap.size=go at *
 go_loopw [23] (fun i wr=>∃k:Nat,k≤m∧i= .int .i64 k∧Blk wr gk 30 (T.map W8)∧Blk wr go 30 ((QcA secret ss k).map W8)∧Later w wr) (fun i _=>m-(intOf i).toNat)
 case atStart=>exact⟨0,by omega,rfl,hk4,hb4,L4⟩
 case round=>
  clear hk4 hb4 L4
  obtain⟨k,hk,rfl,hK,hO,hl⟩:=hrel
  by_cases hlt:k<m
  ·obtain⟨b,o,rfl,hbb,hck⟩:=(hb.later hl).at_ hlt
   have hsz:=HS.out (ss.getD k .empty) (by rw[Qys,Qyq (by omega)];exact QzH _)
   have hkl:=Qiv secret ss k (by omega)
   have hst:=hid (QkF secret ss k (by omega))
   have hdl:=Qaw secret (ss.getD k .empty)
   have hsl:=QgG (ss.getD k .empty)
   generalize ss.getD k .empty=s at *
   have hE:=hid (fun A B w h1 h2=>HE.out A B w s h1 h2 hsz)
   generalize derB secret s=D at *
   go_wp2_with (first
    | (refine Qe2 rfl _ _ _ rfl 5 Tryz.underlying9 Tryz.underlying22 Tryz.underlying5 s rfl ?_;intro c1 w1 hl1 hr1 hc1 hz1)
    | (go_at_call 162;refine (hE.out (some ⟨gk,0,none⟩) (some ⟨w1.heap.size,0,none⟩) _ ((hK.later (hl1.alloc _)).rd (by simp[hT])) (Qc8 ((Blk.new w1 22 [.slice (some ⟨wr.heap.size,0,none⟩) s.size c1]).rd rfl) ⟨Qcz (hr1.later (Qaa _ _)) hc1,trivial⟩)).mono ?_;rintro e w2 ⟨A2,rfl,hfr2,hl2⟩;have L2:=(hl1.alloc (.cells #[.slice (some ⟨wr.heap.size,0,none⟩) s.size c1] 22)).trans hl2)
    | (refine Qat rfl _ _ _ _ rfl 5 Tryz.underlying22 Qbv go (k*32) 32 32 30 ((QcA secret ss k).map W8) (hO.later L2) A2 32 32 (D.map W8) hfr2.rd (QaK _) rfl rfl (by rw[Qyn,hkl,hml];omega) ?_;intro w6 hb6 ho6;rw[Qzj k 32,hst.out]at hb6))
   refine⟨⟨k+1,by omega,by go_num,(hK.later L2).only ho6 hgk,hb6,(hl.trans L2).only ho6 hg3⟩,by simp only[intOf];omega⟩
  ·have hkm:k=m:=by omega
   rw[hkm]at hO
   go_wp2
   go_ret
   exact⟨go,rfl,hg3,hO,hl⟩
end Go.Proofs.YtdhgpkdjdmlphaaGreat
