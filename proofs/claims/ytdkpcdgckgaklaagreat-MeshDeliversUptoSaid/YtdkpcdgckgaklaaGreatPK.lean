/-
  Lemmas for the last text of this claim (part 11 of 20).
-/
import Derived.ArgAppend
import Derived.BigQuiet
import Derived.BigRegion
import Derived.ChangeOld
import Derived.Deep.RegionWith
import Derived.DeepKeys4
import Derived.JoinedCond
import Derived.LaidMore
import Derived.Laws.CopyOwn
import Derived.Laws.Externs
import Derived.Laws.IdiomStrings
import Derived.Laws.Tables
import Derived.Lib.AppendStr
import Derived.Lib.AppendZerosOnto
import Derived.Lib.Mul64
import Derived.Lib.SlBytesConst
import Derived.LoopN
import Derived.Maps.OwnSet
import Derived.OpenShut
import Derived.OrdersHeld
import Derived.ProofKit
import Derived.Shelf.Spec.BitsCarry
import Derived.ShutString
import Derived.Test.YtdkpcdgckgaklaaGreatProg
import Derived.Test.YtdkpcdgckgaklaaGreatRows
import Derived.WalkKit
import Derived.WalkLawsBesides
import Derived.WalkSpells
import Derived.Test.YtdkpcdgckgaklaaGreatPH
import Derived.Test.YtdkpcdgckgaklaaGreatPI
open Bool renaming eq_iff_iff → QDb
open Int renaming natCast_mul → QEo, toNat_natCast → QEx
open List renaming replicate → QCn, getElem?_cons_succ → QCo, getElem?_cons_zero → QCp, cons_append → QCr, nil_append → QCs, length_map → QCt, getD_eq_getElem?_getD → QCu, getElem?_eq_getElem → QCv, setIfInBounds_toArray → QCw, set_cons_zero → QCy, set_cons_succ → QCz, length_append → QCB, map_nil → QCC, getElem?_append_left → QCD, take_of_length_le → QCE, getElem?_append_right → QCF, getElem?_map → QCH, length_replicate → QCJ, getElem?_eq_some_iff → QCK, append_assoc → QCL, length_take → QCP, map_cons → QCR, set_append_right → QCX, take_succ_eq_append_getElem → QCY, eq_nil_of_length_eq_zero → QC0, append_nil → QC1, take_append_drop → QC3, map_append → QC6, map_replicate → QC8, drop_of_length_le → QDf, take_append_of_le_length → QDk, getElem_mem → QDn, drop_eq_getElem_cons → QDp, map_take → QDB, take_left' → QD9, drop_append → QEh, take_zero → QEm, ext_getElem → QEt
open Nat renaming le_refl → QCx, zero_add → QCI, mod_lt → QCU, le_trans → QC4, mul_comm → QDK, le_mul_of_pos_right → QD3, sub_self → QEB
open Option renaming toList_some → QCq, map_some → QD7
open UInt8 renaming ofInt → QC9
set_option linter.all false
namespace Go.Proofs.YtdkpcdgckgaklaaGreat
open Go.RowKit
def QlD (key:List UInt8):List UInt8:=if 64<key.length then Qcx key else key
def QaQ (key:List UInt8):List UInt8:=QlD key++QCn (64-(QlD key).length) 0
theorem Ql9 (key:List UInt8):(QlD key).length≤64:=by
 unfold QlD
 split
 ·rw[Qbq];omega
 ·omega
theorem QbX (key:List UInt8):(QaQ key).length=64:=by
 have:=Ql9 key
 simp[QaQ]
 omega
def Qb6 (k:List UInt8) (m:UInt8):List UInt8:=k.map (· ^^^ m)
theorem Qb8 (k:List UInt8) (m:UInt8):(Qb6 k m).length=k.length:=by simp[Qb6]
def QhA (key bs:List UInt8):List UInt8:=Qcx (Qb6 (QaQ key) 54++bs)
def Qbm (key bs:List UInt8):List UInt8:=Qcx (Qb6 (QaQ key) 92++QhA key bs)
theorem QaI (key bs:List UInt8):(Qbm key bs).length=32:=Qbq _
theorem Qs7 (A B:Option Addr) (n m c d:Nat) (xs ys:List UInt8) (w:World) (hx:RdB w A n xs) (hy:RdB w B m ys) (hn:n≤140737488355328) (hm:m≤140737488355328):
 Calls Tryz.prog 150 #[.slice A n c,.slice B m d] w fun e w'=>∃k,e= .returned (.tuple #[.bool (decide (xs=ys)),.int .i64 k])∧Later w w':=by
 have lx:=hx.len
 have ly:=hy.len
 by_cases hnm:n=m
 ·subst hnm
  have hr:∀x:UInt8,(x=0↔xs=ys)→decide (xs=ys)=(x==0):=by
   intro x hb
   rw[QDb,decide_eq_true_iff,beq_iff_eq]
   exact hb.symm
  have HR:=hid hr
  clear hr
  generalize decide (xs=ys)=R at *
  go_enter Tryz.func150,Tryz.ntmps150
  go_wp2
  go_loopw [6,7,16] (fun v6 v7 i wr=>∃(k:Nat) (x:UInt8),k≤n∧i= .int .i64 k∧v7= .int .i64 k∧v6=W8 x∧Later w wr∧Hid (x=0↔∀j,j<k→xs.getD j 0=ys.getD j 0)) (fun _ _ i _=>n-(intOf i).toNat)
  case atStart=>exact⟨0,0,by omega,rfl,rfl,rfl,Later.refl w,hid ⟨fun _ j hj=>absurd hj (by omega),fun _=>rfl⟩⟩
  case round=>
   obtain⟨k,x,hk,rfl,rfl,rfl,hl,he⟩:=hrel
   by_cases hlt:k<n
   ·obtain⟨b1,o1,rfl,hb1,hc1⟩:=hx.at_ (by omega)
    obtain⟨b2,o2,rfl,hb2,hc2⟩:=hy.at_ (by omega)
    have c1:wr.cell? ⟨b1,o1+k,none⟩=some (W8 (xs.getD k 0)):=(hl.below.cell (p:=⟨b1,o1+k,none⟩) hb1).trans (hc1 k hlt)
    have c2:wr.cell? ⟨b2,o2+k,none⟩=some (W8 (ys.getD k 0)):=(hl.below.cell (p:=⟨b2,o2+k,none⟩) hb2).trans (hc2 k hlt)
    clear hc1 hc2 hx hy
    generalize hX:xs.getD k 0=X at *
    generalize hY:ys.getD k 0=Y at *
    have HX:=hid hX
    have HY:=hid hY
    clear hX hY
    go_wp2
    refine Qad [] [0,1,2,3,4,5,6,7,8,9,10,11] [] (by as_aux_lemma=>kernel_rfl) (by as_aux_lemma=>kernel_rfl) (by intro _ _ d _ _ h;cases d<;>exact h) ?_
    simp only[Qai,pick,QCo,QCp,QCq,QCr,QCs]
    repeat (go_big_quiet_step (fail))
    refine wpQuiet_nil ?_
    go_wp2
    refine⟨⟨k+1,x ||| (X ^^^ Y),by omega,by go_num,by go_num,rfl,hl.drew,hid ?_⟩,by simp only[intOf];omega⟩
    have e:∀a b c:UInt8,(a ||| (b ^^^ c))=0↔a=0∧b=c:=by
     intro a b c
     rw[UInt8.or_eq_zero_iff,UInt8.xor_eq_zero_iff]
    rw[e,he.out]
    constructor
    ·rintro⟨h1,h2⟩ j hj
     by_cases hjk:j=k
     ·subst hjk
      rw[HX.out,HY.out,h2]
     ·exact h1 j (by omega)
    ·intro h
     exact⟨fun j hj=>h j (by omega),by rw[←HX.out,←HY.out];exact h k (by omega)⟩
   ·go_wp2
    go_ret2
    have hR:R=(x==0):=by
     refine HR.out x (he.out.trans ⟨fun h=>?_,fun h=>?_⟩)
     ·apply QEt (by omega)
      intro j h1 h2
      have:=h j (by omega)
      rw[QCu,QCu,QCv h1,QCv h2]at this
      exact this
     ·intro j _
      rw[h]
    refine⟨k,?_,hl⟩
    rw[hR]
    rfl
 ·have hne:((n:Int) != (m:Int))=true:=by simp;omega
  have hf:decide (xs=ys)=false:=decide_eq_false (fun h=>hnm (by rw[←lx,←ly,h]))
  have HF:=hid hf
  clear hf
  generalize decide (xs=ys)=R at *
  go_enter Tryz.func150,Tryz.ntmps150
  go_wp2
  go_ret2
  exact⟨0,by rw[HF.out];rfl,Later.refl w⟩
theorem QuF (A B:Option Addr) (n m c d:Nat) (xs ys:List UInt8) (w:World) (hx:RdB w A n xs) (hy:RdB w B m ys) (hn:n≤140737488355328) (hm:m≤140737488355328):
 Calls Tryz.prog 130 #[.slice A n c,.slice B m d] w fun e w'=>e= .returned (.bool (decide (xs=ys)))∧Later w w':=by
 have h:=hid (Qs7 A B n m c d xs ys w hx hy hn hm)
 generalize decide (xs=ys)=R at *
 go_enter Tryz.func130,Tryz.ntmps130
 go_wp2_with (first|(go_at_call 150;refine h.out.mono ?_;rintro e w1 ⟨k,rfl,hl⟩))
 go_ret
 exact⟨rfl,hl⟩
theorem Qfw (l:List UInt8) (h:l.length≤64):Qau (QCn 64 (W8 0)) 0 ((l.map W8).take 64)=(l++QCn (64-l.length) 0).map W8:=by
 rw[QCE (by simpa using h),Qau]
 simp only[QEm,QCs,QCt,QCI,List.drop_replicate,QC6,QC8]
set_option maxRecDepth 100000 in
set_option maxHeartbeats 1000000 in
theorem Qq9 (A:Option Addr) (n c:Nat) (key:List UInt8) (w:World) (hx:RdB w A n key) (hc:n≤c) (hn:n≤140737488355328):
 Calls Tryz.prog 160 #[.slice A n c] w fun e w'=>e= .returned (.agg ((QaQ key).map W8).toArray)∧Later w w':=by
 have hl:=hx.len
 have hkl:=QbX key
 by_cases h64:64<n
 ·have hk:QaQ key=Qcx key++QCn (64-(Qcx key).length) 0:=by rw[QaQ,QlD,if_pos (by omega)]
  have hG:=Qbq key
  have hs:=fun A n c w hx=>Qo8 A n c [key] w hx
  rw[Qcy]at hs
  generalize Qcx key=G at *
  generalize QaQ key=K at *
  have HS:=hid hs
  have HK:=hid hk
  clear hs hk
  go_enter Tryz.func160,Tryz.ntmps160
  go_wp2_with (first
   | (go_at_call 164;refine (HS.out (some ⟨w.heap.size+2,0,none⟩) 1 1 _ ?hx (by omega) (by omega)).mono ?_
      (case hx=>exact Qgy ((Blk.new' _ 32 [.slice A n c] (by simp)).rd rfl) ⟨QbS (hx.later (((Qaa _ _).alloc _).alloc _)) hc,trivial⟩)
      rintro e w1 ⟨rfl,hl1⟩)
   | (refine Qaj rfl rfl 79 _ _ rfl w1.heap.size 0 79 (QCn 32 (W8 0)) (G.map W8) ?b ?hx ?hy ?hi ?hf ?h1 ?_;(case hx=>rfl);(case hy=>rfl);(case hi=>rw[QCt,hG];kernel_rfl);(case hf=>simp[hG]);(case h1=>exact QaE _);(case b=>exact Blk.new _ _ _);intro w2 hb2 ho2
      rw[Qao _ _ (by simp[hG])]at hb2))
  have z1:w.heap.size+3≤w1.heap.size:=by have:=hl1.size;simp at this;omega
  have hB2:Blk w2 w.heap.size 270 (QCn 64 (W8 0)):=(((Blk.new w _ _).later (((Qaa _ _).alloc _).trans hl1)).later (Qaa _ _)).only ho2 (by omega)
  have hB3:Blk w2 (w.heap.size+1) 270 (QCn 64 (W8 0)):=(((Blk.new' _ _ (QCn 64 (W8 0)) (by simp)).later ((Qaa _ _).trans hl1)).later (Qaa _ _)).only ho2 (by omega)
  have hL2:Later w w2:=(((((Qaa w _).alloc _).alloc _).trans hl1).alloc _).only ho2 (by omega)
  refine Qad [] [0,1] [2] (by as_aux_lemma=>kernel_rfl) (by as_aux_lemma=>kernel_rfl) (by intro _ _ d _ _ h;cases d<;>exact h) ?_
  simp only[Qai,pick,QCo,QCp,QCq,QCr,QCs]
  repeat (go_big_quiet_step (fail))
  refine wpQuiet_nil ?_
  go_wp2_with (first
   | (refine Qax rfl _ _ _ _ rfl 5 Tryz.underlying32 QbR (w.heap.size+1) 0 64 64 270 (QCn 64 (W8 0)) (hB3.later (Qab _)) (some ⟨w1.heap.size,0,none⟩) 32 32 (G.map W8) ((hb2.later (Qab _)).rd (by simp[hG])) (QaE _) rfl rfl (by simp) ?_;intro w4 hb4 ho4
      rw[Qfw G (by omega),←HK.out]at hb4
      have hB4:=(hB2.later (Qab _)).only ho4 (by omega)
      have hL4:=(hL2.drew).only ho4 (by omega))
   | (refine Qaz rfl 270 _ rfl (w.heap.size+1) 0 (K.map W8) ?hc ?hx _ Tryz.underlying270 rfl ?hi ?_;(case hx=>rfl);(case hi=>rw[QCt,hkl];kernel_rfl);(case hc=>intro j v hv;rw[QCI];exact hb4.cellD j hv))
   | (refine Qaj rfl rfl 270 _ _ rfl w.heap.size 0 270 (QCn 64 (W8 0)) (K.map W8) ?b ?hx ?hy ?hi ?hf ?h1 ?_;(case hx=>rfl);(case hy=>rfl);(case hi=>rw[QCt,hkl];kernel_rfl);(case hf=>simp[hkl]);(case h1=>exact QaE _);(case b=>exact hB4);intro w9 hb9 ho9))
  rw[Qao _ _ (by simp[hkl])]at hb9
  exact bodyPost_ret (QaF rfl _ _ _ _ (K.map W8) _ hb9 rfl Tryz.underlying270 rfl (by rw[QCt,hkl];kernel_rfl)) rfl ⟨rfl,hL4.only ho9 (QCx _)⟩
 ·have hk:QaQ key=key++QCn (64-key.length) 0:=by rw[QaQ,QlD,if_neg (by omega)]
  generalize QaQ key=K at *
  have HK:=hid hk
  clear hk
  go_enter Tryz.func160,Tryz.ntmps160
  go_wp2_with (first
   | (refine Qax rfl _ _ _ _ rfl 5 Tryz.underlying32 QbR (w.heap.size+1) 0 64 64 270 (QCn 64 (W8 0)) (Blk.new' _ _ _ (by simp)) A n c (key.map W8) (RdB.later hx ((Qaa _ _).alloc _)) (QaE _) rfl rfl (by simp) ?_;intro w4 hb4 ho4
      rw[Qfw key (by omega),←HK.out]at hb4
      have hB4:Blk w4 w.heap.size 270 (QCn 64 (W8 0)):=((Blk.new w _ _).later (Qaa _ _)).only ho4 (by omega)
      have hL4:Later w w4:=((Qaa w _).alloc _).only ho4 (by omega))
   | (refine Qaz rfl 270 _ rfl (w.heap.size+1) 0 (K.map W8) ?hc ?hx _ Tryz.underlying270 rfl ?hi ?_;(case hx=>rfl);(case hi=>rw[QCt,hkl];kernel_rfl);(case hc=>intro j v hv;rw[QCI];exact hb4.cellD j hv))
   | (refine Qaj rfl rfl 270 _ _ rfl w.heap.size 0 270 (QCn 64 (W8 0)) (K.map W8) ?b ?hx ?hy ?hi ?hf ?h1 ?_;(case hx=>rfl);(case hy=>rfl);(case hi=>rw[QCt,hkl];kernel_rfl);(case hf=>simp[hkl]);(case h1=>exact QaE _);(case b=>exact hB4);intro w9 hb9 ho9))
  rw[Qao _ _ (by simp[hkl])]at hb9
  exact bodyPost_ret (QaF rfl _ _ _ _ (K.map W8) _ hb9 rfl Tryz.underlying270 rfl (by rw[QCt,hkl];kernel_rfl)) rfl ⟨rfl,hL4.only ho9 (QCx _)⟩
set_option maxRecDepth 100000 in
set_option maxHeartbeats 1000000 in
theorem QjX (k:List UInt8) (m:UInt8) (w:World) (hk:k.length=64):
 Calls Tryz.prog 161 #[.agg (k.map W8).toArray,W8 m] w fun e w'=>∃A c,e= .returned (.slice A 64 c)∧OwnB w' w.heap.size A 64 c (Qb6 k m)∧Later w w':=by
 have hml:=Qb8 k m
 rw[hk]at hml
 have hg:∀j (hj:j<64),(k.map W8)[j]?=some (W8 (k.getD j 0))∧(Qb6 k m)[j]?=some (k.getD j 0 ^^^ m):=by
  intro j hj
  rw[QCu,QCH,Qb6,QCH,QCv (by omega)]
  exact⟨rfl,rfl⟩
 generalize Qb6 k m=M at *
 have hkm:(k.map W8).length=64:=by simpa using hk
 have h1:=QaE k
 have HG:=hid hg
 clear hg
 generalize hkv:k.map W8=kv at *
 clear hkv
 go_enter Tryz.func161,Tryz.ntmps161
 go_wp2_with (first
  | (refine QaH rfl _ _ _ rfl 5 _ 1 Tryz.underlying32 QbW rfl _ _ _ _ 64 rfl rfl ?hL ?hC (by omega) (by omega) ?_;(case hL=>rfl);(case hC=>rfl);intro w1 hb1 hl1)
  | (refine Qaz rfl 270 _ rfl w.heap.size 0 kv ?hc ?hx _ Tryz.underlying270 rfl ?hi ?_;(case hx=>rfl);(case hi=>rw[hkm];kernel_rfl);(case hc=>intro j v hv;rw[QCI];exact ((Blk.new w _ _).later hl1).cellD j hv)))
 have hfz:Qe5 M 64 0=QCn 64 0:=rfl
 have hb1':Blk w1 (w.heap.size+1) 5 ((Qe5 M 64 0).map W8):=by
  rw[hfz,QC8]
  have hb:=hb1
  simp only[World.size_alloc]at hb
  exact hb
 have hl1':Later w w1:=(Qaa _ _).trans hl1
 clear hb1 hl1 hfz
 go_loopw [10] (fun i wr=>∃j:Nat,j≤64∧i= .int .i64 j∧Later w wr∧Blk wr (w.heap.size+1) 5 ((Qe5 M 64 j).map W8)) (fun i _=>64-(intOf i).toNat)
 case atStart=>exact⟨0,by omega,rfl,hl1',hb1'⟩
 case round=>
  clear hb1' hl1'
  obtain⟨j,hj,rfl,hl,hb⟩:=hrel
  by_cases hlt:j<64
  ·obtain⟨e1,e2⟩:=HG.out j hlt
   have hfl:=Qhp M 64 j hml hj
   have HST:=hid (QjR M 64 j _ hml hlt e2)
   clear e2
   generalize k.getD j 0=x at *
   have hix:∀W',(Instr.index 270 (.agg kv.toArray) (.int .i64 (j:Int))).run Tryz.prog W'= .ok (W8 x) W':=fun W'=>QeH Tryz.underlying270 QbR Tryz.underlying5 rfl kv .i64 j (W8 x) hlt e1 W'
   go_wp2_with (first
    | (refine Qac rfl rfl _ _ _ rfl _ _ _ _ hb rfl ?hl rfl (by kernel_rfl) ?_;(case hl=>rw[QCt,hfl];omega);intro v' w5 hv' hb5 ho5;simp[go_sem]at hv';subst hv'))
   go_roundw
   case rel=>
    refine⟨j+1,by omega,by go_num,hl.only ho5 (by omega),?_⟩
    rw[←HST.out,←Qby]
    exact hb5
   case measure=>simp only[intOf];omega
  ·have hj':j=64:=by omega
   rw[hj',QkX M 64 hml]at hb
   go_wp2
   go_ret
   refine⟨_,_,rfl,?_,hl⟩
   have:=Qck hb (show w.heap.size≤w.heap.size+1 by omega) (by simp[hml])
   rwa [QCt,hml]at this
theorem QyQ:Tryz.zeroCells274=(Qbu QfT (QCn 64 0) 0++QCn 64 (W8 0)).toArray:=by kernel_rfl
theorem Qqq (l z v:List Value) (n:Nat) (hl:l.length=n) (hz:z.length=v.length):Qau (l++z) n v=l++v:=by
 subst hl
 rw[Qau,QD9,QDf (by simp[hz]),QC1]
 rfl
theorem Qvq (K:List UInt8) (hK:K.length=64):List.foldl (fun (cs:Array Value) (x:Value×Nat)=>cs.setIfInBounds (73+x.snd) x.fst) Tryz.zeroCells274 (K.map W8).zipIdx=(Qbu QfT (QCn 64 0) 0++K.map W8).toArray:=by
 have hl:=QcC QfT (QCn 64 0) 0 (by simp)
 have hk:(K.map W8).length=64:=by simpa using hK
 rw[QyQ]
 have h:=Qfv (K.map W8) 0 73 (Qbu QfT (QCn 64 0) 0++QCn 64 (W8 0)) (by rw[QCB,hl,hk];simp)
 rcases h with h|h
 ·rw[Qqq _ _ _ 73 hl (by rw[hk];simp)]at h
  exact h
 ·omega
def TagAt (w:World) (g:Nat) (key bs:List UInt8):Prop:=HashAt w g 274 ((QaQ key).map W8) (Qb6 (QaQ key) 54++bs)
theorem HashAt.restD {w:World} {g:Nat} {t:TypeId} {rest:List Value} {bs:List UInt8} (h:HashAt w g t rest bs):∀(j:Nat) v,rest[j]?=some v→w.cell? ⟨g,73+j,none⟩=some v:=by
 obtain⟨st,op,h1,h2⟩:=h
 intro j v hv
 refine h2.cellD (73+j) ?_
 have hl:=QcC st op bs.length h1.len
 rw[QCF (by omega),hl,Nat.add_sub_cancel_left]
 exact hv
set_option maxRecDepth 100000 in
set_option maxHeartbeats 1000000 in
theorem Qj9 (A:Option Addr) (n c:Nat) (key:List UInt8) (w:World) (hx:RdB w A n key) (hc:n≤c) (hn:n≤140737488355328):
 Calls Tryz.prog 153 #[.slice A n c] w fun e w'=>∃g,e= .returned (.pointer (some ⟨g,0,none⟩))∧w.heap.size≤g∧TagAt w' g key []∧Later w w':=by
 have hb:=Qq9 A n c key w hx hc hn
 have hkl:=QbX key
 unfold TagAt
 rw[QC1]
 generalize QaQ key=K at *
 have HB:=hid hb
 clear hb
 have hkm:(K.map W8).length=64:=by simpa using hkl
 go_enter Tryz.func153,Tryz.ntmps153
 go_wp2_with (first
  | (go_at_call 160;refine HB.out.mono ?_;rintro e w1 ⟨rfl,hl1⟩))
 rw[Qvq K hkl]
 have hH0:HashAt (w1.alloc (.cells (Qbu QfT (QCn 64 0) 0++K.map W8).toArray 274)) w1.heap.size 274 (K.map W8) []:=⟨QfT,QCn 64 0,Qtf,Blk.new _ _ _⟩
 generalize hC:Qbu QfT (QCn 64 0) 0++K.map W8=C at *
 clear hC
 have L0:=hl1.alloc (.cells C.toArray 274)
 have hz:=hl1.size
 have hlt0:=hH0.lt
 generalize hW:w1.alloc (.cells C.toArray 274)=W at *
 clear hW
 generalize w1.heap.size=g at *
 have hH1:=hH0.later (Qab _)
 refine Qad [([0,1,2,3,4,5,6],7),([],8)] [] [9] (by as_aux_lemma=>kernel_rfl) (by as_aux_lemma=>kernel_rfl) (by intro _ _ d _ _ h;cases d<;>exact h) ?_
 simp only[Qai,pick,QCo,QCp,QCq,QCr,QCs]
 repeat (first|go_big_quiet_skip|(go_big_quiet_want;refine QaN 270 _ rfl g 73 (K.map W8) ?hc ?hx _ Tryz.underlying270 rfl ?hi ?_;(case hx=>rfl);(case hi=>rw[hkm];kernel_rfl);(case hc=>rintro w' ⟨x,rfl⟩;exact (hH1.later ⟨x,rfl⟩).restD);simp only[Act.put,QCw,QCz,QCy];go_big_quiet_on)|(go_big_quiet_step (fail)))
 refine wpQuiet_nil ?_
 go_wp2_with (go_at_call 161;refine (QjX K 54 _ hkl).mono ?_;rintro e w2 ⟨A2,c2,rfl,hown2,hl2⟩)
 try refine⟨by first|assumption|exact Qab _|exact Qaa _ _|exact Later.refl _,?_⟩
 try simp only[Qai,pick,QCo,QCp,QCq,QCr,QCs]
 repeat (go_big_quiet_step (fail))
 refine wpQuiet_nil ?_
 go_wp2
 try refine⟨by first|assumption|exact Qab _|exact Qaa _ _|exact Later.refl _,?_⟩
 try simp only[Qai,pick,QCo,QCp,QCq,QCr,QCs]
 repeat (go_big_quiet_step (fail))
 refine wpQuiet_nil ?_
 have hone:[Qb6 K 54].flatten=Qb6 K 54:=by simp
 have hml:=Qb8 K 54
 have HO:=hid hone
 clear hone
 generalize hM:Qb6 K 54=M at *
 have HM:=hid hM
 clear hM
 go_wp2_with (first
  | (go_at_call 154;refine (Qi1 g 274 (K.map W8) [] (some ⟨w2.heap.size,0,none⟩) 1 1 [M] _ ?hh ?hx (by omega) (by rw[HO.out];simp;omega)).mono ?_
     (case hh=>exact (hH1.later hl2).later (Qaa _ _))
     (case hx=>exact Qie ((Blk.new w2 32 [.slice A2 64 c2]).rd rfl) (Qvn (by have:=hl2.size;simp at this;omega)) ⟨Qu1 (hown2.later (Qaa _ _)) (by simpa using hlt0),trivial⟩)
     rintro e w3 ⟨rfl,hh3,ho3⟩
     rw[HO.out,QCs]at hh3))
 go_ret
 exact⟨g,rfl,hz,by rw[HM.out];exact hh3,(((L0.trans (Qab _)).trans hl2).alloc _).only ho3 hz⟩
theorem QqY (key bs:List UInt8):Qbm key bs=Qcx [Qb6 (QaQ key) 92,QhA key bs].flatten:=by simp[Qbm]
set_option maxRecDepth 100000 in
set_option maxHeartbeats 1000000 in
theorem Qp3 (g:Nat) (key bs:List UInt8) (w:World) (hh:TagAt w g key bs) (hlen:bs.length≤2305843009213693000):
 Calls Tryz.prog 155 #[.pointer (some ⟨g,0,none⟩)] w fun e w'=>e= .returned (.agg ((Qbm key bs).map W8).toArray)∧Later w w':=by
 have hkl:=QbX key
 have hml:=Qb8 (QaQ key) 54
 unfold TagAt at hh
 have hs:=fun g t rest w hh=>QnT g t rest (Qb6 (QaQ key) 54++bs) w hh (by rw[QCB,hml,hkl];omega)
 have hin:=Qbq (Qb6 (QaQ key) 54++bs)
 have hT:=QaI key bs
 have hsum:=fun A n c w hx=>Qo8 A n c [Qb6 (QaQ key) 92,QhA key bs] w hx
 rw[←QqY]at hsum
 generalize Qbm key bs=T at *
 have hmk:(Qb6 (QaQ key) 92).length=64:=by rw[Qb8,hkl]
 have hmi:=QbX key
 have hf:[Qb6 (QaQ key) 92,QhA key bs].flatten.length=96:=by simp[hmk,QhA,Qbq]
 unfold QhA at *
 generalize Qcx (Qb6 (QaQ key) 54++bs)=I at *
 generalize Qb6 (QaQ key) 54++bs=X at *
 have hmm:=fun w=>QjX (QaQ key) 92 w hkl
 generalize Qb6 (QaQ key) 92=M at *
 generalize QaQ key=K at *
 have HS:=hid hs
 have HSUM:=hid hsum
 have HF:=hid hf
 have HMM:=hid hmm
 clear hs hsum hf hmm
 have hkm:(K.map W8).length=64:=by simpa using hkl
 go_enter Tryz.func155,Tryz.ntmps155
 go_wp2_with (first
  | (go_at_call 163;refine (HS.out g 274 (K.map W8) _ (hh.later (Qaa _ _))).mono ?_;rintro e w1 ⟨rfl,hl1⟩)
  | (refine Qaj rfl rfl 79 _ _ rfl w1.heap.size 0 79 (QCn 32 (W8 0)) (I.map W8) ?b ?hx ?hy ?hi ?hf ?h1 ?_;(case hx=>rfl);(case hy=>rfl);(case hi=>rw[QCt,hin];kernel_rfl);(case hf=>simp[hin]);(case h1=>exact QaE _);(case b=>exact Blk.new _ _ _);intro w2 hb2 ho2
     rw[Qao _ _ (by simp[hin])]at hb2))
 have z1:w.heap.size+1≤w1.heap.size:=by have:=hl1.size;simpa using this
 have hh2:=(((hh.later (Qaa _ _)).later hl1).later (Qaa _ _)).only ho2 (by have:=hh.lt;omega)
 have hR2:Blk w2 w.heap.size 79 (QCn 32 (W8 0)):=(((Blk.new w _ _).later hl1).later (Qaa _ _)).only ho2 (by omega)
 have hL2:Later w w2:=(((Qaa w _).trans hl1).alloc _).only ho2 (by omega)
 clear hl1 ho2 hh
 generalize w1.heap.size=g1 at *
 have hh3:=hh2.later (Qab _)
 refine Qad [([0,1,2,3,5],4)] [] [6,7,8] (by as_aux_lemma=>kernel_rfl) (by as_aux_lemma=>kernel_rfl) (by intro _ _ d _ _ h;cases d<;>exact h) ?_
 simp only[Qai,pick,QCo,QCp,QCq,QCr,QCs]
 repeat (first|go_big_quiet_skip|(go_big_quiet_want;refine QaN 270 _ rfl g 73 (K.map W8) ?hc ?hx _ Tryz.underlying270 rfl ?hi ?_;(case hx=>rfl);(case hi=>rw[hkm];kernel_rfl);(case hc=>rintro w' ⟨x,rfl⟩;exact (hh3.later ⟨x,rfl⟩).restD);simp only[Act.put,QCw,QCz,QCy];go_big_quiet_on)|(go_big_quiet_step (fail)))
 refine wpQuiet_nil ?_
 go_wp2_with (go_at_call 161;refine (HMM.out _).mono ?_;rintro e w3 ⟨A3,c3,rfl,hown3,hl3⟩)
 try refine⟨by first|assumption|exact Qab _|exact Qaa _ _|exact Later.refl _,?_⟩
 try simp only[Qai,pick,QCo,QCp,QCq,QCr,QCs]
 repeat (go_big_quiet_step (fail))
 refine wpQuiet_nil ?_
 have hb3:=(hb2.later (Qab _)).later hl3
 have hR3:=(hR2.later (Qab _)).later hl3
 have hL3:=(hL2.drew).trans hl3
 go_wp2_with (first
  | (go_at_call 164;refine (HSUM.out (some ⟨w3.heap.size,0,none⟩) 2 2 _ ?hx (by omega) (by rw[HF.out];omega)).mono ?_
     (case hx=>exact Qgy ((Blk.new w3 32 [.slice A3 64 c3,.slice (some ⟨g1,0,none⟩) 32 32]).rd rfl) ⟨QbS (RdB.later hown3.rd (Qaa _ _)) hown3.cap,QbS ((hb3.later (Qaa _ _)).rd (by simp[hin])) (by omega),trivial⟩)
     rintro e w4 ⟨rfl,hl4⟩)
  | (refine Qaj rfl rfl 79 _ _ rfl w.heap.size 0 79 (QCn 32 (W8 0)) (T.map W8) ?b ?hx ?hy ?hi ?hf ?h1 ?_;(case hx=>rfl);(case hy=>rfl);(case hi=>rw[QCt,hT];kernel_rfl);(case hf=>simp[hT]);(case h1=>exact QaE _);(case b=>exact (hR3.later (Qaa _ _)).later hl4);intro w5 hb5 ho5
     rw[Qao _ _ (by simp[hT])]at hb5))
 exact bodyPost_ret (QaF rfl _ _ _ _ (T.map W8) _ hb5 rfl Tryz.underlying79 rfl (by rw[QCt,hT];kernel_rfl)) rfl ⟨rfl,(((hL3.alloc _).trans hl4)).only ho5 (QCx _)⟩
theorem TagAt.write {w:World} {g:Nat} {key bs x:List UInt8} (h:HashAt w g 274 ((QaQ key).map W8) ((Qb6 (QaQ key) 54++bs)++x)):TagAt w g key (bs++x):=by
 unfold TagAt
 rw[←QCL]
 exact h
set_option maxRecDepth 100000 in
set_option maxHeartbeats 1000000 in
theorem QkL (A B:Option Addr) (n c m d:Nat) (key:List UInt8) (ps:List (List UInt8)) (w:World) (hx:RdB w A n key) (hc:n≤c) (hn:n≤140737488355328) (hp:Parts w (fun _=>False) B m ps) (hm:m≤140737488355328) (hlen:ps.flatten.length≤2305843009213690000):
 Calls Tryz.prog 136 #[.slice A n c,.slice B m d] w fun e w'=>e= .returned (.agg ((Qbm key ps.flatten).map W8).toArray)∧Later w w':=by
 have hT:=QaI key ps.flatten
 have hs:=fun g w hh=>Qp3 g key ps.flatten w hh (by omega)
 have hw:=fun g bs n c w hh hx hm=>Qi1 g 274 ((QaQ key).map W8) bs B n c ps w hh hx hm
 generalize Qbm key ps.flatten=T at *
 have hml:(Qb6 (QaQ key) 54).length=64:=by rw[Qb8,QbX]
 have HS:=hid hs
 have HW:=hid hw
 clear hs hw
 go_enter Tryz.func136,Tryz.ntmps136
 go_wp2_with (first
  | (go_at_call 153;refine (Qj9 A n c key _ (hx.later (Qaa _ _)) hc hn).mono ?_;rintro e w1 ⟨g,rfl,hg,hh1,hl1⟩)
  | (go_at_call 154;refine (HW.out g _ m d _ hh1 ?hx hm ?hl).mono ?_
     (case hx=>exact (hp.more (fun b hb=>.inr (by subst hb;simp at hg;omega))).later ((Qaa _ _).trans hl1))
     (case hl=>rw[QC1,hml];omega)
     rintro e w2 ⟨rfl,hh2,ho2⟩
     have ht2:=TagAt.write hh2
     rw[QCs]at ht2)
  | (go_at_call 155;refine (HS.out g _ ht2).mono ?_;rintro e w3 ⟨rfl,hl3⟩)
  | (refine Qaj rfl rfl 79 _ _ rfl w.heap.size 0 79 (QCn 32 (W8 0)) (T.map W8) ?b ?hx ?hy ?hi ?hf ?h1 ?_;(case hx=>rfl);(case hy=>rfl);(case hi=>rw[QCt,hT];kernel_rfl);(case hf=>simp[hT]);(case h1=>exact QaE _);(case b=>exact (((Blk.new w _ _).later hl1).only ho2 (by simp at hg;omega)).later hl3);intro w5 hb5 ho5
     rw[Qao _ _ (by simp[hT])]at hb5))
 exact bodyPost_ret (QaF rfl _ _ _ _ (T.map W8) _ hb5 rfl Tryz.underlying79 rfl (by rw[QCt,hT];kernel_rfl)) rfl
  ⟨rfl,((((Qaa w _).trans hl1).only ho2 (by simp at hg;omega)).trans hl3).only ho5 (QCx _)⟩
theorem Qz8 (G:List UInt8) (h:G.length=32):Qau (QCn 16 (W8 0)) 0 ((G.map W8).take 16)=(G.take 16).map W8:=by
 rw[Qao _ _ (by simp[h]),QDB]
set_option maxRecDepth 100000 in
theorem QnB (G:List UInt8) (hG:G.length=32) (w:World):
 Calls Tryz.prog 151 #[.agg (G.map W8).toArray] w fun e w'=>∃A c,e= .returned (.slice A 16 c)∧OwnB w' w.heap.size A 16 c (G.take 16)∧Later w w':=by
 have hb0:=Blk.new w 79 (G.map W8)
 have ht:=Qz8 G hG
 have hl16:(G.take 16).length=16:=by simp[hG]
 have hgl:(G.map W8).length=32:=by simp[hG]
 have h1:=QaE G
 generalize G.take 16=F at *
 generalize G.map W8=gl at *
 have HT:=hid ht
 clear ht
 go_enter Tryz.func151,Tryz.ntmps151
 go_wp2_with (first
  | (refine QaH rfl _ _ _ rfl 5 _ 1 Tryz.underlying32 QbW rfl _ _ _ _ 16 rfl rfl ?hL ?hC (by omega) (by omega) ?_;(case hL=>rfl);(case hC=>rfl);intro w1 hb1 hl1;simp only[World.size_alloc]at hb1)
  | (refine Qax rfl _ _ _ _ rfl 5 Tryz.underlying32 QbR (w.heap.size+1) 0 16 16 5 (QCn 16 (W8 0)) hb1 (some ⟨w.heap.size,0,none⟩) 32 32 gl ((hb0.later hl1).rd hgl) h1 rfl rfl (by simp) ?_;intro w4 hb4 ho4
     rw[HT.out]at hb4))
 go_ret
 refine⟨_,_,rfl,?_,((Qaa w _).trans hl1).only ho4 (by omega)⟩
 have:=Qck hb4 (show w.heap.size≤w.heap.size+1 by omega) (by simp[hl16])
 rwa [QCt,hl16]at this
theorem Qrd (A B:Option Addr) (n c m d:Nat) (key:List UInt8) (ps:List (List UInt8)) (w:World) (hx:RdB w A n key) (hc:n≤c) (hn:n≤140737488355328) (hp:Parts w (fun _=>False) B m ps) (hm:m≤140737488355328) (hlen:ps.flatten.length≤2305843009213690000):
 Calls Tryz.prog 131 #[.slice A n c,.slice B m d] w fun e w'=>∃A' c',e= .returned (.slice A' 16 c')∧OwnB w' w.heap.size A' 16 c' ((Qbm key ps.flatten).take 16)∧Later w w':=by
 have hT:=QaI key ps.flatten
 have hs:=hid (QkL A B n c m d key ps w hx hc hn hp hm hlen)
 generalize Qbm key ps.flatten=T at *
 have hf:=hid (fun w=>QnB T hT w)
 go_enter Tryz.func131,Tryz.ntmps131
 go_wp2_with (first
  | (go_at_call 136;refine hs.out.mono ?_;rintro e w1 ⟨rfl,hl1⟩)
  | (go_at_call 151;refine (hf.out _).mono ?_;rintro e w2 ⟨A2,c2,rfl,hown2,hl2⟩))
 go_ret
 exact⟨A2,c2,rfl,hown2.mono hl1.size,hl1.trans hl2⟩
theorem QrS (A B C:Option Addr) (n c m d k e0:Nat) (key tag:List UInt8) (ps:List (List UInt8)) (w:World) (hx:RdB w A n key) (hc:n≤c) (hn:n≤140737488355328) (ht:RdB w C k tag) (hk:k≤140737488355328)
 (hp:Parts w (fun _=>False) B m ps) (hm:m≤140737488355328) (hlen:ps.flatten.length≤2305843009213690000):
 Calls Tryz.prog 105 #[.slice A n c,.slice C k e0,.slice B m d] w fun e w'=>e= .returned (.bool (decide ((Qbm key ps.flatten).take 16=tag)))∧Later w w':=by
 have hs:=hid (Qrd A B n c m d key ps w hx hc hn hp hm hlen)
 have hl16:((Qbm key ps.flatten).take 16).length=16:=by simp[QaI]
 generalize (Qbm key ps.flatten).take 16=S at *
 have hq:=hid (fun A c w hx hy=>QuF A C 16 k c e0 S tag w hx hy (by omega) hk)
 generalize decide (S=tag)=R at *
 go_enter Tryz.func105,Tryz.ntmps105
 go_wp2_with (first
  | (go_at_call 131;refine hs.out.mono ?_;rintro e w1 ⟨A1,c1,rfl,hown1,hl1⟩)
  | (go_at_call 130;refine (hq.out A1 c1 _ hown1.rd (ht.later hl1)).mono ?_;rintro e w2 ⟨rfl,hl2⟩))
 go_ret
 exact⟨rfl,hl1.trans hl2⟩
def Qdk (l:List UInt8) (m:UInt8) (k:Nat):List UInt8:=Qb6 (l.take k) m++l.drop k
theorem QnG (l:List UInt8) (m:UInt8) (k:Nat) (h:k<l.length):(Qdk l m k)[k]?=some (l.getD k 0)∧(Qdk l m k).set k (l.getD k 0 ^^^ m)=Qdk l m (k+1):=by
 have h1:(Qb6 (l.take k) m).length=k:=by simp[Qb6];omega
 have h2:l.drop k=l[k] :: l.drop (k+1):=QDp h
 have h3:l.getD k 0=l[k]:=by rw[QCu,QCv h];rfl
 constructor
 ·rw[Qdk,QCF (by omega),h1,h2,h3]
  simp
 ·rw[Qdk,Qdk,QCX _ _ (by omega),h1,h2,h3,QCY h,QEB,QCy]
  simp only[Qb6,QC6,QCL,QCR,QCC,QCr,QCs]
theorem Qkk (l:List UInt8) (m:UInt8) (k:Nat) (h:k≤l.length):(Qdk l m k).length=l.length:=by
 simp[Qdk,Qb6]
 omega
theorem QpQ (l:List UInt8) (m:UInt8) (n:Nat) (h:l.length=n):Qdk l m n=Qb6 l m:=by
 simp[Qdk,←h]
theorem Qnr (l:List UInt8) (m:UInt8):Qdk l m 0=l:=by simp[Qdk,Qb6]
set_option maxRecDepth 100000 in
set_option maxHeartbeats 1000000 in
theorem Qhm (A:Option Addr) (n c:Nat) (key:List UInt8) (m:UInt8) (w:World) (hx:RdB w A n key) (hn:n≤70368744177664):
 Calls Tryz.prog 122 #[.slice A n c,W8 m] w fun e w'=>∃A' c',e= .returned (.slice A' 64 c')∧OwnB w' w.heap.size A' 64 c' (Qb6 (QaQ key) m)∧Later w w':=by
 have hl:=hx.len
 have hkl:=QbX key
 have hml:=Qb8 (QaQ key) m
 have hks:∀k,k<64→(Qdk (QaQ key) m k)[k]?=some ((QaQ key).getD k 0)∧(Qdk (QaQ key) m k).set k ((QaQ key).getD k 0 ^^^ m)=Qdk (QaQ key) m (k+1):=fun k h=>QnG _ m k (by omega)
 have hkm:∀k,k≤64→(Qdk (QaQ key) m k).length=64:=fun k h=>by rw[Qkk _ m k (by omega),hkl]
 have hka:=QpQ (QaQ key) m 64 hkl
 have hk0:=Qnr (QaQ key) m
 by_cases h64:64<n
 all_goals
  first
   | have hk:QaQ key=Qcx key++QCn (64-(Qcx key).length) 0:=by rw[QaQ,QlD,if_pos (by omega)]
   | have hk:QaQ key=key++QCn (64-key.length) 0:=by rw[QaQ,QlD,if_neg (by omega)]
  have HK:=hid hk
  have HKS:=hid hks
  have HKM:=hid hkm
  clear hk hks hkm
  have hs:=hid (Qnd A n c key)
  have hG:=Qbq key
  generalize Qcx key=G at *
  generalize QaQ key=K at *
  go_enter Tryz.func122,Tryz.ntmps122
  go_wp2_with (first
   | (refine QaH rfl _ _ _ rfl 5 _ 1 Tryz.underlying32 QbW rfl _ _ _ _ 64 rfl rfl ?hL ?hC (by omega) (by omega) ?_;(case hL=>rfl);(case hC=>rfl);intro w1 hb1 hl1)
   | (go_at_call 121;refine (hs.out _ (hx.later hl1) (by omega)).mono ?_;rintro e w2 ⟨rfl,hl2⟩)
   | (refine Qaj rfl rfl 79 _ _ rfl w2.heap.size 0 79 (QCn 32 (W8 0)) (G.map W8) ?b ?hx ?hy ?hi ?hf ?h1 ?_;(case hx=>rfl);(case hy=>rfl);(case hi=>rw[QCt,hG];kernel_rfl);(case hf=>simp[hG]);(case h1=>exact QaE _);(case b=>exact Blk.new _ _ _);intro w3 hb3 ho3
      rw[Qao _ _ (by simp[hG])]at hb3
      have z2:=hl2.size
      have hb13:=((hb1.later hl2).later (Qaa _ _)).only ho3 (by have:=hb1.lt;omega)
      have hl3:=(((hl1.trans hl2).alloc _).only ho3 (by have:=hl1.size;omega)))
   | (refine Qax rfl _ _ _ _ rfl 5 Tryz.underlying32 QbR w.heap.size 0 64 64 5 (QCn 64 (W8 0)) hb13 (some ⟨w2.heap.size,0,none⟩) 32 32 (G.map W8) (hb3.rd (by simp[hG])) (QaE _) rfl rfl (by simp) ?_;intro w4 hb4 ho4
      rw[Qfw G (by omega),←HK.out,←hk0]at hb4
      have hl4:=hl3.only ho4 (QCx _))
   | (refine Qax rfl _ _ _ _ rfl 5 Tryz.underlying32 QbR w.heap.size 0 64 64 5 (QCn 64 (W8 0)) hb1 A n c (key.map W8) (RdB.later hx hl1) (QaE _) rfl rfl (by simp) ?_;intro w4 hb4 ho4
      rw[Qfw key (by omega),←HK.out,←hk0]at hb4
      have hl4:=hl1.only ho4 (QCx _)))
  go_loopw [7] (fun i wr=>∃j:Nat,j≤64∧i= .int .i64 j∧Later w wr∧Blk wr w.heap.size 5 ((Qdk K m j).map W8)) (fun i _=>64-(intOf i).toNat)
  case atStart=>exact⟨0,by omega,rfl,hl4,hb4⟩
  case round=>
   clear hb4 hl4
   obtain⟨j,hj,rfl,hl,hb⟩:=hrel
   by_cases hlt:j<64
   ·obtain⟨e1,e2⟩:=HKS.out j hlt
    have hfl:=HKM.out j hj
    have d0:=hb.cellD j (QyS e1)
    have HST:=hid e2
    clear e1 e2
    generalize K.getD j 0=x at *
    go_wp2_with (first
     | (refine Qac rfl rfl _ _ _ rfl _ _ _ _ hb rfl ?hl rfl (by kernel_rfl) ?_;(case hl=>rw[QCt,hfl];omega);intro v' w5 hv' hb5 ho5;simp[go_sem]at hv';subst hv'))
    go_roundw
    case rel=>
     refine⟨j+1,by omega,by go_num,hl.only ho5 (by omega),?_⟩
     rw[←HST.out,←Qby]
     exact hb5
    case measure=>simp only[intOf];omega
   ·have hj':j=64:=by omega
    rw[hj',hka]at hb
    go_wp2
    go_ret
    refine⟨_,_,rfl,?_,hl⟩
    have:=Qck hb (QCx _) (by simp[hml,hkl])
    rwa [QCt,hml,hkl]at this
set_option maxRecDepth 100000 in
set_option maxHeartbeats 1000000 in
theorem QkK (A B:Option Addr) (n c m d:Nat) (key bs:List UInt8) (w:World) (hx:RdB w A n key) (hn:n≤70368744177664) (hb:RdB w B m bs) (hm:m≤35184372088832):
 Calls Tryz.prog 120 #[.slice A n c,.slice B m d] w fun e w'=>e= .returned (.agg ((QhA key bs).map W8).toArray)∧Later w w':=by
 have hbl:=hb.len
 have hml:(Qb6 (QaQ key) 54).length=64:=by rw[Qb8,QbX]
 have hI:=Qbq (Qb6 (QaQ key) 54++bs)
 have hs:=hid (fun A n c w h=>Qnd A n c (Qb6 (QaQ key) 54++bs) w h)
 have hk:=hid (fun w h=>Qhm A n c key 54 w h hn)
 unfold QhA
 generalize Qcx (Qb6 (QaQ key) 54++bs)=I at *
 generalize Qb6 (QaQ key) 54=M at *
 go_enter Tryz.func120,Tryz.ntmps120
 go_wp2_with (first
  | (go_at_call 122;refine (hk.out _ (hx.later (Qaa _ _))).mono ?_;rintro e w1 ⟨A1,c1,rfl,hown1,hl1⟩)
  | (refine Qas rfl _ _ _ rfl 5 _ 1 Tryz.underlying32 QbW rfl _ _ 64 _ hown1 hl1 B m d _ (hb.later ((Qaa _ _).trans hl1)) (QaE _) rfl rfl (by omega) (by omega) ?_;intro A2 c2 w2 hown2 hl2 _ _
     have hown2':=QiM hown2 rfl rfl)
  | (go_at_call 121;refine (hs.out A2 (64+m) c2 _ (OwnB.rd hown2') (by omega)).mono ?_;rintro e w3 ⟨rfl,hl3⟩)
  | (refine Qaj rfl rfl 79 _ _ rfl w.heap.size 0 79 (QCn 32 (W8 0)) (I.map W8) ?b ?hx ?hy ?hi ?hf ?h1 ?_;(case hx=>rfl);(case hy=>rfl);(case hi=>rw[QCt,hI];kernel_rfl);(case hf=>simp[hI]);(case h1=>exact QaE _);(case b=>exact ((Blk.new w _ _).later hl2).later hl3);intro w5 hb5 ho5
     rw[Qao _ _ (by simp[hI])]at hb5))
 exact bodyPost_ret (QaF rfl _ _ _ _ (I.map W8) _ hb5 rfl Tryz.underlying79 rfl (by rw[QCt,hI];kernel_rfl)) rfl ⟨rfl,((Qaa w _).trans (hl2.trans hl3)).only ho5 (QCx _)⟩
set_option maxRecDepth 100000 in
set_option maxHeartbeats 1000000 in
theorem Qev (A B:Option Addr) (n c m d:Nat) (key bs:List UInt8) (w:World) (hx:RdB w A n key) (hn:n≤70368744177664) (hb:RdB w B m bs) (hm:m≤35184372088832):
 Calls Tryz.prog 96 #[.slice A n c,.slice B m d] w fun e w'=>e= .returned (.agg ((Qbm key bs).map W8).toArray)∧Later w w':=by
 have hml:(Qb6 (QaQ key) 92).length=64:=by rw[Qb8,QbX]
 have hI:(QhA key bs).length=32:=Qbq _
 have hT:=QaI key bs
 have hi:=hid (fun w h1 h2=>QkK A B n c m d key bs w h1 hn h2 hm)
 have hk:=hid (fun w h=>Qhm A n c key 92 w h hn)
 have hs:=fun A n c w h=>Qnd A n c (Qb6 (QaQ key) 92++QhA key bs) w h
 have he:Qcx (Qb6 (QaQ key) 92++QhA key bs)=Qbm key bs:=rfl
 rw[he]at hs
 have HS:=hid hs
 clear hs he
 generalize Qbm key bs=T at *
 generalize QhA key bs=I at *
 generalize Qb6 (QaQ key) 92=M at *
 go_enter Tryz.func96,Tryz.ntmps96
 go_wp2_with (first
  | (go_at_call 120;refine (hi.out _ (hx.later (Qaa _ _)) (hb.later (Qaa _ _))).mono ?_;rintro e w1 ⟨rfl,hl1⟩)
  | (refine Qaj rfl rfl 79 _ _ rfl w1.heap.size 0 79 (QCn 32 (W8 0)) (I.map W8) ?b ?hx ?hy ?hi ?hf ?h1 ?_;(case hx=>rfl);(case hy=>rfl);(case hi=>rw[QCt,hI];kernel_rfl);(case hf=>simp[hI]);(case h1=>exact QaE _);(case b=>exact Blk.new _ _ _);intro w2 hb2 ho2
     rw[Qao _ _ (by simp[hI])]at hb2))
 have z1:w.heap.size+1≤w1.heap.size:=by have:=hl1.size;simpa using this
 have hR2:Blk w2 w.heap.size 79 (QCn 32 (W8 0)):=(((Blk.new w _ _).later hl1).later (Qaa _ _)).only ho2 (by omega)
 have hL2:Later w w2:=(((Qaa w _).trans hl1).alloc _).only ho2 (by omega)
 clear hl1 ho2
 generalize w1.heap.size=g1 at *
 refine Qad [([0,2],1)] [] [3,4,5] (by as_aux_lemma=>kernel_rfl) (by as_aux_lemma=>kernel_rfl) (by intro _ _ d _ _ h;cases d<;>exact h) ?_
 simp only[Qai,pick,QCo,QCp,QCq,QCr,QCs]
 repeat (go_big_quiet_step (fail))
 refine wpQuiet_nil ?_
 go_wp2_with (go_at_call 122;refine (hk.out _ (hx.later hL2.drew)).mono ?_;rintro e w3 ⟨A3,c3,rfl,hown3,hl3⟩)
 try refine⟨by first|assumption|exact Qab _|exact Qaa _ _|exact Later.refl _,?_⟩
 try simp only[Qai,pick,QCo,QCp,QCq,QCr,QCs]
 repeat (go_big_quiet_step (fail))
 refine wpQuiet_nil ?_
 go_wp2_with (first
  | (refine Qas rfl _ _ _ rfl 5 _ 1 Tryz.underlying32 QbW rfl _ _ 64 _ hown3 hl3 (some ⟨g1,0,none⟩) 32 32 _ (((hb2.later (Qab _)).later hl3).rd (by simp[hI])) (QaE _) rfl rfl (by omega) (by omega) ?_;intro A4 c4 w4 hown4 hl4 _ _
     have hown4':=QiM hown4 rfl rfl)
  | (go_at_call 121;refine (HS.out A4 96 c4 _ (OwnB.rd hown4') (by omega)).mono ?_;rintro e w5 ⟨rfl,hl5⟩)
  | (refine Qaj rfl rfl 79 _ _ rfl w.heap.size 0 79 (QCn 32 (W8 0)) (T.map W8) ?b ?hx ?hy ?hi ?hf ?h1 ?_;(case hx=>rfl);(case hy=>rfl);(case hi=>rw[QCt,hT];kernel_rfl);(case hf=>simp[hT]);(case h1=>exact QaE _);(case b=>exact ((hR2.later (Qab _)).later hl4).later hl5);intro w6 hb6 ho6
     rw[Qao _ _ (by simp[hT])]at hb6))
 exact bodyPost_ret (QaF rfl _ _ _ _ (T.map W8) _ hb6 rfl Tryz.underlying79 rfl (by rw[QCt,hT];kernel_rfl)) rfl ⟨rfl,((hL2.drew.trans (hl4.trans hl5))).only ho6 (QCx _)⟩
set_option maxRecDepth 100000 in
theorem Ql4 (A B:Option Addr) (n c m d:Nat) (key bs:List UInt8) (w:World) (hx:RdB w A n key) (hn:n≤70368744177664) (hb:RdB w B m bs) (hm:m≤35184372088832):
 Calls Tryz.prog 117 #[.slice A n c,.slice B m d] w fun e w'=>∃A' c',e= .returned (.slice A' 16 c')∧OwnB w' w.heap.size A' 16 c' ((Qbm key bs).take 16)∧Later w w':=by
 have hT:=QaI key bs
 have ht:=hid (Qev A B n c m d key bs w hx hn hb hm)
 generalize Qbm key bs=T at *
 have hl16:(T.take 16).length=16:=by simp[hT]
 go_enter Tryz.func117,Tryz.ntmps117
 go_wp2_with (first
  | (go_at_call 96;refine ht.out.mono ?_;rintro e w1 ⟨rfl,hl1⟩)
  | (refine Qaj rfl rfl 79 _ _ rfl w1.heap.size 0 79 (QCn 32 (W8 0)) (T.map W8) ?b ?hx ?hy ?hi ?hf ?h1 ?_;(case hx=>rfl);(case hy=>rfl);(case hi=>rw[QCt,hT];kernel_rfl);(case hf=>simp[hT]);(case h1=>exact QaE _);(case b=>exact Blk.new _ _ _);intro w2 hb2 ho2
     rw[Qao _ _ (by simp[hT])]at hb2)
  | (go_at_call 32;go_loud (refine (Qcf (some ⟨w1.heap.size,0,none⟩) 16 32 (T.take 16) _ (RdB.take (n:=32) (bs:=T) (hb2.rd (by simp[hT])) (m:=16) (by omega)) (by omega)).mono ?_;rintro e w3 ⟨A3,c3,rfl,hown3,hl3⟩)))
 go_ret
 have hL2:=((hl1.alloc _).only ho2 hl1.size)
 exact⟨A3,c3,rfl,hown3.mono hL2.size,hL2.trans hl3⟩
theorem Qw7 {w:World} {g n:Nat} {t:TypeId} {vs rest:List Value} (h:Blk w g t (vs++rest)) (hn:vs.length=n):Rd w (some ⟨g,0,none⟩) n vs:=
 ⟨hn,fun _=>⟨g,0,rfl,h.lt,fun j u hu=>by rw[QCI];exact h.cellD j (by rw[QCD (QCK.1 hu).1];exact hu)⟩⟩
def hkT (key info:List UInt8):Nat→List UInt8
 | 0=>[]
 | i+1=>Qbm key (hkT key info i++info++[QC9 (i:Int)+1])
def hkO (key info:List UInt8):Nat→List UInt8
 | 0=>[]
 | i+1=>hkO key info i++hkT key info (i+1)
theorem Qj7 (key info:List UInt8) (i:Nat):(hkT key info i).length≤32:=by
 cases i with
 | zero=>simp[hkT]
 | succ i=>rw[hkT,QaI];omega
theorem Qqw (key info:List UInt8) (i:Nat):(hkO key info i).length=32*i:=by
 induction i with
 | zero=>rfl
 | succ i ih=>rw[hkO,QCB,ih,hkT,QaI];omega
def expB (key info:List UInt8) (n:Nat):List UInt8:=(hkO key info ((n+31)/32)).take n
theorem Qh3 (key info:List UInt8) (n:Nat):(expB key info n).length=n:=by
 rw[expB,QCP,Qqw]
 omega
set_option maxRecDepth 100000 in
set_option maxHeartbeats 1000000 in
theorem Qm8 (A B:Option Addr) (n c m d:Nat) (salt secret:List UInt8) (w:World) (hx:RdB w A n salt) (hc:n≤c) (hn:n≤140737488355328) (hy:RdB w B m secret) (hd:m≤d) (hm:m≤140737488355328):
 Calls Tryz.prog 128 #[.slice A n c,.slice B m d] w fun e w'=>e= .returned (.agg ((Qbm salt secret).map W8).toArray)∧Later w w':=by
 have hyl:=hy.len
 have hT:=QaI salt secret
 have hs:=fun B w h=>QkL A B n c 1 1 salt [secret] w h hc hn
 rw[Qcy]at hs
 generalize Qbm salt secret=T at *
 have HS:=hid hs
 clear hs
 go_enter Tryz.func128,Tryz.ntmps128
 go_wp2_with (first
  | (go_at_call 136;refine (HS.out (some ⟨w.heap.size+1,0,none⟩) _ (hx.later ((Qaa _ _).alloc _)) ?hp (by omega) (by omega)).mono ?_
     (case hp=>exact Qgy ((Blk.new' _ 32 [.slice B m d] (by simp)).rd rfl) ⟨QbS (hy.later ((Qaa _ _).alloc _)) hd,trivial⟩)
     rintro e w1 ⟨rfl,hl1⟩)
  | (refine Qaj rfl rfl 79 _ _ rfl w.heap.size 0 79 (QCn 32 (W8 0)) (T.map W8) ?b ?hx ?hy ?hi ?hf ?h1 ?_;(case hx=>rfl);(case hy=>rfl);(case hi=>rw[QCt,hT];kernel_rfl);(case hf=>simp[hT]);(case h1=>exact QaE _);(case b=>exact ((Blk.new w _ _).later (Qaa _ _)).later hl1);intro w6 hb6 ho6
     rw[Qao _ _ (by simp[hT])]at hb6))
 exact bodyPost_ret (QaF rfl _ _ _ _ (T.map W8) _ hb6 rfl Tryz.underlying79 rfl (by rw[QCt,hT];kernel_rfl)) rfl ⟨rfl,(((Qaa w _).alloc _).trans hl1).only ho6 (QCx _)⟩
set_option maxRecDepth 100000 in
set_option maxHeartbeats 1000000 in
theorem QgF (A:Option Addr) (n c:Nat) (ps:List (List UInt8)) (w:World) (hx:Parts w (fun _=>False) A n ps) (hm:n≤140737488355328) (hp:ps.flatten.length≤140737488355328):
 Calls Tryz.prog 38 #[.slice A n c] w fun e w'=>∃A' c',e= .returned (.slice A' ps.flatten.length c')∧OwnB w' w.heap.size A' ps.flatten.length c' ps.flatten∧Later w w':=by
 have hpl:=hx.len
 go_enter Tryz.func38,Tryz.ntmps38
 go_wp2
 go_loopw [3,11] (fun tot i wr=>∃k:Nat,k≤n∧i= .int .i64 k∧tot= .int .i64 ((ps.take k).flatten.length:Nat)∧Later w wr) (fun _ i _=>n-(intOf i).toNat)
 case atStart=>exact⟨0,by omega,rfl,rfl,Later.refl w⟩
 case round=>
  obtain⟨k,hk,rfl,rfl,hl⟩:=hrel
  by_cases hlt:k<n
  ·obtain⟨b,o,Ak,nk,ck,rfl,hb,hck,hcap,hrd,_⟩:=(hx.later hl).at_ hlt
   have hle:=Qc2 ps (k+1)
   have hql:=hrd.len
   have hs':(ps.take (k+1)).flatten=(ps.take k).flatten++ps.getD k []:=by rw[QfW ps k (by omega)];simp
   have hll:(ps.take (k+1)).flatten.length=(ps.take k).flatten.length+nk:=by rw[hs',QCB,hql]
   have HL:=hid hll
   rw[hll]at hle
   clear hs' hll
   generalize (ps.take k).flatten.length=fl at *
   generalize ps.getD k []=q at *
   go_wp2
   refine⟨⟨k+1,by omega,by go_num,by rw[HL.out];go_num,hl⟩,by simp only[intOf];omega⟩
  ·have hkn:k=n:=by omega
   subst hkn
   have hfe:(ps.take k).flatten.length=ps.flatten.length:=by rw[QCE (by omega)]
   rw[hfe]
   have HF:=hid hfe
   clear hfe
   generalize hFl:ps.flatten.length=fl at *
   go_wp2_with (first
    | (refine Qc1 rfl _ _ _ rfl 5 _ 1 Tryz.underlying32 QbW rfl _ _ _ _ 0 fl rfl rfl ?hL ?hC (by omega) (by omega) (by omega) ?_;(case hL=>rfl);(case hC=>rfl);intro w1 hown1 hl1))
   go_loopw [6,24] (fun out i w2=>∃(j:Nat) (A':Option Addr) (m c':Nat),j≤k∧i= .int .i64 j∧out= .slice A' m c'∧OwnB w2 w.heap.size A' m c' (ps.take j).flatten∧Later w w2) (fun _ i _=>k-(intOf i).toNat)
   case atStart=>exact⟨0,_,_,_,by omega,rfl,rfl,Qbb hown1 hl.size,hl.trans hl1⟩
   case round=>
    clear hown1 hl1
    obtain⟨j,A',m,c',hj,rfl,rfl,hown,hl2⟩:=hrel
    by_cases hlt2:j<k
    ·obtain⟨b,o,Ak,nk,ck,rfl,hb,hck,hcap,hrd,_⟩:=(hx.later hl2).at_ hlt2
     have hml:=hown.len
     have hle:=Qc2 ps (j+1)
     have hlen:=hrd.len
     have hs':(ps.take (j+1)).flatten=(ps.take j).flatten++ps.getD j []:=by rw[QfW ps j (by omega)];simp
     rw[hs',QCB]at hle
     have HS:=hid hs'
     clear hs'
     generalize ps.getD j []=q at *
     generalize (ps.take j).flatten=F at *
     go_wp2_with (first
      | (refine Qas rfl _ _ _ rfl 5 _ 1 Tryz.underlying32 QbW rfl w _ m _ hown hl2 Ak nk ck _ hrd (QaE _) rfl rfl (by omega) (by omega) ?_;intro A2 c2 w2' hown2 hl2' hg2 _))
     refine⟨⟨j+1,A2,m+nk,c2,by omega,by go_num,rfl,?_,hl2'⟩,by simp only[intOf];omega⟩
     rw[HS.out]
     exact QiM hown2 rfl rfl
    ·have hjk:j=k:=by omega
     rw[hjk,QCE (by omega)]at hown
     have hml:=hown.len
     rw[hFl]at hml
     subst hml
     go_wp2
     go_ret
     exact⟨_,_,by rw[hFl];rfl,by rw[hFl];exact hown,hl2⟩
def Front (w:World) (base:Nat) (A:Option Addr) (n:Nat) (bs:List UInt8):Prop:=
 bs.length=n∧((A=none∧n=0)∨∃g rest,A=some ⟨g,0,none⟩∧base≤g∧Blk w g 5 (bs.map W8++rest))
theorem Front.rd {w:World} {base:Nat} {A:Option Addr} {n:Nat} {bs:List UInt8} (h:Front w base A n bs):RdB w A n bs:=by
 obtain⟨h1,h2⟩:=h
 rcases h2 with ⟨rfl,rfl⟩|⟨g,rest,rfl,_,hb⟩
 ·obtain rfl:bs=[]:=QC0 h1
  exact QkJ w
 ·exact Qw7 hb (by simpa using h1)
theorem Front.later {w w':World} {base:Nat} {A:Option Addr} {n:Nat} {bs:List UInt8} (h:Front w base A n bs) (hl:Later w w'):Front w' base A n bs:=by
 obtain⟨h1,h2⟩:=h
 exact⟨h1,h2.imp id fun ⟨g,rest,e,hb,hk⟩=>⟨g,rest,e,hb,hk.later hl⟩⟩
theorem Qr9 {w:World} {base:Nat} {A:Option Addr} {n c m:Nat} {bs:List UInt8} (h:OwnB w base A n c bs) (hm:m≤n):Front w base A m (bs.take m):=by
 have hl:=h.len
 refine⟨by rw[QCP];omega,?_⟩
 rcases Qkz h with ⟨rfl,rfl⟩|⟨g,rest,rfl,hb,hk,_⟩
 ·exact .inl ⟨rfl,by omega⟩
 ·refine .inr ⟨g,(bs.drop m).map W8++rest,rfl,hb,?_⟩
  rw[←QCL,←QC6,QC3]
  exact hk
theorem QzX:(79:TypeId)≠5:=by decide
def LastAt (w:World) (v:Value) (k:Nat) (T:List UInt8):Prop:=
 (k=0∧v= .slice none 0 0∧T=[])∨∃g,0<k∧v= .slice (some ⟨g,0,none⟩) 32 32∧T.length=32∧Blk w g 79 (T.map W8)
theorem LastAt.rd {w:World} {v:Value} {k:Nat} {T:List UInt8} (h:LastAt w v k T):∃A n c,v= .slice A n c∧n≤c∧RdB w A n T:=by
 rcases h with ⟨_,rfl,rfl⟩|⟨g,_,rfl,hl,hb⟩
 ·exact⟨none,0,0,rfl,QCx _,QkJ w⟩
 ·exact⟨_,32,32,rfl,QCx _,hb.rd (by simpa using hl)⟩
theorem Qj3 (a b c:List UInt8):[a,b,c].flatten=a++b++c:=by simp
set_option maxRecDepth 100000 in
set_option maxHeartbeats 2000000 in
theorem QsU (A B:Option Addr) (n c m d:Nat) (N:Nat) (key:List UInt8) (ps:List (List UInt8)) (w:World) (hx:RdB w A n key) (hc:n≤c) (hn:n≤140737488355328) (hp:Parts w (fun _=>False) B m ps) (hm:m≤140737488355328) (hlen:ps.flatten.length≤70368744177664) (hN:N≤8160):
 Calls Tryz.prog 129 #[.slice A n c,.int .i64 N,.slice B m d] w fun e w'=>∃A',e= .returned (.tuple #[.slice A' N N,.int .i64 0])∧Front w' w.heap.size A' N (expB key ps.flatten N)∧Later w w':=by
 have hj:=hid (QgF B m d ps w hp hm (by omega))
 generalize ps.flatten=F at *
 generalize hFl:F.length=fl at *
 go_enter Tryz.func129,Tryz.ntmps129
 go_wp2_with (first
  | (go_at_call 38;refine hj.out.mono ?_;rintro e w1 ⟨A1,c1,rfl,hown1,hl1⟩)
  | (refine Qc1 rfl _ _ _ rfl 5 _ 1 Tryz.underlying32 QbW rfl _ _ _ _ 0 (N+32) rfl rfl ?hL ?hC (by omega) (by omega) (by omega) ?_;(case hL=>rfl);(case hC=>go_num);intro w2 hown2 hl2))
 have hown2':OwnB w2 w1.heap.size (some ⟨w1.heap.size,0,none⟩) 0 (N+32) []:=hown2
 have hlt1:=Qic hown1
 have hcap1:=hown1.cap
 go_loopw [9,10,11] (fun out last i wr=>∃(k:Nat) (A9:Option Addr) (c9:Nat),i= .int .i64 ((k:Int)+1)∧(k=0∨32*(k-1)<N)∧out= .slice A9 (32*k) c9∧LastAt wr last k (hkT key F k)∧OwnB wr w1.heap.size A9 (32*k) c9 (hkO key F k)∧Later w1 wr) (fun _ _ i _=>8200-32*(intOf i).toNat)
 case atStart=>exact⟨0,_,_,rfl,.inl rfl,rfl,.inl ⟨rfl,rfl,rfl⟩,hown2',hl2⟩
 case round=>
  clear hown2 hown2' hl2
  obtain⟨k,A9,c9,rfl,hkN,rfl,hlast,hown,hl⟩:=hrel
  have hcap9:=hown.cap
  by_cases hlt:32*k<N
  ·obtain⟨A10,l10,c10,rfl,hc10,hr10⟩:=hlast.rd
   have hkl:=Qj7 key F k
   have hl10:=hr10.len
   have hT:(hkT key F (k+1)).length=32:=by rw[hkT,QaI]
   have ht:=fun B w h1 h2=>QkL A B n c 3 3 key [hkT key F k,F,[QC9 (k:Int)+1]] w h1 hc hn h2
   have he:Qbm key [hkT key F k,F,[QC9 (k:Int)+1]].flatten=hkT key F (k+1):=by rw[Qj3,hkT]
   rw[he,Qj3]at ht
   have hfl:(hkT key F k++F++[QC9 (k:Int)+1]).length≤70368744177700:=by simp;omega
   have ho':hkO key F (k+1)=hkO key F k++hkT key F (k+1):=rfl
   have HT:=hid ht
   have HO:=hid ho'
   clear ht he ho'
   generalize hT1:hkT key F (k+1)=T at *
   generalize hkT key F k=Tk at *
   generalize hkO key F k=O at *
   have HT1:=hid hT1
   clear hT1
   have hltN:((32*k:Nat):Int)<(N:Int):=by omega
   go_wp2_with (first
    | (go_at_call 136;refine (HT.out (some ⟨wr.heap.size+1,0,none⟩) _ (hx.later ((hl1.trans hl).trans ((Qaa _ _).alloc _))) ?hp (by omega) (by omega)).mono ?_
       (case hp=>exact Qgy ((Blk.new' _ 32 [.slice A10 l10 c10,.slice A1 fl c1,.slice (some ⟨wr.heap.size,0,none⟩) 1 1] (by simp)).rd rfl) ⟨QbS (hr10.later ((Qaa _ _).alloc _)) hc10,QbS ((hown1.later hl).later ((Qaa _ _).alloc _)).rd hcap1,QbS (((Blk.new wr 5 [W8 (QC9 (k:Int)+1)]).later (Qaa _ _)).rd rfl) (by omega),trivial⟩)
       rintro e w3 ⟨rfl,hl3⟩)
    | (refine Qaj rfl rfl 79 _ _ rfl w3.heap.size 0 79 (QCn 32 (W8 0)) (T.map W8) ?bk ?hx ?hy ?hi ?hf ?h1 ?_;(case hx=>rfl);(case hy=>rfl);(case hi=>rw[QCt,hT];kernel_rfl);(case hf=>simp[hT]);(case h1=>exact QaE _);(case bk=>exact Blk.new _ _ _);intro w4 hb4 ho4
       rw[Qao _ _ (by simp[hT])]at hb4
       have L3:=((Qaa wr _).alloc _).trans hl3
       have hown4:=Qb9 (Qap (Qap hown L3) (Qaa _ _)) ho4 (fun b hb=>by have:=Qic hown b hb;have:=L3.size;omega)
       have hl4:=((hl.trans L3).alloc _).only ho4 (by have:=(hl.trans L3).size;omega))
    | (refine Qas rfl _ _ _ rfl 5 _ 1 Tryz.underlying32 QbW rfl w1 _ (32*k) _ hown4 hl4 (some ⟨w3.heap.size,0,none⟩) 32 32 _ (hb4.rd (by simp[hT])) (QaE _) rfl rfl (by omega) (by omega) ?_;intro A5 c5 w5 hown5 hl5 hg5 _
       have hb5:=QgE hb4 hown4 QzX hg5
       have hown5':=QiM hown5 rfl (show 32*k+32=32*(k+1) by omega)))
   refine⟨⟨k+1,A5,c5,by go_num,.inr (by omega),by rw[show 32*k+32=32*(k+1) by omega],?_,?_,hl5⟩,by simp only[intOf];omega⟩
   ·exact .inr ⟨w3.heap.size,by omega,rfl,by rw[HT1.out];exact hT,by rw[HT1.out];exact hb5⟩
   ·rw[HO.out]
    exact hown5'
  ·have hk:k=(N+31)/32:=by omega
   have hltN: ¬((32*k:Nat):Int)<(N:Int):=by omega
   have hNc:N≤c9:=by omega
   go_wp2
   go_ret2
   refine⟨A9,rfl,?_,hl1.trans hl⟩
   rw[expB,←hk]
   have:=Qr9 hown (m:=N) (by omega)
   exact⟨this.1,this.2.imp id fun ⟨g,rest,e,hb,hk⟩=>⟨g,rest,e,QC4 hl1.size hb,hk⟩⟩
theorem QmY {w w':World} {b1 B:Nat} {e1:TypeId} {v1 v2:Value} {n1:Nat} {x1:List Value} (h1:w.ownsRow b1 e1 1 v1 n1 x1) (hB:B≤b1) (h2:∀b,v2.ownBlock=some b→b<B)
 (hg:w.grownBy w' v2.ownBlock):w'.ownsRow b1 e1 1 v1 n1 x1:=by
 refine h1.kept hg ?_
 cases hb:v1.ownBlock with
 | none=>exact .inl rfl
 | some b=>
   refine .inr fun he=>?_
   have:=h2 b he.symm
   have:=(h1.lt b hb).1
   omega
set_option maxRecDepth 100000 in
set_option maxHeartbeats 2000000 in
theorem Qk5 (A B:Option Addr) (n c m d:Nat) (N:Nat) (key F:List UInt8) (w:World) (hx:RdB w A n key) (hn:n≤70368744177664) (hi:RdB w B m F) (hm:m≤17592186044416) (hN:N≤8160):
 Calls Tryz.prog 116 #[.slice A n c,.int .i64 N,.slice B m d] w fun e w'=>∃A' c',e= .returned (.tuple #[.slice A' N c',.int .i64 0])∧OwnB w' w.heap.size A' N c' (expB key F N)∧Later w w':=by
 have hFl:=hi.len
 go_enter Tryz.func116,Tryz.ntmps116
 go_wp2
 go_loopw [8,9,10] (fun out last i wr=>∃(k:Nat) (A8:Option Addr) (c8:Nat) (A9:Option Addr) (l9 c9:Nat),i= .int .i64 ((k:Int)+1)∧(k=0∨32*(k-1)<N)∧out= .slice A8 (32*k) c8∧last= .slice A9 l9 c9∧OwnB wr w.heap.size A9 l9 c9 (hkT key F k)∧OwnB wr w.heap.size A8 (32*k) c8 (hkO key F k)∧Later w wr) (fun _ _ i _=>8200-32*(intOf i).toNat)
 case atStart=>exact⟨0,_,_,_,_,_,rfl,.inl rfl,rfl,rfl,Qay _ _ _,Qay _ _ _,Later.refl w⟩
 case round=>
  obtain⟨k,A8,c8,A9,l9,c9,rfl,hkN,rfl,rfl,hlast,hown,hl⟩:=hrel
  have hcap8:=hown.cap
  by_cases hlt:32*k<N
  ·have hkl:=Qj7 key F k
   have hl9:=hlast.len
   have hT:(hkT key F (k+1)).length=32:=by rw[hkT,QaI]
   have ht:=fun B d w h1 h2=>Qev A B n c (l9+m+1) d key (hkT key F k++F++[QC9 (k:Int)+1]) w h1 hn h2 (by omega)
   have he:Qbm key (hkT key F k++F++[QC9 (k:Int)+1])=hkT key F (k+1):=by rw[hkT]
   rw[he]at ht
   have ho':hkO key F (k+1)=hkO key F k++hkT key F (k+1):=rfl
   have HT:=hid ht
   have HO:=hid ho'
   clear ht he ho'
   generalize hT1:hkT key F (k+1)=T at *
   generalize hkT key F k=Tk at *
   generalize hkO key F k=O at *
   have HT1:=hid hT1
   clear hT1
   have hltN:((32*k:Nat):Int)<(N:Int):=by omega
   have hlt8:=Qic hown
   go_wp2_with fail
   refine (Qcf A9 l9 c9 Tk _ hlast.rd (by omega)).mono ?_
   rintro e w1 ⟨A1,c1,rfl,hown1,hl1⟩
   go_wp2_with (first
    | (refine Qas rfl _ _ _ rfl 5 _ 1 Tryz.underlying32 QbW rfl wr _ l9 _ hown1 hl1 B m d _ (hi.later (hl.trans hl1)) (QaE _) rfl rfl (by omega) (by omega) ?_;intro A2 c2 w2 hown2 hl2 _ _)
    | (refine Qas rfl _ _ _ rfl 5 _ 1 Tryz.underlying32 QbW rfl wr _ (l9+m) _ (Qap hown2 (Qaa _ _)) (hl2.alloc _) _ 1 1 [W8 (QC9 (k:Int)+1)] (QfV (Qkj w2 _ [W8 (QC9 (k:Int)+1)] (by simp))) (QaE [_]) rfl rfl (by omega) (by omega) ?_;intro A3 c3 w3 hown3 hl3 _ _
       have hown3':OwnB w3 wr.heap.size A3 (l9+m+1) c3 (Tk++F++[QC9 (k:Int)+1]):=QoC hown3 rfl (by simp))
    | (go_at_call 96;refine (HT.out A3 c3 _ (hx.later (hl.trans hl3)) hown3'.rd).mono ?_;rintro e w4 ⟨rfl,hl4⟩)
    | (refine Qaj rfl rfl 79 _ _ rfl w4.heap.size 0 79 (QCn 32 (W8 0)) (T.map W8) ?bk ?hx ?hy ?hi ?hf ?h1 ?_;(case hx=>rfl);(case hy=>rfl);(case hi=>rw[QCt,hT];kernel_rfl);(case hf=>simp[hT]);(case h1=>exact QaE _);(case bk=>exact Blk.new _ _ _);intro w5 hb5 ho5
       rw[Qao _ _ (by simp[hT])]at hb5
       have L4:=hl3.trans hl4
       have hl5:=((L4.alloc _).only ho5 L4.size)
       have hown5:=Qap hown hl5)
    | (go_at_call 32;refine (Qcf (some ⟨w4.heap.size,0,none⟩) 32 32 T _ (hb5.rd (by simp[hT])) (by omega)).mono ?_;rintro e w6 ⟨A6,c6,rfl,hown6,hl6⟩
       have hout6:=Qap hown5 hl6)
    | (refine Qas rfl _ _ _ rfl 5 _ 1 Tryz.underlying32 QbW rfl w _ (32*k) _ hout6 ((hl.trans hl5).trans hl6) A6 32 c6 _ hown6.rd (QaE _) rfl rfl (by omega) (by omega) ?_;intro A7 c7 w7 hown7 hl7 hg7 _;have hlast7:OwnB w7 w5.heap.size A6 32 c6 T:=QmY hown6 (QCx _) (fun b hb=>by have:=hlt8 b hb;have:=hl5.size;omega) hg7;have hown7':=QiM hown7 rfl (show 32*k+32=32*(k+1) by omega)))
   refine⟨⟨k+1,A7,c7,A6,32,c6,by go_num,.inr (by omega),by rw[show 32*k+32=32*(k+1) by omega],rfl,?_,?_,hl7⟩,by simp only[intOf];omega⟩
   ·rw[HT1.out]
    exact hlast7.mono (hl.trans hl5).size
   ·rw[HO.out]
    exact hown7'
  ·have hk:k=(N+31)/32:=by omega
   have hltN: ¬((32*k:Nat):Int)<(N:Int):=by omega
   have hNc:N≤c8:=by omega
   have hr:=(RdB.take hown.rd (m:=N) (by omega))
   have he:(hkO key F k).take N=expB key F N:=by rw[expB,←hk]
   rw[he]at hr
   generalize hE:expB key F N=E at *
   have HE:=hid hE
   clear hE
   go_wp2_with (first|(go_at_call 32;refine (Qcf A8 N c8 E _ hr (by omega)).mono ?_;rintro e w1 ⟨A1,c1,rfl,hown1,hl1⟩))
   go_ret2
   exact⟨A1,c1,rfl,by rw[HE.out];exact hown1.mono hl.size,hl.trans hl1⟩
theorem Qst (A B:Option Addr) (n c m d:Nat) (I:Int) (N:Nat) (hI:I=(N:Int)) (key:List UInt8) (ps:List (List UInt8)) (w:World) (hx:RdB w A n key) (hc:n≤c) (hn:n≤140737488355328) (hp:Parts w (fun _=>False) B m ps) (hm:m≤140737488355328) (hlen:ps.flatten.length≤70368744177664) (hN:N≤8160):
 Calls Tryz.prog 129 #[.slice A n c,.int .i64 I,.slice B m d] w fun e w'=>∃A',e= .returned (.tuple #[.slice A' N N,.int .i64 0])∧Front w' w.heap.size A' N (expB key ps.flatten N)∧Later w w':=by
 subst hI
 exact QsU A B n c m d N key ps w hx hc hn hp hm hlen hN
theorem Qyc:(Tryz.prog.info? 79).map (fun i=>(i.zero,i.size,i.bytes))=some (some (.agg (QCn 32 (W8 0)).toArray),32,32):=by kernel_rfl
theorem QuP (m n:Nat) (v:Value) (hm:0<m):madeCells (QCn m v).toArray n=(QCn n v).toArray:=by
 apply Array.ext
 ·simp[madeCells]
 ·intro i h1 h2
  simp only[madeCells,Array.getElem_map,Array.getElem_range,List.getElem_toArray,List.getElem_replicate,List.size_toArray,QCJ]
  have:i%m<m:=QCU _ hm
  simp[this]
section
variable {P:Program} {ops:Array Oper} {rest:List Oper} {o:Oper} {a:Act} {w:World} {Q:Exit→Act→World→Prop}
theorem Qiy (hgd:o.guard=none) (l c:Operand) (t:TypeId) (ho:o.op=Op.makeSlice t l c) (e:TypeId) (v:Value) (m bytes:Nat) (ht:P.underlying t=some (.slice e))
 (hinfo:(P.info? e).map (fun i=>(i.zero,i.size,i.bytes))=some (some (.agg (QCn m v).toArray),m,bytes)) (hm:0<m) (kl kc:IntKind) (L C:Int) (n:Nat) (hl:a.eval l= .int kl L) (hc:a.eval c= .int kc C) (hL:L=(n:Int)) (hC:C=(n:Int))
 (hby:0<bytes) (hsz:n*bytes≤140737488355328) (h:∀w',Blk w' w.heap.size e (QCn (n*m) v)→Later w w'→wpList P ops Q rest (a.put o.dst (.slice (some ⟨w.heap.size,0,none⟩) n n)) w'):
 wpList P ops Q (o :: rest) a w:=by
 cases hq:P.info? e with
 | none=>simp[hq]at hinfo
 | some i=>
   simp only[hq,QD7,Option.some.injEq,Prod.mk.injEq]at hinfo
   obtain⟨hz,hsize,hbytes⟩:=hinfo
   have hn:n≤140737488355328:=QC4 (QD3 _ hby) hsz
   refine wpList_plain hgd fun K hK=>?_
   have hb:((i.bytes:Int)*(n:Int))≤281474976710656:=by
    rw[hbytes,←QEo,QDK]
    omega
   have hr:=run_make (P:=P) w t e i _ ht hq hz kl kc n n (by omega) (Int.le_refl _) hb (by omega)
   have hcells:(Value.agg (QCn m v).toArray).cells=(QCn m v).toArray:=rfl
   simp only[QEx,hsize,hcells,QuP m _ v hm]at hr
   subst hL
   subst hC
   unfold Oper.wp
   simp only[execOp,ho,hl,hc,Sem.run_bind,hr,Result.andThen_ok,Sem.run_pure]
   exact hK _ _ (h _ (Blk.new w e _) (Qaa _ _))
end
def QcA:List UInt8:=[115,104,97,108,108,111,116]
def derB (secret:List UInt8) (s:ByteArray):List UInt8:=expB (Qbm QcA secret) (strB s) 32
theorem QaU (secret:List UInt8) (s:ByteArray):(derB secret s).length=32:=Qh3 _ _ _
set_option maxRecDepth 100000 in
set_option maxHeartbeats 2000000 in
theorem QcX (A:Option Addr) (n c:Nat) (secret:List UInt8) (s:ByteArray) (w:World) (hx:RdB w A n secret) (hn:n≤35184372088832) (hs:s.size≤17592186044416):
 Calls Tryz.prog 90 #[.slice A n c,.string s] w fun e w'=>e= .returned (.agg ((derB secret s).map W8).toArray)∧Later w w':=by
 have hsl:=Qf6 s
 have hT:=QaI QcA secret
 have hD:=QaU secret s
 have ht:=fun B d w h1 h2=>Qev B A 7 d n c QcA secret w h1 (by omega) h2 hn
 have he:=fun A B c d w h1 h2=>Qk5 A B 32 c s.size d 32 (Qbm QcA secret) (strB s) w h1 (by omega) h2 hs (by omega)
 have hde:expB (Qbm QcA secret) (strB s) 32=derB secret s:=rfl
 rw[hde]at he
 clear hde
 generalize Qbm QcA secret=T at *
 generalize derB secret s=D at *
 have HT:=hid ht
 have HE:=hid he
 clear ht he
 go_enter Tryz.func90,Tryz.ntmps90
 go_wp2_with (first
  | (refine QcV rfl _ _ rfl 5 Tryz.underlying32 Tryz.underlying5 (w.alloc (.cells (QCn 32 (W8 0)).toArray 79)) (QcA.map W8) rfl (w.heap.size+1) 7 7 (by simp) rfl ?_;intro w1 hl1 hr1 hz1)
  | (go_at_call 96;refine (HT.out _ 7 _ hr1 (hx.later ((Qaa _ _).trans hl1))).mono ?_;rintro e w2 ⟨rfl,hl2⟩)
  | (refine Qaj rfl rfl 79 _ _ rfl w2.heap.size 0 79 (QCn 32 (W8 0)) (T.map W8) ?bk ?hx ?hy ?hi ?hf ?h1 ?_;(case hx=>rfl);(case hy=>rfl);(case hi=>rw[QCt,hT];kernel_rfl);(case hf=>simp[hT]);(case h1=>exact QaE _);(case bk=>exact Blk.new _ _ _);intro w3 hb3 ho3;rw[Qao _ _ (by simp[hT])]at hb3)
  | (refine Qea rfl _ _ _ rfl 5 Tryz.underlying9 Tryz.underlying32 Tryz.underlying5 s rfl ?_;intro c4 w4 hl4 hr4 hc4 hz4)
  | (go_at_call 116;refine (HE.out (some ⟨w2.heap.size,0,none⟩) _ 32 c4 _ ((hb3.later hl4).rd (by simp[hT])) hr4).mono ?_;rintro e w5 ⟨A5,c5,rfl,hown5,hl5⟩
     have L2:=((Qaa w (.cells (QCn 32 (W8 0)).toArray 79)).trans hl1).trans hl2
     have hz2:w.heap.size+1≤w2.heap.size:=by have:=hl1.size;have:=hl2.size;simp at *;omega
     have hR3:Blk w3 w.heap.size 79 (QCn 32 (W8 0)):=((((Blk.new w _ _).later hl1).later hl2).later (Qaa _ _)).only ho3 (by omega)
     have L5:=(((L2.alloc _).only ho3 (by omega)).trans hl4).trans hl5
     have hR5:=(hR3.later hl4).later hl5
     have hlt5:=hR5.lt)
  | (refine Qax rfl _ _ _ _ rfl 5 Tryz.underlying32 QbR w5.heap.size 0 32 32 79 (QCn 32 (W8 0)) (Blk.new _ _ _) A5 32 c5 (D.map W8) (Rd.later hown5.rd (Qaa _ _)) (QaE _) rfl rfl (by simp) ?_;intro w6 hb6 ho6
     rw[QCE (by simp[hD]),Qao _ _ (by simp[hD])]at hb6
     have hR6:=(hR5.later (Qaa _ _)).only ho6 (by omega)
     have L6:=(L5.alloc _).only ho6 L5.size)
  | (refine Qaz rfl 79 _ rfl w5.heap.size 0 (D.map W8) ?hc ?hx _ Tryz.underlying79 rfl ?hi ?_;(case hx=>rfl);(case hi=>rw[QCt,hD];kernel_rfl);(case hc=>intro j v hv;rw[QCI];exact hb6.cellD j hv))
  | (refine Qaj rfl rfl 79 _ _ rfl w.heap.size 0 79 (QCn 32 (W8 0)) (D.map W8) ?bk2 ?hx ?hy ?hi ?hf ?h1 ?_;(case hx=>rfl);(case hy=>rfl);(case hi=>rw[QCt,hD];kernel_rfl);(case hf=>simp[hD]);(case h1=>exact QaE _);(case bk2=>exact hR6);intro w9 hb9 ho9))
 rw[Qao _ _ (by simp[hD])]at hb9
 exact bodyPost_ret (QaF rfl _ _ _ _ (D.map W8) _ hb9 rfl Tryz.underlying79 rfl (by rw[QCt,hD];kernel_rfl)) rfl ⟨rfl,L6.only ho9 (QCx _)⟩
def Strs (w:World) (A:Option Addr) (n:Nat) (ss:List ByteArray):Prop:=Rd w A n (ss.map Value.string)
theorem Strs.at_ {w:World} {A:Option Addr} {n:Nat} {ss:List ByteArray} (h:Strs w A n ss) {k:Nat} (hk:k<n):
 ∃b o,A=some ⟨b,o,none⟩∧b<w.heap.size∧w.cell? ⟨b,o+k,none⟩=some (.string (ss.getD k .empty)):=by
 have hl:ss.length=n:=by simpa using h.1
 obtain⟨b,o,rfl,hb,hc⟩:=h.2 (by omega)
 refine⟨b,o,rfl,hb,hc k _ ?_⟩
 rw[QCH,QCu,QCv (by omega)]
 rfl
theorem Strs.later {w w':World} {A:Option Addr} {n:Nat} {ss:List ByteArray} (h:Strs w A n ss) (hl:Later w w'):Strs w' A n ss:=Rd.later h hl
def Qdv (secret:List UInt8) (ss:List ByteArray) (k:Nat):List UInt8:=((ss.take k).map (derB secret)).flatten++QCn (32*(ss.length-k)) 0
theorem Qhv (secret:List UInt8) (ss:List ByteArray) (k:Nat) (h:k≤ss.length):((ss.take k).map (derB secret)).flatten.length=32*k:=by
 induction k with
 | zero=>simp
 | succ k ih=>
   rw[QCY (by omega),QC6,List.flatten_append,QCB,ih (by omega)]
   simp[QaU]
   omega
theorem QkI (secret:List UInt8) (ss:List ByteArray) (k:Nat) (h:k≤ss.length):(Qdv secret ss k).length=32*ss.length:=by
 rw[Qdv,QCB,Qhv _ _ _ h,QCJ]
 omega
theorem QmC (secret:List UInt8) (ss:List ByteArray) (k:Nat) (h:k<ss.length):Qau ((Qdv secret ss k).map W8) (32*k) (((derB secret (ss.getD k .empty)).map W8).take 32)=(Qdv secret ss (k+1)).map W8:=by
 have h1:=Qhv secret ss k (by omega)
 have h2:=QaU secret (ss.getD k .empty)
 have hs:ss.getD k .empty=ss[k]:=by rw[QCu,QCv h];rfl
 rw[QCE (by rw[QCt,h2];omega),Qau,Qdv,QC6,QDk (by rw[QCt,h1];omega),QCE (by rw[QCt,h1];omega),
  QEh,QDf (by rw[QCt,h1,QCt,h2];omega),QCs,Qdv,QCY h,hs]
 simp only[QC6,List.flatten_append,QCR,QCC,List.flatten_cons,List.flatten_nil,QC1,QCL,QC8,List.drop_replicate,QCt]
 rw[←hs,h2,h1,show 32*(ss.length-k)-(32*k+32-32*k)=32*(ss.length-(k+1)) by omega]
set_option maxRecDepth 100000 in
set_option maxHeartbeats 2000000 in
theorem Qjk (A B:Option Addr) (n c m d:Nat) (secret:List UInt8) (ss:List ByteArray) (w:World) (hx:RdB w A n secret) (hc:n≤c) (hn:n≤35184372088832) (hb:Strs w B m ss) (hm0:0<m) (hm:m≤1048576) (hs:∀s∈ss,s.size≤1048576):
 Calls Tryz.prog 104 #[.slice A n c,.slice B m d] w fun e w'=>∃g,e= .returned (.slice (some ⟨g,0,none⟩) m m)∧w.heap.size≤g∧Blk w' g 79 ((Qdv secret ss m).map W8)∧Later w w':=by
 have hml:ss.length=m:=by simpa using hb.1
 have hT:=QaI QcA secret
 have ht:=fun B w h1 h2=>Qm8 B A 7 7 n c QcA secret w h1 (by omega) (by omega) h2 hc (by omega)
 have he:=fun A B w (s:ByteArray) h1 h2 (h3:s.size≤1048576)=>Qst A B 32 32 1 1 32 32 rfl (Qbm QcA secret) [strB s] w h1 (by omega) (by omega) h2 (by omega) (by rw[Qcy,Qf6];omega) (by omega)
 have hd:∀s,expB (Qbm QcA secret) [strB s].flatten 32=derB secret s:=fun s=>by rw[Qcy];rfl
 simp only[hd]at he
 generalize Qbm QcA secret=T at *
 have HT:=hid ht
 have HE:=hid he
 have HS:=hid hs
 clear ht he hd hs
 go_enter Tryz.func104,Tryz.ntmps104
 go_wp2_with (first
  | (refine QcV rfl _ _ rfl 5 Tryz.underlying32 Tryz.underlying5 w (QcA.map W8) rfl w.heap.size 7 7 rfl rfl ?_;intro w1 hl1 hr1 hz1)
  | (go_at_call 128;refine (HT.out _ _ hr1 (hx.later hl1)).mono ?_;rintro e w2 ⟨rfl,hl2⟩)
  | (refine Qaj rfl rfl 79 _ _ rfl w2.heap.size 0 79 (QCn 32 (W8 0)) (T.map W8) ?bk ?hx ?hy ?hi ?hf ?h1 ?_;(case hx=>rfl);(case hy=>rfl);(case hi=>rw[QCt,hT];kernel_rfl);(case hf=>simp[hT]);(case h1=>exact QaE _);(case bk=>exact Blk.new _ _ _);intro w3 hb3 ho3;rw[Qao _ _ (by simp[hT])]at hb3)
  | (refine Qiy rfl _ _ _ rfl 79 (W8 0) 32 32 Tryz.underlying212 Qyc (by omega) _ _ _ _ m rfl rfl ?hL ?hC (by omega) (by omega) ?_;(case hL=>rfl);(case hC=>rfl);intro w4 hb4 hl4))
 have L2:=hl1.trans hl2
 have L3:Later w w3:=(L2.alloc _).only ho3 L2.size
 have hk4:=hb3.later hl4
 have L4:=L3.trans hl4
 have hk0:(Qdv secret ss 0).map W8=QCn (m*32) (W8 0):=by rw[Qdv];simp only[QEm,QCC,List.flatten_nil,QCs,Nat.sub_zero,QC8,hml,QDK]
 rw[←hk0]at hb4
 have z2:=L2.size
 have z3:=hb3.lt
 have hgk:w2.heap.size≠w3.heap.size:=by omega
 have hg3:=L3.size
 clear hk0 hl1 hl2 hl4 hb3 ho3 L2 L3 hr1 hz1
 generalize w2.heap.size=gk at *
 generalize w3.heap.size=go at *
 go_loopw [23] (fun i wr=>∃k:Nat,k≤m∧i= .int .i64 k∧Blk wr gk 79 (T.map W8)∧Blk wr go 79 ((Qdv secret ss k).map W8)∧Later w wr) (fun i _=>m-(intOf i).toNat)
 case atStart=>exact⟨0,by omega,rfl,hk4,hb4,L4⟩
 case round=>
  clear hk4 hb4 L4
  obtain⟨k,hk,rfl,hK,hO,hl⟩:=hrel
  by_cases hlt:k<m
  ·obtain⟨b,o,rfl,hbb,hck⟩:=(hb.later hl).at_ hlt
   have hsz:=HS.out (ss.getD k .empty) (by rw[QCu,QCv (by omega)];exact QDn _)
   have hkl:=QkI secret ss k (by omega)
   have hst:=hid (QmC secret ss k (by omega))
   have hdl:=QaU secret (ss.getD k .empty)
   have hsl:=Qf6 (ss.getD k .empty)
   generalize ss.getD k .empty=s at *
   have hE:=hid (fun A B w h1 h2=>HE.out A B w s h1 h2 hsz)
   generalize derB secret s=D at *
   go_wp2_with (first
    | (refine Qea rfl _ _ _ rfl 5 Tryz.underlying9 Tryz.underlying32 Tryz.underlying5 s rfl ?_;intro c1 w1 hl1 hr1 hc1 hz1)
    | (go_at_call 129;refine (hE.out (some ⟨gk,0,none⟩) (some ⟨w1.heap.size,0,none⟩) _ ((hK.later (hl1.alloc _)).rd (by simp[hT])) (Qgy ((Blk.new w1 32 [.slice (some ⟨wr.heap.size,0,none⟩) s.size c1]).rd rfl) ⟨QbS (hr1.later (Qaa _ _)) hc1,trivial⟩)).mono ?_;rintro e w2 ⟨A2,rfl,hfr2,hl2⟩;have L2:=(hl1.alloc (.cells #[.slice (some ⟨wr.heap.size,0,none⟩) s.size c1] 32)).trans hl2)
    | (refine Qax rfl _ _ _ _ rfl 5 Tryz.underlying32 QbR go (k*32) 32 32 79 ((Qdv secret ss k).map W8) (hO.later L2) A2 32 32 (D.map W8) hfr2.rd (QaE _) rfl rfl (by rw[QCt,hkl,hml];omega) ?_;intro w6 hb6 ho6;rw[QDK k 32,hst.out]at hb6))
   refine⟨⟨k+1,by omega,by go_num,(hK.later L2).only ho6 hgk,hb6,(hl.trans L2).only ho6 hg3⟩,by simp only[intOf];omega⟩
  ·have hkm:k=m:=by omega
   rw[hkm]at hO
   go_wp2
   go_ret
   exact⟨go,rfl,hg3,hO,hl⟩
end Go.Proofs.YtdkpcdgckgaklaaGreat
