/-
  Lemmas for the last text of this claim (part 11 of 20).
-/
import Derived.BigQuiet
import Derived.BigRegion
import Derived.ChangeOld
import Derived.Deep.RegionWith
import Derived.DeepKeys4
import Derived.JoinedCond
import Derived.LaidMore
import Derived.Laws.CopyOwn
import Derived.Laws.Externs
import Derived.Laws.IdiomStrings
import Derived.Laws.Tables
import Derived.Lib.AppendStr
import Derived.Lib.AppendZerosOnto
import Derived.Lib.Mul64
import Derived.Lib.SlBytesConst
import Derived.LoopN
import Derived.Maps.OwnSet
import Derived.OpenShut
import Derived.OrdersHeld
import Derived.ProofKit
import Derived.Shelf.Spec.BitsCarry
import Derived.ShutString
import Derived.Test.YtcbdgnlcknllnaaGreatProg
import Derived.Test.YtcbdgnlcknllnaaGreatRows
import Derived.WalkKit
import Derived.WalkLawsBesides
import Derived.WalkSpells
import Derived.Test.YtcbdgnlcknllnaaGreatPD
import Derived.Test.YtcbdgnlcknllnaaGreatPE
import Derived.Test.YtcbdgnlcknllnaaGreatPH
import Derived.Test.YtcbdgnlcknllnaaGreatPI
open BitVec renaming toNat_ushiftRight → QGu, toNat_shiftLeft → QG9
open List renaming replicate → QFu, getElem?_cons_succ → QFv, getElem?_cons_zero → QFw, cons_append → QFy, nil_append → QFz, length_map → QFA, getElem?_eq_getElem → QFB, getD_eq_getElem?_getD → QFC, length_append → QFF, set_cons_zero → QFG, take_of_length_le → QFJ, getElem?_append_right → QFK, append_assoc → QFL, getElem?_map → QFN, not_mem_nil → QFO, mem_cons → QFP, map_nil → QFR, getElem?_append_left → QFS, getElem?_eq_some_iff → QFU, map_cons → QFW, length_take → QFY, length_drop → QF0, map_append → QF2, take_succ_eq_append_getElem → QF5, range → QF6, take_append_drop → QF8, set_append_right → QF9, append_nil → QGb, eq_nil_of_length_eq_zero → QGc, drop_left' → QGe, mem_map → QGf, getElem?_eq_none → QGm, take_left' → QGv, getElem_mem → QGy, drop_eq_getElem_cons → QGA, mem_append → QGC, mem_singleton → QGL, getElem?_drop → QGR, drop_drop → QGY, range_succ → QG4, set_append_left → QG5, drop_eq_nil_of_le → QHs, drop_zero → QHM
open Nat renaming le_refl → QFE, mod_eq_of_lt → QFT, mod_lt → QF1, le_trans → QGh, div_div_eq_div_mul → QGj, div_eq_of_lt → QGn, shiftRight_eq_div_pow → QGp, pow_le_pow_right → QGq, pow_succ → QGs, mul_comm → QGF, min_eq_left → QGG, mul_le_mul_left → QG2, add_zero → QG6, pow_mul → QHb, shiftLeft_eq → QHd, add_comm → QHr
open Option renaming toList_some → QFx
open UInt32 renaming ofNat → QF7
open UInt64 renaming toNat_inj → QHi, toNat_toUInt8 → QHB
open UInt8 renaming toNat_inj → QGl
namespace Go.Proofs.YtcbdgnlcknllnaaGreat
open Go.RowKit
open Go.BigFrame
theorem QB5 (x:UInt8):x.toUInt32.toNat=x.toNat:=by simp
theorem shlW (x:UInt8) (n:Nat) (h:n≤24):(Qfu x.toUInt32 n).toNat=2^n*x.toNat:=by
 have hx:=x.toNat_lt
 show (x.toUInt32.toBitVec <<< n).toNat=_
 rw[QG9,QHd,QFT]
 ·rw[QGF]
  congr 1
 ·have e:x.toUInt32.toBitVec.toNat=x.toNat:=QB5 x
  rw[e]
  have:2^n≤2^24:=QGq (by omega) h
  calc x.toNat*2^n≤x.toNat*2^24:=QG2 _ this
   _<2^32:=by omega
theorem orW (a b:Nat) (i:Nat) (h:b<2^i):b ||| 2^i*a=b+2^i*a:=by
 rw[Nat.or_comm,←Nat.two_pow_add_eq_or_of_lt h,QHr]
theorem QAI (bs:List UInt8) (k:Nat) (h:4*k+4≤bs.length):(leW bs k).toNat=quad bs k 4:=by
 rw[QfT bs k 3 (by omega),QfT bs k 2 (by omega),QfT bs k 1 (by omega),QfT bs k 0 (by omega),show quad bs k 0=0 from by rw[quad];rfl]
 unfold leW Qb2
 rw[QG6]
 generalize bs.getD (4*k) 0=x0
 generalize bs.getD (4*k+1) 0=x1
 generalize bs.getD (4*k+2) 0=x2
 generalize bs.getD (4*k+3) 0=x3
 have b0:=x0.toNat_lt
 have b1:=x1.toNat_lt
 have b2:=x2.toNat_lt
 have b3:=x3.toNat_lt
 rw[UInt32.toNat_or,UInt32.toNat_or,UInt32.toNat_or,QB5,shlW _ _ (by omega),shlW _ _ (by omega),shlW _ _ (by omega),orW _ _ 8 (by omega),orW _ _ 16 (by omega),orW _ _ 24 (by omega)]
 omega
theorem Qzq (bs:List UInt8) (k:Nat) (h:4*k+4≤bs.length):n32 (quad bs k 4)=W32 (leW bs k):=by
 rw[←QAI bs k h,n32]
 congr 1
 simp
set_option maxHeartbeats 400000 in
theorem Qxx (x:UInt32) (n:Nat) (h0:n≤32) (w:World):
 Calls Tryz.prog 169 #[W32 x,.int .i64 n] w fun e w'=>e= .returned (W32 (rotl x n))∧Later w w':=by
 go_enter Tryz.func169,Tryz.ntmps169
 go_wp2
 refine Qad [] [0,1,2,3,4,5,6,7,8] [] (by as_aux_lemma=>kernel_rfl) (by as_aux_lemma=>kernel_rfl) (by intro _ _ d _ _ h;cases d<;>exact h) ?_
 simp only[Qah,pick,QFv,QFw,QFx,QFy,QFz]
 repeat (go_big_quiet_step (fail))
 refine wpQuiet_nil ?_
 go_wp2
 go_ret
 exact QpL rfl _ (Qab _)
theorem Qz3 (x:UInt32) (n:Nat) (i:Int) (hi:i=(n:Int)) (h0:n≤32) (w:World):
 Calls Tryz.prog 169 #[W32 x,.int .i64 i] w fun e w'=>e= .returned (W32 (rotl x n))∧Later w w':=by
 subst hi
 exact Qxx x n h0 w
theorem Qvv:(Tryz.prog.info? 50).map (fun i=>(i.zero,i.size,i.bytes))=some (some (.int .u32 0),1,4):=by kernel_rfl
def Qfm (bs:List UInt8) (k:Nat):List UInt32:=(QF6 k).map (leW bs)
set_option maxHeartbeats 2000000 in
set_option maxRecDepth 100000 in
theorem QsT (A:Option Addr) (n c K:Nat) (bs:List UInt8) (w:World) (hr:RdB w A n bs) (hn:n=4*K) (hK:K≤1048576):
 Calls Tryz.prog 147 #[.slice A n c] w fun e w'=>∃A' c',e= .returned (.slice A' K c')∧w'.ownsRow w.heap.size 50 1 (.slice A' K c') K ((Qfm bs K).map W32)∧Later w w':=by
 have hbl:=hr.len
 have hnb:n≤140737488355328:=by omega
 replace hn:=hid hn
 have hg:=hid (fun k (w':World) (hl:Later w w') hk=>Qvi A n c bs k w' (hr.later hl) hk hnb)
 have hq:=hid (fun k hk=>Qzq bs k hk)
 have hs:=hid (fun k=>show (Qfm bs (k+1)).map W32=(Qfm bs k).map W32++[W32 (leW bs k)] by simp[Qfm,QG4])
 go_enter Tryz.func147,Tryz.ntmps147
 go_wp2_with fail
 go_loopw [3,4] (fun v i wr=>∃(k:Nat) (A':Option Addr) (c':Nat),k≤K∧i= .int .i64 (4*(k:Int))∧v= .slice A' k c'∧wr.ownsRow w.heap.size 50 1 (.slice A' k c') k ((Qfm bs k).map W32)∧Later w wr) (fun _ i _=>4*K-(intOf i).toNat)
 case atStart=>exact⟨0,none,0,by omega,rfl,rfl,World.ownsRow_nil w _ _ 1,Later.refl w⟩
 case round=>
  obtain⟨k,A1,c1,hk,rfl,rfl,hown,L⟩:=hrel
  by_cases hlt:k<K
  ·have hcmp:4*(k:Int)+3<(n:Int):=by have:=hn.out;omega
   have HS:=hid (hs.out k)
   go_wp2_with fail
   (refine (hg.out k _ L (by have:=hn.out;omega)).mono ?_);rintro e w2 ⟨rfl,j2⟩
   have HQ:=hid (hq.out k (by have:=hn.out;omega))
   generalize quad bs k 4=Q at *
   have J:=Qaa w2 (.cells #[n32 Q] 50)
   go_wp2_with (first
    | (refine Qal rfl _ _ _ rfl 50 _ 4 Tryz.underlying267 Qvv rfl w _ k _ ((Qaq hown j2 |> fun h=>Qaq h J)) ((L.trans j2).trans J) _ 1 1 _ ((Blk.new w2 50 [n32 Q]).rd rfl) (by intro u hu;rw[QGL.1 hu];rfl) rfl rfl (by omega) (by omega) ?_;intro A3 c3 w3 hown3 hl3 hg3 _)
    | fail)
   rw[HQ.out,←HS.out]at hown3
   go_roundw
   case rel=>exact⟨k+1,A3,c3,by omega,by go_num,rfl,hown3,hl3⟩
   case measure=>simp[intOf];omega
  ·obtain rfl:K=k:=by omega
   have hcmp: ¬ 4*(K:Int)+3<(n:Int):=by have:=hn.out;omega
   go_wp2_with fail
   go_ret
   exact⟨_,_,rfl,hown,L⟩
def qSt (v:UInt32×UInt32×UInt32×UInt32):Nat→UInt32×UInt32×UInt32×UInt32
 | 0=>v
 | 1=>Qj2 v 16
 | 2=>Qnv (Qj2 v 16) 12
 | 3=>Qj2 (Qnv (Qj2 v 16) 12) 8
 | _=>Qnv (Qj2 (Qnv (Qj2 v 16) 12) 8) 7
def qL (v:UInt32×UInt32×UInt32×UInt32):List UInt32:=[v.1,v.2.1,v.2.2.1,v.2.2.2]
theorem QoJ:(Tryz.prog.info? 271).map (·.size)=some 4:=by kernel_rfl
set_option maxRecDepth 100000 in
set_option maxHeartbeats 4000000 in
theorem QmU (v:UInt32×UInt32×UInt32×UInt32) (w:World):
 Calls Tryz.prog 148 #[.agg ((qL v).map W32).toArray] w fun e w'=>e= .returned (.agg ((qL (Qif v.1 v.2.1 v.2.2.1 v.2.2.2)).map W32).toArray)∧Later w w':=by
 have hQ:=hid (show Qif v.1 v.2.1 v.2.2.1 v.2.2.2=qSt v 4 from rfl)
 have q1:=hid (show qSt v 1=Qj2 (qSt v 0) 16 from rfl)
 have q2:=hid (show qSt v 2=Qnv (qSt v 1) 12 from rfl)
 have q3:=hid (show qSt v 3=Qj2 (qSt v 2) 8 from rfl)
 have q4:=hid (show qSt v 4=Qnv (qSt v 3) 7 from rfl)
 have q0:Hid (qSt v 0=v):=hid rfl
 generalize Qif v.1 v.2.1 v.2.2.1 v.2.2.2=R at *
 have hle:=hid Qz3
 go_enter Tryz.func148,Tryz.ntmps148
 go_wp2_with fail
 have B0:=((Qbb w 271 ((qL v).map W32)).fresh (Qaa _ (.cells (QFu 4 (Value.int .u32 0)).toArray 271)) (QFE _) (Blk.new _ _ _)).fresh (Qaa _ (.cells [Value.int .i64 16,.int .i64 12,.int .i64 8,.int .i64 7].toArray 269)) (QFE _) (Blk.new _ _ _)
 have e1:(w.alloc (.cells ((qL v).map W32).toArray 271)).heap.size=w.heap.size+1:=by simp
 have e2:((w.alloc (.cells ((qL v).map W32).toArray 271)).alloc (.cells (QFu 4 (Value.int .u32 0)).toArray 271)).heap.size=w.heap.size+1+1:=by simp
 rw[e1,e2]at B0
 clear e1 e2
 generalize hg1:w.heap.size=g1 at *
 generalize hg2:g1+1=g2 at *
 generalize hg3:g2+1=g3 at *
 clear hg1 hg2 hg3
 go_loopw [4] (fun i wr=>∃k:Nat,k≤4∧i= .int .i64 k∧Bag w wr [(g3,269,[.int .i64 16,.int .i64 12,.int .i64 8,.int .i64 7]),(g2,271,QFu 4 (.int .u32 0)),(g1,271,(qL (qSt v k)).map W32)]) (fun i _=>4-(intOf i).toNat)
 case atStart=>exact⟨0,by omega,rfl,by rw[q0.out];exact B0⟩
 case round=>
  clear B0
  obtain⟨k,hk,rfl,B⟩:=hrel
  by_cases hlt:k<4
  ·have hk4:k=0∨k=1∨k=2∨k=3:=by omega
   clear hk hlt
   rcases hk4 with rfl|rfl|rfl|rfl
   ·have Q:=hid (q1.out)
    generalize qSt v 0=s at *
    generalize hs':qSt v (0+1)=s' at *
    replace hs':=hid hs'
    obtain⟨a,b,c,d⟩:=s
    have c0:=(B.nth 2 rfl).cellD 0 rfl
    have c1:=(B.nth 2 rfl).cellD 1 rfl
    dsimp only[qL]at c0 c1
    go_wp2_with (first
     | (refine Qac rfl rfl _ _ _ rfl g1 0 _ _ (B.nth 2 rfl) rfl (by simp[qL]) rfl QbE ?_;intro v' w5 hv' hb5 ho5;simp[go_sem]at hv';subst hv')
     | fail)
    have B5:Bag w w5.drew [(g3,269,[.int .i64 16,.int .i64 12,.int .i64 8,.int .i64 7]),(g2,271,QFu 4 (.int .u32 0)),(g1,271,[W32 (a+b),W32 b,W32 c,W32 d])]:=(B.write 2 rfl ho5 hb5).drew
    have ct:=(B5.nth 0 rfl).cellD 0 rfl
    have d0:=(B5.nth 2 rfl).cellD 0 rfl
    have d3:=(B5.nth 2 rfl).cellD 3 rfl
    clear c0 c1 hb5 ho5 B
    refine Qad [([0,1,2,3,4,5,6,7],8)] [9] [10] (by as_aux_lemma=>kernel_rfl) (by as_aux_lemma=>kernel_rfl) (by intro _ _ d _ _ h;cases d<;>exact h) ?_
    simp only[Qah,pick,QFv,QFw,QFx,QFy,QFz]
    repeat (go_big_quiet_step (fail))
    refine wpQuiet_nil ?_
    go_wp2_with fail
    (refine (hle.out _ 16 _ rfl (by omega) _).mono ?_);rintro e w6 ⟨rfl,j6⟩
    have B6:=B5.later j6
    clear B5 d0 d3 ct
    go_wp2_with fail
    try refine⟨by first|assumption|exact Qab _|exact Qaa _ _|exact Later.refl _,?_⟩
    try simp only[Qah,pick,QFv,QFw,QFx,QFy,QFz]
    repeat (go_big_quiet_step (fail))
    refine wpQuiet_nil ?_
    go_wp2_with (first
     | (refine Qac rfl rfl _ _ _ rfl g1 3 _ _ (B6.nth 2 rfl) rfl (by simp) rfl QbE ?_;intro v' w7 hv' hb7 ho7;simp[go_sem]at hv';subst hv')
     | fail)
    go_roundw
    case rel=>exact⟨0+1,by omega,by go_num,by rw[hs'.out,Q.out];exact B6.write 2 rfl ho7 hb7⟩
    case measure=>simp[intOf];try omega
   ·have Q:=hid (q2.out)
    generalize qSt v 1=s at *
    generalize hs':qSt v (1+1)=s' at *
    replace hs':=hid hs'
    obtain⟨a,b,c,d⟩:=s
    have c0:=(B.nth 2 rfl).cellD 2 rfl
    have c1:=(B.nth 2 rfl).cellD 3 rfl
    dsimp only[qL]at c0 c1
    go_wp2_with (first
     | (refine Qac rfl rfl _ _ _ rfl g1 2 _ _ (B.nth 2 rfl) rfl (by simp[qL]) rfl QbE ?_;intro v' w5 hv' hb5 ho5;simp[go_sem]at hv';subst hv')
     | fail)
    have B5:Bag w w5.drew [(g3,269,[.int .i64 16,.int .i64 12,.int .i64 8,.int .i64 7]),(g2,271,QFu 4 (.int .u32 0)),(g1,271,[W32 a,W32 b,W32 (c+d),W32 d])]:=(B.write 2 rfl ho5 hb5).drew
    have ct:=(B5.nth 0 rfl).cellD 1 rfl
    have d0:=(B5.nth 2 rfl).cellD 1 rfl
    have d3:=(B5.nth 2 rfl).cellD 2 rfl
    clear c0 c1 hb5 ho5 B
    refine Qad [([0,1,2,3,4,5,6,7],8)] [9] [10] (by as_aux_lemma=>kernel_rfl) (by as_aux_lemma=>kernel_rfl) (by intro _ _ d _ _ h;cases d<;>exact h) ?_
    simp only[Qah,pick,QFv,QFw,QFx,QFy,QFz]
    repeat (go_big_quiet_step (fail))
    refine wpQuiet_nil ?_
    go_wp2_with fail
    (refine (hle.out _ 12 _ rfl (by omega) _).mono ?_);rintro e w6 ⟨rfl,j6⟩
    have B6:=B5.later j6
    clear B5 d0 d3 ct
    go_wp2_with fail
    try refine⟨by first|assumption|exact Qab _|exact Qaa _ _|exact Later.refl _,?_⟩
    try simp only[Qah,pick,QFv,QFw,QFx,QFy,QFz]
    repeat (go_big_quiet_step (fail))
    refine wpQuiet_nil ?_
    go_wp2_with (first
     | (refine Qac rfl rfl _ _ _ rfl g1 1 _ _ (B6.nth 2 rfl) rfl (by simp) rfl QbE ?_;intro v' w7 hv' hb7 ho7;simp[go_sem]at hv';subst hv')
     | fail)
    go_roundw
    case rel=>exact⟨1+1,by omega,by go_num,by rw[hs'.out,Q.out];exact B6.write 2 rfl ho7 hb7⟩
    case measure=>simp[intOf];try omega
   ·have Q:=hid (q3.out)
    generalize qSt v 2=s at *
    generalize hs':qSt v (2+1)=s' at *
    replace hs':=hid hs'
    obtain⟨a,b,c,d⟩:=s
    have c0:=(B.nth 2 rfl).cellD 0 rfl
    have c1:=(B.nth 2 rfl).cellD 1 rfl
    dsimp only[qL]at c0 c1
    go_wp2_with (first
     | (refine Qac rfl rfl _ _ _ rfl g1 0 _ _ (B.nth 2 rfl) rfl (by simp[qL]) rfl QbE ?_;intro v' w5 hv' hb5 ho5;simp[go_sem]at hv';subst hv')
     | fail)
    have B5:Bag w w5.drew [(g3,269,[.int .i64 16,.int .i64 12,.int .i64 8,.int .i64 7]),(g2,271,QFu 4 (.int .u32 0)),(g1,271,[W32 (a+b),W32 b,W32 c,W32 d])]:=(B.write 2 rfl ho5 hb5).drew
    have ct:=(B5.nth 0 rfl).cellD 2 rfl
    have d0:=(B5.nth 2 rfl).cellD 0 rfl
    have d3:=(B5.nth 2 rfl).cellD 3 rfl
    clear c0 c1 hb5 ho5 B
    refine Qad [([0,1,2,3,4,5,6,7],8)] [9] [10] (by as_aux_lemma=>kernel_rfl) (by as_aux_lemma=>kernel_rfl) (by intro _ _ d _ _ h;cases d<;>exact h) ?_
    simp only[Qah,pick,QFv,QFw,QFx,QFy,QFz]
    repeat (go_big_quiet_step (fail))
    refine wpQuiet_nil ?_
    go_wp2_with fail
    (refine (hle.out _ 8 _ rfl (by omega) _).mono ?_);rintro e w6 ⟨rfl,j6⟩
    have B6:=B5.later j6
    clear B5 d0 d3 ct
    go_wp2_with fail
    try refine⟨by first|assumption|exact Qab _|exact Qaa _ _|exact Later.refl _,?_⟩
    try simp only[Qah,pick,QFv,QFw,QFx,QFy,QFz]
    repeat (go_big_quiet_step (fail))
    refine wpQuiet_nil ?_
    go_wp2_with (first
     | (refine Qac rfl rfl _ _ _ rfl g1 3 _ _ (B6.nth 2 rfl) rfl (by simp) rfl QbE ?_;intro v' w7 hv' hb7 ho7;simp[go_sem]at hv';subst hv')
     | fail)
    go_roundw
    case rel=>exact⟨2+1,by omega,by go_num,by rw[hs'.out,Q.out];exact B6.write 2 rfl ho7 hb7⟩
    case measure=>simp[intOf];try omega
   ·have Q:=hid (q4.out)
    generalize qSt v 3=s at *
    generalize hs':qSt v (3+1)=s' at *
    replace hs':=hid hs'
    obtain⟨a,b,c,d⟩:=s
    have c0:=(B.nth 2 rfl).cellD 2 rfl
    have c1:=(B.nth 2 rfl).cellD 3 rfl
    dsimp only[qL]at c0 c1
    go_wp2_with (first
     | (refine Qac rfl rfl _ _ _ rfl g1 2 _ _ (B.nth 2 rfl) rfl (by simp[qL]) rfl QbE ?_;intro v' w5 hv' hb5 ho5;simp[go_sem]at hv';subst hv')
     | fail)
    have B5:Bag w w5.drew [(g3,269,[.int .i64 16,.int .i64 12,.int .i64 8,.int .i64 7]),(g2,271,QFu 4 (.int .u32 0)),(g1,271,[W32 a,W32 b,W32 (c+d),W32 d])]:=(B.write 2 rfl ho5 hb5).drew
    have ct:=(B5.nth 0 rfl).cellD 3 rfl
    have d0:=(B5.nth 2 rfl).cellD 1 rfl
    have d3:=(B5.nth 2 rfl).cellD 2 rfl
    clear c0 c1 hb5 ho5 B
    refine Qad [([0,1,2,3,4,5,6,7],8)] [9] [10] (by as_aux_lemma=>kernel_rfl) (by as_aux_lemma=>kernel_rfl) (by intro _ _ d _ _ h;cases d<;>exact h) ?_
    simp only[Qah,pick,QFv,QFw,QFx,QFy,QFz]
    repeat (go_big_quiet_step (fail))
    refine wpQuiet_nil ?_
    go_wp2_with fail
    (refine (hle.out _ 7 _ rfl (by omega) _).mono ?_);rintro e w6 ⟨rfl,j6⟩
    have B6:=B5.later j6
    clear B5 d0 d3 ct
    go_wp2_with fail
    try refine⟨by first|assumption|exact Qab _|exact Qaa _ _|exact Later.refl _,?_⟩
    try simp only[Qah,pick,QFv,QFw,QFx,QFy,QFz]
    repeat (go_big_quiet_step (fail))
    refine wpQuiet_nil ?_
    go_wp2_with (first
     | (refine Qac rfl rfl _ _ _ rfl g1 1 _ _ (B6.nth 2 rfl) rfl (by simp) rfl QbE ?_;intro v' w7 hv' hb7 ho7;simp[go_sem]at hv';subst hv')
     | fail)
    go_roundw
    case rel=>exact⟨3+1,by omega,by go_num,by rw[hs'.out,Q.out];exact B6.write 2 rfl ho7 hb7⟩
    case measure=>simp[intOf];try omega
  ·obtain rfl:4=k:=by omega
   rw[←hQ.out]at B
   obtain⟨ra,rb,rc,rd⟩:=R
   have c0:=(B.nth 2 rfl).cellD 0 rfl
   have c1:=(B.nth 2 rfl).cellD 1 rfl
   have c2:=(B.nth 2 rfl).cellD 2 rfl
   have c3:=(B.nth 2 rfl).cellD 3 rfl
   dsimp only[qL]at c0 c1 c2 c3
   go_wp2_with (first
    | (refine Qai rfl rfl 271 _ _ rfl g2 0 _ _ [W32 ra,W32 rb,W32 rc,W32 rd] (B.nth 1 rfl) rfl rfl QoJ (by simp) ?_ ?_;(intro u hu;simp at hu;rcases hu with rfl|rfl|rfl|rfl<;>rfl);intro w9 hb9 ho9;rw[Qap _ _ (by simp)]at hb9)
    | fail)
   exact bodyPost_ret (QaI rfl _ _ _ _ _ _ hb9 rfl Tryz.underlying271 rfl QoJ) rfl ⟨rfl,B.lat.only ho9 (B.at_low 1 rfl)⟩
def putA (n:UInt64) (k:Nat):List UInt8:=(QF6 k).map (fun j=>(divk n j%256).toUInt8)++QFu (4-k) 0
theorem Qpn (n:UInt64) (k:Nat) (h:k≤4):(putA n k).length=4:=by simp[putA];omega
theorem Qu6 (n:UInt64) (k:Nat) (hk:k<4):(putA n k).set k (divk n k%256).toUInt8=putA n (k+1):=by
 have:=Qjk (0:UInt8) [] (fun j=>(divk n j%256).toUInt8) k 4 hk
 simpa [putA] using this
theorem QlW (n:UInt64):∀k,(divk n k).toNat=n.toNat/256^k
 | 0=>by simp[divk]
 | k+1=>by
   have h:divk n (k+1)=divk n k/256:=rfl
   rw[h,UInt64.toNat_div,QlW n k,QGj,QGs]
   rfl
theorem Qxj (x:UInt32):putA x.toUInt64 4=le4 x:=by
 have hx:=x.toNat_lt
 have key:∀j,j<4→(divk x.toUInt64 j%256).toUInt8=(QbZ x (8*j)).toUInt8:=by
  intro j hj
  apply QGl.1
  have e:(QbZ x (8*j)).toNat=x.toNat/2^(8*j):=by
   show (x.toBitVec >>> (8*j)).toNat=_
   rw[QGu,QGp]
   rfl
  rw[QHB,UInt32.toNat_toUInt8,UInt64.toNat_mod,QlW,e,UInt32.toNat_toUInt64,QHb]
  exact Nat.mod_mod_of_dvd _ (by decide)
 have k0:=key 0 (by omega)
 have k1:=key 1 (by omega)
 have k2:=key 2 (by omega)
 have k3:=key 3 (by omega)
 have e0:QbZ x (8*0)=x:=by
  apply UInt32.toBitVec_inj.1
  show x.toBitVec >>> 0=x.toBitVec
  simp
 rw[e0]at k0
 show [(divk x.toUInt64 0%256).toUInt8,(divk x.toUInt64 1%256).toUInt8,(divk x.toUInt64 2%256).toUInt8,(divk x.toUInt64 3%256).toUInt8]++[]=_
 rw[k0,k1,k2,k3]
 rfl
theorem QBL (x:UInt32):divk x.toUInt64 4=0:=by
 apply QHi.1
 have:=x.toNat_lt
 rw[QlW,UInt32.toNat_toUInt64]
 exact QGn (by omega)
set_option maxRecDepth 100000 in
set_option maxHeartbeats 1000000 in
theorem QCS (x:UInt32) (w:World):Calls Tryz.prog 149 #[.int .i64 1,.int .i64 4,W64 x.toUInt64] w fun e w'=>
 ∃A c,e= .returned (.tuple #[.slice A 4 c,.int .i64 0])∧OwnB w' w.heap.size A 4 c (le4 x)∧Later w w':=by
 have D4:=hid (QBL x)
 have hE:=hid (Qxj x)
 generalize x.toUInt64=n at *
 go_enter Tryz.func149,Tryz.ntmps149
 go_wp2_with (first
  | (go_at_call 125;refine (Qqz 1 4 (by omega) (by omega) (by omega) _).mono ?_;rintro e w' ⟨rfl,rfl⟩)
  | (refine QaE rfl _ _ _ rfl 5 _ 1 Tryz.underlying25 Qbq rfl _ _ _ _ 4 rfl rfl ?hL ?hC (by omega) (by omega) ?_;(case hL=>rfl);(case hC=>rfl);intro w1 hb1 hl1))
 go_loopw [2,9] (fun t i wr=>∃k:Nat,k≤4∧i= .int .i64 k∧t=W64 (divk n k)∧Later w wr∧Blk wr w.heap.size 5 ((putA n k).map W8)) (fun _ i _=>4-(intOf i).toNat)
 case atStart=>exact⟨0,by omega,rfl,rfl,hl1,hb1⟩
 case round=>
  clear hl1 hb1
  obtain⟨k,hk,rfl,rfl,hl,hb⟩:=hrel
  by_cases hlt:k<4
  ·have hlen:=Qpn n k hk
   have d0:=hb.cellD k (QFB (by simp;omega))
   have d1:=hb.frozen k
   generalize ((putA n k).map W8)[k]'_=old at d0
   go_wp2_with (refine QbG rfl rfl _ _ _ rfl _ rfl rfl (by kernel_rfl) ?sc ?sf ?_;(case sc=>go_simp;done);(case sf=>first|assumption|(go_simp;done));intro v hv;simp[go_sem]at hv;subst hv)
   go_roundw
   case rel=>
    refine⟨k+1,by omega,by go_num,rfl,hl.setCell (QFE _) _,?_⟩
    rw[←Qu6 n k hlt,←QbC]
    exact hb.set_ k _
   case measure=>simp[intOf];omega
  ·have hk4:k=4:=by omega
   rw[hk4]at hb
   rw[hk4,D4.out]
   rw[hE.out]at hb
   go_wp2
   go_ret2
   refine⟨_,_,rfl,?_,hl⟩
   exact Qcj hb (QFE _) (by simp[le4])
theorem Qzk (x:UInt32) (y:UInt64) (h:y=x.toUInt64) (w:World):Calls Tryz.prog 149 #[.int .i64 1,.int .i64 4,W64 y] w fun e w'=>
 ∃A c,e= .returned (.tuple #[.slice A 4 c,.int .i64 0])∧OwnB w' w.heap.size A 4 c (le4 x)∧Later w w':=by
 subst h
 exact QCS x w
def chaK:List UInt8:=[101,120,112,97,110,100,32,51,50,45,98,121,116,101,32,107]
theorem Qrq:Qfm chaK 4=chaC:=by decide +kernel
def plc (r j:Nat):Nat:=([0,4,8,12,1,5,9,13,2,6,10,14,3,7,11,15,0,5,10,15,1,6,11,12,2,7,8,13,3,4,9,14]:List Nat).getD (r*4+j) 0
def plcV:List Value:=([0,4,8,12,1,5,9,13,2,6,10,14,3,7,11,15,0,5,10,15,1,6,11,12,2,7,8,13,3,4,9,14]:List Nat).map fun (n:Nat)=>.int .i64 (n:Int)
theorem Qir (r j:Nat) (h:r<8) (hj:j<4):plcV[r*4+j]?=some (.int .i64 (plc r j:Int)):=by
 have:r*4+j<32:=by omega
 rw[plcV,QFN,plc,QFC,QFB (by simpa using this)]
 rfl
theorem Qpz (r j:Nat) (h:r<8) (hj:j<4):plc r j<16:=by
 have:∀r:Fin 8,∀j:Fin 4,plc r.val j.val<16:=by decide
 exact this ⟨r,h⟩ ⟨j,hj⟩
def stR (s:List UInt32):Nat→List UInt32
 | 0=>s
 | k+1=>QdZ (stR s k) (plc (k%8) 0) (plc (k%8) 1) (plc (k%8) 2) (plc (k%8) 3)
theorem Qkm (s:List UInt32):∀k,(stR s k).length=s.length
 | 0=>rfl
 | k+1=>by rw[stR,QdL,Qkm s k]
theorem QAE (s:List UInt32) (k:Nat):stR s (8*(k+1))=dbl (stR s (8*k)):=by
 rw[show 8*(k+1)=8*k+7+1 by omega,stR,stR,stR,stR,stR,stR,stR,stR]
 rw[show (8*k+7)%8=7 by omega,show (8*k+6)%8=6 by omega,show (8*k+5)%8=5 by omega,show (8*k+4)%8=4 by omega,show (8*k+3)%8=3 by omega,show (8*k+2)%8=2 by omega,show (8*k+1)%8=1 by omega,show (8*k)%8=0 by omega]
 rfl
theorem QuR (s:List UInt32):∀k,stR s (8*k)=dblN s k
 | 0=>rfl
 | k+1=>by rw[QAE,QuR s k];rfl
theorem QoR (key nonce:List UInt8) (ctr:UInt32):QgO key nonce ctr=Qfm chaK 4++Qfm key 8++[ctr]++Qfm nonce 3:=by rw[Qrq];rfl
theorem QvS (key nonce:List UInt8) (ctr:UInt32):chaB key nonce ctr=Qey (stR (QgO key nonce ctr) 80) (QgO key nonce ctr) 16:=by rw[show 80=8*10 from rfl,QuR,chaB]
theorem Qjn:plcV.length=32:=rfl
theorem QxU:∀u∈plcV,u.oneCell'=true:=by
 intro u hu
 obtain⟨n,_,rfl⟩:=QGf.1 hu
 rfl
theorem QzJ:(Tryz.prog.info? 270).map (·.size)=some plcV.length:=by kernel_rfl
theorem QzR:(Tryz.prog.info? 269).map (·.size)=some 4:=by kernel_rfl
def st4 (T:List UInt32) (p0 p1 p2 p3:Nat) (q:UInt32×UInt32×UInt32×UInt32):Nat→List UInt32
 | 0=>T
 | 1=>T.set p0 q.1
 | 2=>(T.set p0 q.1).set p1 q.2.1
 | 3=>((T.set p0 q.1).set p1 q.2.1).set p2 q.2.2.1
 | _=>putQ T p0 p1 p2 p3 q
theorem QcU (T:List UInt32) (p0 p1 p2 p3:Nat) (q:UInt32×UInt32×UInt32×UInt32) (j:Nat):(st4 T p0 p1 p2 p3 q j).length=T.length:=by
 match j with
 | 0=>rfl
 | 1=>simp[st4]
 | 2=>simp[st4]
 | 3=>simp[st4]
 | j+4=>simp[st4,putQ]
set_option maxRecDepth 100000 in
set_option maxHeartbeats 8000000 in
theorem Qkv (A B:Option Addr) (c d:Nat) (key nonce:List UInt8) (ctr:UInt32) (w:World) (hk:RdB w A 32 key) (hn:RdB w B 12 nonce):
 Calls Tryz.prog 128 #[.slice A 32 c,.slice B 12 d,W32 ctr] w fun e w'=>∃A' c',e= .returned (.slice A' 64 c')∧OwnB w' w.heap.size A' 64 c' (chaB key nonce ctr)∧Later w w':=by
 have hw:=hid (fun A n c K bs w h h1 h2=>QsT A n c K bs w h h1 h2)
 have hL:=hid (QoR key nonce ctr)
 have hsl:=Qfy key nonce ctr
 have hC:=hid (QvS key nonce ctr)
 generalize QgO key nonce ctr=S at *
 generalize chaB key nonce ctr=CB at *
 go_enter Tryz.func128,Tryz.ntmps128
 go_wp2_with (first
  | (refine Qc6 rfl _ _ rfl 5 Tryz.underlying25 Tryz.underlying5 w (chaK.map W8) rfl w.heap.size 16 16 rfl rfl ?_;intro w1 hl1 hr1 hz1)
  | fail)
 (refine (hw.out _ 16 16 4 chaK _ hr1 rfl (by omega)).mono ?_);rintro e w2 ⟨A2,c2,rfl,hown2,j2⟩
 replace hown2:=Qbc hown2 hl1.size
 have L2:=hl1.trans j2
 clear hr1 hz1 j2 hl1
 go_wp2_with fail
 (refine (hw.out A 32 c 8 key _ (hk.later L2) rfl (by omega)).mono ?_);rintro e w3 ⟨A3,c3,rfl,hown3,j3⟩
 go_wp2_with (first
  | (refine Qal rfl _ _ _ rfl 50 _ 4 Tryz.underlying267 Qvv rfl w _ 4 _ (Qaq hown2 j3) (L2.trans j3) A3 8 c3 _ (QcQ hown3) (QfD _) rfl rfl (by omega) (by omega) ?_;intro A4 c4 w4 hown4 hl4 hg4 _
     have J5:=Qaa w4 (.cells #[W32 ctr] 50))
  | (refine Qal rfl _ _ _ rfl 50 _ 4 Tryz.underlying267 Qvv rfl w _ (4+8) _ (Qaq hown4 J5) (hl4.trans J5) _ 1 1 _ ((Blk.new w4 50 [W32 ctr]).rd rfl) (by intro u hu;rw[QGL.1 hu];rfl) rfl rfl (by omega) (by omega) ?_;intro A5 c5 w5 hown5 hl5 hg5 _)
  | fail)
 (refine (hw.out B 12 d 3 nonce _ (hn.later hl5) rfl (by omega)).mono ?_);rintro e w6 ⟨A6,c6,rfl,hown6,j6⟩
 go_wp2_with (first
  | (refine Qal rfl _ _ _ rfl 50 _ 4 Tryz.underlying267 Qvv rfl w _ (4+8+1) _ (Qaq hown5 j6) (hl5.trans j6) A6 3 c6 _ (QcQ hown6) (QfD _) rfl rfl (by omega) (by omega) ?_;intro A7 c7 w7 hown7 hl7 hg7 _
     have J8:=Qaa w7 (.cells #[] 50))
  | (refine Qal rfl _ _ _ rfl 50 _ 4 Tryz.underlying267 Qvv rfl w7 _ 0 [] (QxR (n:=0) (Blk.new w7 50 []) (QFE _) rfl (by omega)) J8 A7 (4+8+1+3) c7 _ (QcQ (Qaq hown7 J8)) ?h1 rfl rfl (by omega) (by omega) ?_;(case h1=>intro u hu;simp only[QGC]at hu;rcases hu with ((hu|hu)|hu)|hu<;>first|exact QfD _ u hu|(rw [QGL.1 hu];rfl));intro A8 c8 w8 hown8 hl8 hg8 _)
  | (refine Qao rfl 270 _ rfl plcV ?hb ?_;(case hb=>kernel_rfl))
  | (refine Qai rfl rfl 270 _ _ rfl w8.heap.size 0 _ _ plcV (Blk.new w8 270 (QFu 32 (.int .i64 0))) rfl rfl QzJ (by rw[Qjn];simp) QxU ?_;intro w9 hb9 ho9;rw[Qap _ _ (by rw[Qjn];simp)]at hb9)
  | fail)
 have hSW:Hid (((Qfm chaK 4).map W32++(Qfm key 8).map W32++[W32 ctr])++(Qfm nonce 3).map W32=S.map W32):=hid (by rw[hL.out];simp only[QF2,QFW,QFR])
 have hLa:Later w w8:=hl7.trans hl8
 rw[QFz,hSW.out]at hown8
 rw[hSW.out]at hown7
 obtain⟨gs,rs,rfl,hgs,hbs,hcs⟩:∃g rest,A7=some ⟨g,0,none⟩∧w.heap.size≤g∧Blk w8 g 50 (S.map W32++rest)∧g<w7.heap.size:=by
  rcases Qlx (Qaq hown7 hl8) with ⟨_,h0⟩|⟨g,rest,e,h1,h2,h3⟩
  ·omega
  ·subst e
   exact⟨g,rest,rfl,h1,h2,(hown7.lt g rfl).2⟩
 obtain⟨go,ro,rfl,hgo,hbo⟩:∃g rest,A8=some ⟨g,0,none⟩∧w7.heap.size≤g∧Blk w8 g 50 (S.map W32++rest):=by
  rcases Qlx hown8 with ⟨_,h0⟩|⟨g,rest,e,h1,h2,h3⟩
  ·omega
  ·exact⟨g,rest,e,h1,h2⟩
 have B8:=((Bag.none w).add hLa (by simp) hgs hbs).add (Later.refl _) (by intro p hp;rw[QGL.1 hp];show go≠gs;omega) (QGh hl7.size hgo) hbo
 have B9:=B8.push (Qaa w8 _) (QFE _) ho9 hb9
 clear B8 hbo hbs hgo hgs hcs hown8 hown7 hl8 hl7 hg8 hg7 hown6 j6 hown5 hl5 hg5 hown4 hl4 hg4 J5 J8 hown3 j3 hown2 L2 hb9 ho9 hSW hLa hw
 generalize w8.heap.size=g9 at *
 have hst:=hid (fun k=>show stR S (k+1)=putQ (stR S k) (plc (k%8) 0) (plc (k%8) 1) (plc (k%8) 2) (plc (k%8) 3) (Qif (wAt (stR S k) (plc (k%8) 0)) (wAt (stR S k) (plc (k%8) 1)) (wAt (stR S k) (plc (k%8) 2)) (wAt (stR S k) (plc (k%8) 3))) from rfl)
 have hsl':=hid (fun k=>(Qkm S k).trans hsl)
 have hqr:=hid QmU
 go_loopw [10] (fun i wr=>∃k:Nat,k≤80∧i= .int .i64 k∧Bag w wr [(g9,270,plcV),(go,50,S.map W32++ro),(gs,50,(stR S k).map W32++rs)]) (fun i _=>80-(intOf i).toNat)
 case atStart=>exact⟨0,by omega,rfl,B9⟩
 case round=>
  clear B9
  obtain⟨k,hk',rfl,B⟩:=hrel
  by_cases hlt:k<80
  ·have hT:=hsl'.out k
   have HST:=hid (hst.out k)
   have hr8:k%8<8:=QF1 _ (by omega)
   have hrem:(k:Int)%8=((k%8:Nat):Int):=by omega
   obtain⟨p0,p1,p2,p3,hp⟩:∃p0 p1 p2 p3,p0=plc (k%8) 0∧p1=plc (k%8) 1∧p2=plc (k%8) 2∧p3=plc (k%8) 3:=⟨_,_,_,_,rfl,rfl,rfl,rfl⟩
   have l0:p0<16:=by rw[hp.1];exact Qpz _ 0 hr8 (by omega)
   have l1:p1<16:=by rw[hp.2.1];exact Qpz _ 1 hr8 (by omega)
   have l2:p2<16:=by rw[hp.2.2.1];exact Qpz _ 2 hr8 (by omega)
   have l3:p3<16:=by rw[hp.2.2.2];exact Qpz _ 3 hr8 (by omega)
   have v0:=Qir (k%8) 0 hr8 (by omega)
   have v1:=Qir (k%8) 1 hr8 (by omega)
   have v2:=Qir (k%8) 2 hr8 (by omega)
   have v3:=Qir (k%8) 3 hr8 (by omega)
   rw[←hp.1]at v0
   rw[←hp.2.1]at v1
   rw[←hp.2.2.1]at v2
   rw[←hp.2.2.2]at v3
   have HST':=HST.out
   rw[←hp.1,←hp.2.1,←hp.2.2.1,←hp.2.2.2]at HST'
   replace HST':=hid HST'
   clear HST hp
   obtain⟨T',hTT⟩:∃T',stR S (k+1)=T':=⟨_,rfl⟩
   rw[hTT]at HST'
   replace hTT:=hid hTT
   generalize stR S k=T at *
   generalize k%8=r at *
   have hz:=(B.nth 0 rfl)
   go_wp2_with (first
    | (refine QaC rfl 269 _ rfl g9 (r*4) [.int .i64 p0,.int .i64 p1,.int .i64 p2,.int .i64 p3] ?hc ?hx _ Tryz.underlying269 rfl QzR ?_;(case hx=>rfl);(case hc=>
        intro j v hv
        match j with
        | 0=>cases hv;exact hz.cellD _ v0
        | 1=>cases hv;exact hz.cellD _ v1
        | 2=>cases hv;exact hz.cellD _ v2
        | 3=>cases hv;exact hz.cellD _ v3
        | j+4=>simp at hv))
    | fail)
   have B1:=(B.fresh (Qaa wr (.cells #[.int .i64 p0,.int .i64 p1,.int .i64 p2,.int .i64 p3] 269)) (QFE _) (Blk.new wr _ [.int .i64 p0,.int .i64 p1,.int .i64 p2,.int .i64 p3])).drew
   clear B hz
   generalize wr.heap.size=g11 at *
   generalize hw1:(wr.alloc (.cells #[.int .i64 p0,.int .i64 p1,.int .i64 p2,.int .i64 p3] 269))=w1 at *
   clear hw1
   have y0:=(B1.nth 0 rfl).cellD 0 rfl
   have y1:=(B1.nth 0 rfl).cellD 1 rfl
   have y2:=(B1.nth 0 rfl).cellD 2 rfl
   have y3:=(B1.nth 0 rfl).cellD 3 rfl
   have hTg:=fun p (hp:p<16)=>(B1.nth 3 rfl).cellD p (u:=W32 (wAt T p)) (by rw[QFS (by rw[QFA];omega)];exact Qe7 (by omega))
   have z0:=hTg p0 l0
   have z1:=hTg p1 l1
   have z2:=hTg p2 l2
   have z3:=hTg p3 l3
   clear hTg
   generalize wAt T p0=a0 at *
   generalize wAt T p1=a1 at *
   generalize wAt T p2=a2 at *
   generalize wAt T p3=a3 at *
   refine QaF [0,1,2,3,4,5,6,7,8,9,10,11,12,13,14,15,16,17,18,19,20] [([],1,21),([],2,22)] [] [23] [22] (fun _=>(fun g=>.pointer (some ⟨g,0,none⟩),.cells (QFu 4 (Value.int .u32 0)).toArray 271)) (by as_aux_lemma=>kernel_rfl) (by as_aux_lemma=>kernel_rfl) (by intro _ _ d _ _ h;cases d<;>exact h) (by intro _ _ d _ _ h;cases d<;>exact h) ?_
   simp only[pick,QFv,QFw,QFx,QFy,QFz]
   repeat (go_big_quiet_step (fail))
   refine wpQuiet_nil ?_
   refine⟨?mk,?_⟩
   case mk=>
    refine⟨fun o ho=>?_,trivial⟩
    simp only[QFv,QFw,Option.some.injEq]at ho
    subst ho
    refine⟨rfl,fun W=>?_⟩
    unfold execOp
    simp[go_sem]
   simp only[Qbv,pick,QFv,QFw,QFx,QFy,QFz]
   refine wpQuiet_nil ?_
   intro w2 hl2
   go_wp2_with fail
   refine (hqr.out (a0,a1,a2,a3) _).mono ?_
   rintro e w3 ⟨rfl,j3⟩
   dsimp only at HST' ⊢
   generalize Qif a0 a1 a2 a3=q at *
   obtain⟨q0,q1,q2,q3⟩:=q
   go_wp2_with fail
   refine⟨j3,?_⟩
   refine wpQuiet_nil ?_
   intro w4 g12 hl4 hg4 _ hb4
   refine wpQuiet_nil ?_
   intro w5 hl5
   have B5:=B1.fresh (((hl2.trans j3).trans hl4).trans hl5) hg4 (Blk.later hb4 hl5)
   clear B1 hl2 j3 hl4 hl5 hb4 hg4 y0 y1 y2 y3 z0 z1 z2 z3 v0 v1 v2 v3
   go_wp2_with (first
    | (refine Qai rfl rfl 271 _ _ rfl g12 0 _ _ [W32 q0,W32 q1,W32 q2,W32 q3] (B5.nth 0 rfl) rfl rfl QoJ (by simp) ?_ ?_;(intro u hu;simp at hu;rcases hu with rfl|rfl|rfl|rfl<;>rfl);intro w6 hb6 ho6;rw[Qap _ _ (by simp)]at hb6)
    | fail)
   have B6:=B5.write 0 rfl ho6 hb6
   clear B5 ho6 hb6
   go_loopw [13] (fun i wr=>∃j:Nat,j≤4∧i= .int .i64 j∧Bag w wr [(g12,271,[W32 q0,W32 q1,W32 q2,W32 q3]),(g11,269,[.int .i64 p0,.int .i64 p1,.int .i64 p2,.int .i64 p3]),(g9,270,plcV),(go,50,S.map W32++ro),(gs,50,(st4 T p0 p1 p2 p3 (q0,q1,q2,q3) j).map W32++rs)]) (fun i _=>4-(intOf i).toNat)
   case atStart=>exact⟨0,by omega,rfl,B6⟩
   case round=>
    clear B6
    obtain⟨j,hj,rfl,B⟩:=hrel
    by_cases hjl:j<4
    ·have y0:=(B.nth 1 rfl).cellD 0 rfl
     have y1:=(B.nth 1 rfl).cellD 1 rfl
     have y2:=(B.nth 1 rfl).cellD 2 rfl
     have y3:=(B.nth 1 rfl).cellD 3 rfl
     have z0:=(B.nth 0 rfl).cellD 0 rfl
     have z1:=(B.nth 0 rfl).cellD 1 rfl
     have z2:=(B.nth 0 rfl).cellD 2 rfl
     have z3:=(B.nth 0 rfl).cellD 3 rfl
     have hj4:j=0∨j=1∨j=2∨j=3:=by omega
     clear hj hjl
     rcases hj4 with rfl|rfl|rfl|rfl
     ·go_wp2_with fail
      refine Qad [] [0,1,2,3,4,5,6,7] [8] (by as_aux_lemma=>kernel_rfl) (by as_aux_lemma=>kernel_rfl) (by intro _ _ d _ _ h;cases d<;>exact h) ?_
      simp only[Qah,pick,QFv,QFw,QFx,QFy,QFz]
      repeat (go_big_quiet_step (fail))
      refine wpQuiet_nil ?_
      go_wp2_with (first
       | (refine Qac rfl rfl _ _ _ rfl gs p0 _ _ (B.drew.nth 4 rfl) rfl (by rw[QFF,QFA,QcU];omega) rfl QbE ?_;intro v' w7 hv' hb7 ho7;simp[go_sem]at hv';subst hv')
       | fail)
      go_roundw
      case rel=>
       refine⟨0+1,by omega,by go_num,?_⟩
       rw[QG5 _ _ (by rw[QFA,QcU];omega),Qd0]at hb7
       exact B.drew.write 4 rfl ho7 hb7
      case measure=>simp[intOf];try omega
     ·go_wp2_with fail
      refine Qad [] [0,1,2,3,4,5,6,7] [8] (by as_aux_lemma=>kernel_rfl) (by as_aux_lemma=>kernel_rfl) (by intro _ _ d _ _ h;cases d<;>exact h) ?_
      simp only[Qah,pick,QFv,QFw,QFx,QFy,QFz]
      repeat (go_big_quiet_step (fail))
      refine wpQuiet_nil ?_
      go_wp2_with (first
       | (refine Qac rfl rfl _ _ _ rfl gs p1 _ _ (B.drew.nth 4 rfl) rfl (by rw[QFF,QFA,QcU];omega) rfl QbE ?_;intro v' w7 hv' hb7 ho7;simp[go_sem]at hv';subst hv')
       | fail)
      go_roundw
      case rel=>
       refine⟨1+1,by omega,by go_num,?_⟩
       rw[QG5 _ _ (by rw[QFA,QcU];omega),Qd0]at hb7
       exact B.drew.write 4 rfl ho7 hb7
      case measure=>simp[intOf];try omega
     ·go_wp2_with fail
      refine Qad [] [0,1,2,3,4,5,6,7] [8] (by as_aux_lemma=>kernel_rfl) (by as_aux_lemma=>kernel_rfl) (by intro _ _ d _ _ h;cases d<;>exact h) ?_
      simp only[Qah,pick,QFv,QFw,QFx,QFy,QFz]
      repeat (go_big_quiet_step (fail))
      refine wpQuiet_nil ?_
      go_wp2_with (first
       | (refine Qac rfl rfl _ _ _ rfl gs p2 _ _ (B.drew.nth 4 rfl) rfl (by rw[QFF,QFA,QcU];omega) rfl QbE ?_;intro v' w7 hv' hb7 ho7;simp[go_sem]at hv';subst hv')
       | fail)
      go_roundw
      case rel=>
       refine⟨2+1,by omega,by go_num,?_⟩
       rw[QG5 _ _ (by rw[QFA,QcU];omega),Qd0]at hb7
       exact B.drew.write 4 rfl ho7 hb7
      case measure=>simp[intOf];try omega
     ·go_wp2_with fail
      refine Qad [] [0,1,2,3,4,5,6,7] [8] (by as_aux_lemma=>kernel_rfl) (by as_aux_lemma=>kernel_rfl) (by intro _ _ d _ _ h;cases d<;>exact h) ?_
      simp only[Qah,pick,QFv,QFw,QFx,QFy,QFz]
      repeat (go_big_quiet_step (fail))
      refine wpQuiet_nil ?_
      go_wp2_with (first
       | (refine Qac rfl rfl _ _ _ rfl gs p3 _ _ (B.drew.nth 4 rfl) rfl (by rw[QFF,QFA,QcU];omega) rfl QbE ?_;intro v' w7 hv' hb7 ho7;simp[go_sem]at hv';subst hv')
       | fail)
      go_roundw
      case rel=>
       refine⟨3+1,by omega,by go_num,?_⟩
       rw[QG5 _ _ (by rw[QFA,QcU];omega),Qd0]at hb7
       exact B.drew.write 4 rfl ho7 hb7
      case measure=>simp[intOf];try omega
    ·obtain rfl:4=j:=by omega
     go_wp2_with fail
     go_roundw
     case rel=>
      refine⟨k+1,by omega,by go_num,?_⟩
      rw[hTT.out,HST'.out]
      exact B.drop 2
     case measure=>simp[intOf];omega
  ·obtain rfl:80=k:=by omega
   have hFl:=hsl'.out 80
   generalize stR S 80=F at *
   have hCs:=hid (QgG F S)
   have hCl:=hid (QdM F S)
   have hC0:=hid (show Qey F S 0=[] from rfl)
   have hpu:=hid Qzk
   clear hst hsl' hqr hL
   go_wp2_with fail
   have hown0:wr.ownsRow wr.heap.size 5 1 (.slice none 0 0) 0 ([].map W8):=World.ownsRow_nil wr _ _ 1
   obtain⟨w9,hw9⟩:∃w9,w9=wr:=⟨_,rfl⟩
   subst hw9
   go_loopw [14,15] (fun v i wr=>∃(k:Nat) (A':Option Addr) (c':Nat),k≤16∧i= .int .i64 k∧v= .slice A' (4*k) c'∧OwnB wr w9.heap.size A' (4*k) c' (Qey F S k)∧Later w9 wr) (fun _ i _=>16-(intOf i).toNat)
   case atStart=>exact⟨0,none,0,by omega,rfl,rfl,by rw[hC0.out];exact hown0,Later.refl _⟩
   case round=>
    clear hown0
    obtain⟨k,A6,c6,hk6,rfl,rfl,hown,L⟩:=hrel
    by_cases hlt:k<16
    ·have HCS:=hid (hCs.out k)
     have z0:=((B.nth 2 rfl).later L).cellD k (u:=W32 (wAt F k)) (by rw[QFS (by rw[QFA];omega)];exact Qe7 (by omega))
     have z1:=((B.nth 1 rfl).later L).cellD k (u:=W32 (wAt S k)) (by rw[QFS (by rw[QFA];omega)];exact Qe7 (by omega))
     generalize wAt F k=xf at *
     generalize wAt S k=xs at *
     generalize Qey F S k=O at *
     go_wp2_with fail
     refine Qad [([0,1,2,3,4,5,6,7,8,9],10)] [11,12,13,14,15] [] (by as_aux_lemma=>kernel_rfl) (by as_aux_lemma=>kernel_rfl) (by intro _ _ d _ _ h;cases d<;>exact h) ?_
     simp only[Qah,pick,QFv,QFw,QFx,QFy,QFz]
     repeat (go_big_quiet_step (fail))
     refine wpQuiet_nil ?_
     go_wp2_with fail
     (refine (hpu.out (xf+xs) _ (by simp) _).mono ?_);rintro e w5 ⟨A5,c5,rfl,hown5,j5⟩
     go_wp2_with fail
     try refine⟨by first|assumption|exact Qab _|exact Qaa _ _|exact Later.refl _,?_⟩
     try simp only[Qah,pick,QFv,QFw,QFx,QFy,QFz]
     repeat (go_big_quiet_step (fail))
     refine wpQuiet_nil ?_
     go_wp2_with (first
      | (refine Qal rfl _ _ _ rfl 5 _ 1 Tryz.underlying25 Qbq rfl w9 _ (4*k) _ (hown.later ((Qab _).trans j5)) (L.trans ((Qab _).trans j5)) A5 4 c5 _ hown5.rd (Qay _) rfl rfl (by omega) (by omega) ?_;intro A7 c7 w7 hown7 hl7 hg7 _)
      | fail)
     have hown8:OwnB w7 w9.heap.size A7 (4*k+4) c7 (O++le4 (xf+xs)):=QeD hown7
     rw[←HCS.out]at hown8
     go_roundw
     case rel=>(repeat apply Exists.intro);exact⟨⟨k+1,A7,c7,by omega,by go_num,rfl,hown8,hl7⟩,rfl⟩
     case measure=>simp[intOf];omega
    ·obtain rfl:16=k:=by omega
     rw[←hC.out]at hown
     have hsz:=B.lat.size
     go_wp2_with fail
     go_ret
     exact⟨_,_,rfl,hown.mono hsz,B.lat.trans L⟩
set_option maxRecDepth 100000 in
set_option maxHeartbeats 4000000 in
theorem QhO (A:Option Addr) (c n:Nat) (key:List UInt8) (w:World) (hk:RdB w A 32 key) (hn:n≤65536):
 Calls Tryz.prog 104 #[.slice A 32 c,.int .i64 0,.int .i64 n] w fun e w'=>∃A' c',e= .returned (.slice A' n c')∧OwnB w' w.heap.size A' n c' (chaS key n)∧Later w w':=by
 have hB:=hid (fun B d ctr (w':World) (hl:Later w w') hn=>Qkv A B c d key (QFu 12 0) ctr w' (hk.later hl) hn)
 have hs1:=hid (QfJ key)
 have hl1:=hid (QcN key)
 have hS:=hid (QfV key n)
 have h0:=hid (show chaF key 0=[] from rfl)
 have hSl:=QaA key n
 go_enter Tryz.func104,Tryz.ntmps104
 go_wp2_with fail
 go_loopw [7,8] (fun v i wr=>∃(k:Nat) (A':Option Addr) (c':Nat),k≤1025∧i= .int .i64 k∧v= .slice A' (64*k) c'∧64*k<n+64∧OwnB wr w.heap.size A' (64*k) c' (chaF key k)∧Later w wr) (fun v _ _=>n-lenOf v)
 case atStart=>exact⟨0,none,0,by omega,rfl,rfl,by omega,by rw[h0.out];exact Qa1 _ _ _,Later.refl w⟩
 case round=>
  obtain⟨k,A6,c6,hk6,rfl,rfl,hmk,hown,L⟩:=hrel
  by_cases hlt:64*k<n
  ·have hcmp:64*(k:Int)<(n:Int):=by omega
   have hcv:=QgD k
   have hb:=hid (hs1.out k)
   generalize chaF key k=Fk at *
   go_wp2_with (first
    | (refine QaE rfl _ _ _ rfl 5 _ 1 Tryz.underlying25 Qbq rfl _ _ _ _ 12 rfl rfl rfl rfl (by omega) (by omega) ?_;intro w1 hb1 hl1')
    | fail)
   have hno:RdB w1 (some ⟨wr.heap.size,0,none⟩) 12 (QFu 12 0):=hb1.rd rfl
   (refine (hB.out _ _ (QF7 k) _ (L.trans hl1') hno).mono ?_);rintro e w4 ⟨A9,c9,rfl,hown9,j9⟩
   have hrd9:=hown9.rd
   generalize chaB key (QFu 12 0) (QF7 k)=Bk at *
   go_wp2_with (first
    | (refine Qal rfl _ _ _ rfl 5 _ 1 Tryz.underlying25 Qbq rfl w _ (64*k) _ (hown.later (hl1'.trans j9)) ((L.trans hl1').trans j9) A9 64 c9 _ hrd9 (Qay _) rfl rfl (by omega) (by omega) ?_;intro A7 c7 w7 hown7 hl7 hg7 _)
    | fail)
   have hown8:OwnB w7 w.heap.size A7 (64*k+64) c7 (Fk++Bk):=QeD hown7
   rw[←hb.out]at hown8
   go_roundw
   case rel=>exact⟨k+1,A7,c7,by omega,by go_num,rfl,by omega,hown8,hl7⟩
   case measure=>simp only[lenOf];omega
  ·have hcmp: ¬ 64*(k:Int)<(n:Int):=by omega
   have hE:=hid (hS.out k (by omega))
   have hcut:∀W,(Instr.sliceAt 25 (.slice A6 (64*k) c6) (some (.int .i64 0)) (some (.int .i64 (n:Int))) none).run Tryz.prog W= .ok (.slice A6 n c6) W:=fun W=>by
    have hcap:=hown.cap
    have h:=cut8 A6 (64*k) c6 .i64 .i64 0 n (by omega) (by omega) W
    simpa [QiN] using h
   have hrd:=hown.rd.take (m:=n) (by omega)
   rw[←hE.out]at hrd
   go_wp2_with fail
   (refine (QbD A6 n c6 _ _ hrd (by omega)).mono ?_);rintro e w8 ⟨A8,c8,rfl,hown8,j8⟩
   go_wp2_with fail
   go_ret
   exact⟨_,_,rfl,hown8.mono L.size,L.trans j8⟩
def xorB (xs ys:List UInt8):List UInt8:=List.zipWith (· ^^^ ·) xs ys
theorem Qa2 {xs ys:List UInt8} (h:xs.length=ys.length):(xorB xs ys).length=ys.length:=by simp[xorB,h]
def QfW (xs ys:List UInt8) (k:Nat):List UInt8:=(xorB xs ys).take k++xs.drop k
theorem Qei {xs ys:List UInt8} (h:xs.length=ys.length) (k:Nat) (hk:k≤xs.length):(QfW xs ys k).length=xs.length:=by
 have:=Qa2 h
 simp[QfW]
 omega
theorem Qf8 (xs ys:List UInt8):QfW xs ys 0=xs:=by simp[QfW]
theorem Qhr {xs ys:List UInt8} (h:xs.length=ys.length):QfW xs ys xs.length=xorB xs ys:=by
 have:=Qa2 h
 rw[QfW,List.drop_length,QGb,QFJ (by omega)]
theorem Qhl {xs ys:List UInt8} (h:xs.length=ys.length) {k:Nat} (hk:k<xs.length):(QfW xs ys k)[k]?=some (xs.getD k 0):=by
 have:=Qa2 h
 rw[QfW,QFK (by simp;omega),QFY,this,QGG (by omega),Nat.sub_self,QGR,QG6,QFB hk,QFC,QFB hk]
 rfl
theorem Qf2 {xs ys:List UInt8} (h:xs.length=ys.length) {k:Nat} (hk:k<xs.length):(QfW xs ys k).set k (xs.getD k 0 ^^^ ys.getD k 0)=QfW xs ys (k+1):=by
 have hl:=Qa2 h
 have hg:(xorB xs ys)[k]?=some (xs.getD k 0 ^^^ ys.getD k 0):=by
  rw[xorB,List.getElem?_zipWith,QFC,QFC,QFB hk,QFB (show k<ys.length by omega)]
  rfl
 have hkx:k<(xorB xs ys).length:=by omega
 rw[QfW,QfW,QF9 _ _ (by simp;omega),QFY,hl,QGG (by omega),Nat.sub_self,QGA hk,QFG,QF5 hkx,QFL]
 have:(xorB xs ys)[k]=xs.getD k 0 ^^^ ys.getD k 0:=by
  have:=QFB hkx
  rw[hg]at this
  exact (Option.some.inj this).symm
 rw[this]
 rfl
theorem QeR {xs ys:List UInt8} (h:xs.length=ys.length):xorB (xorB xs ys) ys=xs:=by
 apply List.ext_getElem?
 intro j
 rw[xorB,xorB,List.getElem?_zipWith,List.getElem?_zipWith]
 by_cases hj:j<xs.length
 ·rw[QFB hj,QFB (show j<ys.length by omega)]
  simp[UInt8.xor_assoc]
 ·rw[QGm (show xs.length≤j by omega),QGm (show ys.length≤j by omega)]
theorem QAj {pre post:List Value} {xs:List UInt8} {off k:Nat} (hp:pre.length=off) (h:k<xs.length) (x:UInt8) (hx:xs[k]?=some x):(pre++xs.map W8++post)[off+k]?=some (W8 x):=by
 rw[QFL,QFK (by omega),show off+k-pre.length=k by omega,QFS (by rw[QFA];exact h),QFN,hx]
 rfl
theorem QAR {pre post:List Value} {xs:List UInt8} {off k:Nat} (hp:pre.length=off) (h:k<xs.length) (x:UInt8):(pre++xs.map W8++post).set (off+k) (W8 x)=pre++(xs.set k x).map W8++post:=by
 rw[QFL,QF9 _ _ (by omega),show off+k-pre.length=k by omega,QG5 _ _ (by rw[QFA];exact h),QbC,QFL]
set_option maxRecDepth 100000 in
set_option maxHeartbeats 2000000 in
theorem Qor (g off n c c2:Nat) (t:TypeId) (A:Option Addr) (pre post:List Value) (xs ys:List UInt8) (w:World) (hb:Blk w g t (pre++xs.map W8++post)) (hp:pre.length=off) (hxl:xs.length=n) (hy:RdB w A n ys) (hoff:0<n→Off A g) (hn:n≤1048576):
 Calls Tryz.prog 167 #[.slice (some ⟨g,off,none⟩) n c,.slice A n c2] w fun e w'=>e= .returned (.tuple #[])∧Blk w' g t (pre++(xorB xs ys).map W8++post)∧Only g w w':=by
 have hyl:=hy.len
 have hlen:xs.length=ys.length:=by omega
 have hX:=hid (fun k=>Qei hlen k)
 have hG:=hid (fun k (h:k<xs.length)=>Qhl hlen h)
 have hS:=hid (fun k (h:k<xs.length)=>Qf2 hlen h)
 have hA:=hid (Qhr hlen)
 have hN:=hid (Qf8 xs ys)
 go_enter Tryz.func167,Tryz.ntmps167
 go_wp2_with fail
 go_loopw [8] (fun i wr=>∃k:Nat,k≤n∧i= .int .i64 k∧Blk wr g t (pre++(QfW xs ys k).map W8++post)∧Only g w wr) (fun i _=>n-(intOf i).toNat)
 case atStart=>exact⟨0,by omega,rfl,by rw[hN.out];exact hb,World.grownBy.refl w _⟩
 case round=>
  clear hb
  obtain⟨k,hk,rfl,hb,ho'⟩:=hrel
  by_cases hlt:k<n
  ·have hy':RdB wr A n ys:=Rd.only hy ho' (fun b o e h=>hoff (by omega) _ e h)
   obtain⟨b2,o2,rfl,hb2,hc2⟩:=RdB.at_ hy' (by omega)
   have c1:=hc2 k hlt
   have hxk:=hX.out k (by omega)
   have d1:=hb.cellD (off+k) (QAj hp (by omega) _ (hG.out k (by omega)))
   have HS:=hid (hS.out k (by omega))
   clear hc2
   generalize xs.getD k 0=x at *
   generalize ys.getD k 0=y at *
   go_wp2_with (first
    | (refine Qac rfl rfl _ _ _ rfl g (off+k) _ _ hb rfl (by simp only[QFF,QFA];omega) rfl Qb0 ?_;intro v' w5 hv' hb5 ho5;simp[go_sem]at hv';subst hv')
    | fail)
   rw[QAR hp (by omega),HS.out]at hb5
   go_roundw
   case rel=>exact⟨k+1,by omega,by go_num,hb5,ho'.trans ho5⟩
   case measure=>simp[intOf];omega
  ·obtain rfl:n=k:=by omega
   rw[←hxl,hA.out]at hb
   go_wp2_with fail
   exact bodyPost_end (results_none rfl _ _ _) rfl ⟨rfl,hb,ho'⟩
theorem QwK (g off n c c2:Nat) (t:TypeId) (A:Option Addr) (bs ys:List UInt8) (rest:List Value) (w:World) (hb:Blk w g t (bs.map W8++rest)) (hbl:bs.length=n) (h32:32≤n) (hoff:off=32∨(off=0∧n=32)) (hy:RdB w A (n-32) ys) (hA:0<n-32→Off A g) (hn:n≤1048576):
 Calls Tryz.prog 167 #[.slice (some ⟨g,off,none⟩) (n-32) c,.slice A (n-32) c2] w fun e w'=>e= .returned (.tuple #[])∧Blk w' g t ((bs.take 32++xorB (bs.drop 32) ys).map W8++rest)∧Only g w w':=by
 have e0:bs.map W8++rest=(bs.take 32).map W8++(bs.drop 32).map W8++rest:=by rw[←QF2,QF8]
 rcases hoff with rfl|⟨rfl,rfl⟩
 ·rw[e0]at hb
  refine (Qor g 32 (n-32) c c2 t A _ rest (bs.drop 32) ys w hb (by rw[QFA,QFY];omega) (by rw[QF0];omega) hy hA (by omega)).mono ?_
  rintro e w' ⟨he,hb',ho⟩
  exact⟨he,by rw[QF2];exact hb',ho⟩
 ·have hd:bs.drop 32=[]:=QGc (by rw[QF0];omega)
  have hyn:ys=[]:=QGc hy.len
  refine (Qor g 0 0 c c2 t A [] (bs.map W8++rest) [] ys w hb rfl rfl hy hA (by omega)).mono ?_
  rintro e w' ⟨he,hb',ho⟩
  refine⟨he,?_,ho⟩
  subst hyn
  rw[hd,show xorB [] []=[] from rfl,QGb,QFJ (by omega)]
  exact hb'
def QdE (K:List UInt8) (r:Nat) (bs:List UInt8):List UInt8:=
 if r=2∨r=4 then xorB (bs.take 32) (Qbm K (bs.drop 32))++bs.drop 32 else bs.take 32++xorB (bs.drop 32) (chaS (xorB K (bs.take 32)) (bs.length-32))
theorem Qfz (K:List UInt8) (r:Nat) (bs:List UInt8) (h:32≤bs.length):(QdE K r bs).length=bs.length:=by
 unfold QdE
 split
 ·rw[QFF,Qa2 (by rw[QaG,QFY];omega),QaG,QF0]
  omega
 ·rw[QFF,Qa2 (by rw[QaA,QF0]),QaA,QFY]
  omega
theorem Qo1 (K:List UInt8) (r:Nat) (bs:List UInt8) (h:32≤bs.length):QdE K r (QdE K r bs)=bs:=by
 by_cases hr:r=2∨r=4
 ·have l1:(bs.take 32).length=(Qbm K (bs.drop 32)).length:=by rw[QaG,QFY];omega
  have l2:(xorB (bs.take 32) (Qbm K (bs.drop 32))).length=32:=by rw[Qa2 l1,QaG]
  rw[QdE,if_pos hr,QdE,if_pos hr,QGv l2,QGe l2,QeR l1,QF8]
 ·have l0:(bs.take 32).length=32:=by rw[QFY];omega
  have l1:(bs.drop 32).length=(chaS (xorB K (bs.take 32)) (bs.length-32)).length:=by rw[QaA,QF0]
  have l2:(bs.take 32++xorB (bs.drop 32) (chaS (xorB K (bs.take 32)) (bs.length-32))).length=bs.length:=by
   have:=Qfz K r bs h
   rwa [QdE,if_neg hr]at this
  rw[QdE,if_neg hr,QdE,if_neg hr,l2,QGv l0,QGe l0,QeR l1,QF8]
theorem QfF:(Tryz.prog.info? 45).map (·.size)=some 32:=by kernel_rfl
theorem QdP {w:World} {g:Nat} {t:TypeId} {bs:List UInt8} {n:Nat} (h:Blk w g t (bs.map W8)) (hn:bs.length=n):RdB w (some ⟨g,0,none⟩) n bs:=h.rd (by rw[QFA,hn])
set_option maxRecDepth 100000 in
set_option maxHeartbeats 4000000 in
theorem Qwv (g n c:Nat) (K bs:List UInt8) (r:Nat) (rest:List Value) (w:World) (hb:Blk w g 5 (bs.map W8++rest)) (hbl:bs.length=n) (h32:32≤n) (hn:n≤4096) (hc:n≤c) (hK:K.length=32) (h1:1≤r) (h4:r≤4):
 Calls Tryz.prog 145 #[.slice (some ⟨g,0,none⟩) n c,.agg (K.map W8).toArray,.int .i64 r] w fun e w'=>e= .returned (.tuple #[])∧Blk w' g 5 ((QdE K r bs).map W8++rest)∧Only g w w':=by
 have hcl:∀W,(Instr.sliceAt 25 (.slice (some ⟨g,0,none⟩) n c) none (some (.int .i64 32)) none).run Tryz.prog W= .ok (.slice (some ⟨g,0,none⟩) 32 c) W:=fun W=>QlG (some ⟨g,0,none⟩) n c .i64 32 (by omega) W
 obtain⟨off,hoff,hcr⟩:∃off,(off=32∨(off=0∧n=32))∧∀W,(Instr.sliceAt 25 (.slice (some ⟨g,0,none⟩) n c) (some (.int .i64 32)) none none).run Tryz.prog W= .ok (.slice (some ⟨g,off,none⟩) (n-32) (c-32)) W:=by
  have h:=fun W=>QgY (some ⟨g,0,none⟩) n c .i64 32 h32 W
  unfold cutA at h
  by_cases hc32:c=32
  ·rw[if_pos hc32]at h
   exact⟨0,.inr ⟨rfl,by omega⟩,h⟩
  ·rw[if_neg hc32]at h
   exact⟨32,.inl rfl,h⟩
 have hrdR:∀w',Blk w' g 5 (bs.map W8++rest)→RdB w' (some ⟨g,off,none⟩) (n-32) (bs.drop 32):=fun w' hb'=>by
  rcases hoff with rfl|⟨rfl,rfl⟩
  ·have:=(Qeo hb' hbl).cut (k:=32) (c:=n+33) h32 (by omega)
   rw[cutA,if_neg (by omega)]at this
   exact this
  ·rw[QGc (show (bs.drop 32).length=0 by rw[QF0];omega)]
   exact⟨rfl,fun h=>absurd h (by omega)⟩
 have hrdR:=hid hrdR
 have hm1:=hid (fun g off n c c2 t A pre post xs ys w hb hp hxl hy ho hn=>Qor g off n c c2 t A pre post xs ys w hb hp hxl hy ho hn)
 have hm2:=hid (fun c c2 A ys w hb hy hA=>QwK g off n c c2 5 A bs ys rest w hb hbl h32 hoff hy hA (by omega))
 replace hoff:=hid hoff
 have htl:(bs.take 32).length=32:=by rw[QFY];omega
 have hdl:(bs.drop 32).length=n-32:=by rw[QF0];omega
 by_cases hr:r=2∨r=4
 ·have hT:=hid (show QdE K r bs=xorB (bs.take 32) (Qbm K (bs.drop 32))++bs.drop 32 by rw[QdE,if_pos hr])
  have hG:=QaG K (bs.drop 32)
  have hTag:=hid (fun A B c d w h1 hc h2=>QlN A B 32 c 1 d K [bs.drop 32] w h1 hc (by omega) h2 (by omega) (by rw[Qcv,hdl];omega))
  rw[Qcv]at hTag
  generalize QdE K r bs=TB at *
  generalize Qbm K (bs.drop 32)=G at *
  rcases hr with rfl|rfl
  all_goals
   go_enter Tryz.func145,Tryz.ntmps145
   go_wp2_with fail
   have B1:=Qbb w 45 (K.map W8)
   generalize w.alloc (.cells (K.map W8).toArray 45)=w1 at *
   refine Qad [] [0,1,2,3,4,5] [] (by as_aux_lemma=>kernel_rfl) (by as_aux_lemma=>kernel_rfl) (by intro _ _ d _ _ h;cases d<;>exact h) ?_
   simp only[Qah,pick,QFv,QFw,QFx,QFy,QFz]
   repeat (go_big_quiet_step (fail))
   refine wpQuiet_nil ?_
   go_wp2_with fail
   have B2:=B1.later ((Qaa w1 (.cells #[.slice (some ⟨g,off,none⟩) (n-32) (c-32)] 25)).trans (Qab _))
   have hb2:=hb.later B2.lat
   have hpp:=QkB (Blk.new w1 25 [.slice (some ⟨g,off,none⟩) (n-32) (c-32)]).drew (QbQ (c:=c-32) (hrdR.out _ hb2) (by omega))
   (with_reducible refine (hTag.out _ _ _ _ _ (QdP (B2.nth 0 rfl) hK) (QFE _) hpp).mono ?_);rintro e w3 ⟨rfl,j3⟩
   go_wp2_with (first
    | (refine QdB 32 rfl rfl _ _ rfl (Blk.new w3 _ (QFu 32 (.int .u8 0))) rfl rfl QfF hG rfl ?_;intro w4 hb4 ho4)
    | fail)
   have L4:=B2.lat.trans ((j3.trans (Qaa w3 _)).only ho4 j3.size)
   have hb5:=hb.later L4
   rw[show bs.map W8++rest=[]++(bs.take 32).map W8++((bs.drop 32).map W8++rest) by rw[QFz,←QFL,←QF2,QF8]]at hb5
   have hgl:=hb.lt
   have hgs:=(B2.lat.trans j3).size
   (refine (hm1.out g 0 32 _ _ _ _ _ _ _ _ _ hb5 rfl htl (QdP hb4 hG) (fun _ ad e=>by cases e;show w3.heap.size≠g;omega) (by omega)).mono ?_);rintro e w5 ⟨rfl,hb6,ho6⟩
   rw[QFz,←QFL,←QF2,←hT.out]at hb6
   go_wp2_with fail
   (try simp only[Exit.inBlock,Exit.then])
   exact bodyPost_ret (results_none rfl _ _ _) rfl ⟨rfl,hb6,L4.thenOnly ho6⟩
 ·have hT:=hid (show QdE K r bs=bs.take 32++xorB (bs.drop 32) (chaS (xorB K (bs.take 32)) (n-32)) by rw[QdE,if_neg hr,hbl])
  have hr':r=1∨r=3:=by omega
  clear hr
  have hxl:(xorB K (bs.take 32)).length=32:=by rw[Qa2 (by omega),htl]
  have hSt:=hid (fun A c w h=>QrW A c (n-32) (xorB K (bs.take 32)) w h (by omega))
  generalize QdE K r bs=TB at *
  generalize hXe:xorB K (bs.take 32)=X at *
  replace hXe:=hid hXe
  generalize chaS X (n-32)=ST at *
  rcases hr' with rfl|rfl
  all_goals
   go_enter Tryz.func145,Tryz.ntmps145
   go_wp2_with fail
   have B1:=(Qbb w 45 (K.map W8)).drew
   generalize w.alloc (.cells (K.map W8).toArray 45)=w1 at *
   refine Qad [] [0,1,2,3,4,5] [] (by as_aux_lemma=>kernel_rfl) (by as_aux_lemma=>kernel_rfl) (by intro _ _ d _ _ h;cases d<;>exact h) ?_
   simp only[Qah,pick,QFv,QFw,QFx,QFy,QFz]
   repeat (go_big_quiet_step (fail))
   refine wpQuiet_nil ?_
   go_wp2_with fail
   have hb1:=hb.later B1.lat
   have hgl:=hb.lt
   have hk1:=B1.nth 0 rfl
   (refine (hm1.out w.heap.size 0 32 _ _ _ _ [] [] K (bs.take 32) _ (by rw[QFz,QGb];exact hk1) rfl hK ((Qeo hb1 hbl).take h32) (fun _ ad e=>by cases e;show g≠w.heap.size;omega) (by omega)).mono ?_);rintro e w5 ⟨rfl,hk2,ho2⟩
   rw[QFz,QGb,hXe.out]at hk2
   have B2:=B1.write 0 rfl ho2 hk2
   have hb2:=hb.later B2.lat
   go_wp2_with fail
   (refine (hSt.out _ _ _ (QdP hk2 hxl)).mono ?_);rintro e w6 ⟨A6,c6,rfl,hown6,j6⟩
   go_wp2_with fail
   have hgs:=B2.lat.size
   (refine (hm2.out _ _ _ ST _ (hb2.later j6) hown6.rd (fun _ ad e=>by subst e;have:=(hown6.lt ad.block rfl).1;omega)).mono ?_);rintro e w7 ⟨rfl,hb7,ho7⟩
   rw[←hT.out]at hb7
   go_wp2_with fail
   exact bodyPost_end (results_none rfl _ _ _) rfl ⟨rfl,hb7,(B2.lat.trans j6).thenOnly ho7⟩
abbrev lab1:ByteArray:=⟨#[119,105,100,101,49]⟩
abbrev lab2:ByteArray:=⟨#[119,105,100,101,50]⟩
abbrev lab3:ByteArray:=⟨#[119,105,100,101,51]⟩
abbrev lab4:ByteArray:=⟨#[119,105,100,101,52]⟩
def labW (r:Int):ByteArray:=if r=1 then lab1 else if r=2 then lab2 else if r=3 then lab3 else lab4
def okR (rs:List Int):Prop:=∀r∈rs,1≤r∧r≤4
instance (rs:List Int):Decidable (okR rs):=by unfold okR;infer_instance
def fitW (key bs:List UInt8):Prop:=key.length=32∧32≤bs.length∧bs.length≤4096
instance (key bs:List UInt8):Decidable (fitW key bs):=by unfold fitW;infer_instance
def QdW (key:List UInt8) (rs:List Int) (bs:List UInt8):List UInt8:=rs.foldl (fun b r=>QdE (derB key (labW r)) r.toNat b) bs
theorem QcR (key:List UInt8):∀(rs:List Int) (bs:List UInt8),32≤bs.length→(QdW key rs bs).length=bs.length
 | [],_,_=>rfl
 | r :: rs,bs,h=>by
   show (QdW key rs (QdE _ _ bs)).length=_
   have:=Qfz (derB key (labW r)) r.toNat bs h
   rw[QcR key rs _ (by omega),this]
theorem QhX (key:List UInt8) (rs rs':List Int) (bs:List UInt8):QdW key (rs++rs') bs=QdW key rs' (QdW key rs bs):=by rw[QdW,List.foldl_append];rfl
theorem Qkk (key:List UInt8):∀(rs:List Int) (bs:List UInt8),32≤bs.length→QdW key rs.reverse (QdW key rs bs)=bs
 | [],_,_=>rfl
 | r :: rs,bs,h=>by
   have hl:=Qfz (derB key (labW r)) r.toNat bs h
   rw[List.reverse_cons,QhX]
   show QdW key [r] (QdW key rs.reverse (QdW key rs (QdE (derB key (labW r)) r.toNat bs)))=bs
   rw[Qkk key rs _ (by omega)]
   exact Qo1 _ _ _ h
def Qfb (key bs:List UInt8) (rs:List Int):Nat:=if okR rs then (if fitW key bs then 0 else 2) else 1
def QcK (key bs:List UInt8) (rs:List Int):List UInt8:=if okR rs then (if fitW key bs then QdW key rs bs else []) else []
theorem Ql5 (B:Option Addr) (m d:Nat) (w:World):
 Calls Tryz.prog 165 #[.slice B m d] w fun e w'=>e= .returned (.bool (decide (32≤m∧m≤4096)))∧w'=w:=by
 by_cases h1:32≤m
 ·by_cases h2:m≤4096
  ·have e1:(32:Int)≤(m:Int):=by omega
   have e2:(m:Int)≤4096:=by omega
   rw[decide_eq_true (show 32≤m∧m≤4096 from ⟨h1,h2⟩)]
   go_enter Tryz.func165,Tryz.ntmps165
   go_wp2
   go_ret
   exact⟨rfl,rfl⟩
  ·have e1:(32:Int)≤(m:Int):=by omega
   have e2: ¬(m:Int)≤4096:=by omega
   rw[decide_eq_false (show ¬(32≤m∧m≤4096) from fun h=>h2 h.2)]
   go_enter Tryz.func165,Tryz.ntmps165
   go_wp2
   go_ret
   exact⟨rfl,rfl⟩
 ·have e1: ¬(32:Int)≤(m:Int):=by omega
  rw[decide_eq_false (show ¬(32≤m∧m≤4096) from fun h=>h1 h.1)]
  go_enter Tryz.func165,Tryz.ntmps165
  go_wp2
  go_ret
  exact⟨rfl,rfl⟩
theorem Qvy (A B:Option Addr) (n c m d:Nat) (w:World):
 Calls Tryz.prog 144 #[.slice A n c,.slice B m d] w fun e w'=>e= .returned (.bool (decide (n=32∧32≤m∧m≤4096)))∧w'=w:=by
 have hf:=hid (Ql5 B m d)
 by_cases h0:n=32
 ·subst h0
  rw[show decide (32=32∧32≤m∧m≤4096)=decide (32≤m∧m≤4096) by simp]
  go_enter Tryz.func144,Tryz.ntmps144
  go_wp2_with fail
  (with_reducible refine (hf.out _).mono ?_);rintro e w1 ⟨rfl,rfl⟩
  go_wp2_with fail
  go_ret
  exact⟨by simp,rfl⟩
 ·have e1:((n:Int)==32)=false:=by simp;omega
  rw[decide_eq_false (show ¬(n=32∧32≤m∧m≤4096) from fun h=>h0 h.1)]
  go_enter Tryz.func144,Tryz.ntmps144
  go_wp2_with fail
  go_ret
  exact⟨by simp,rfl⟩
theorem QmW {key bs:List UInt8} {rs:List Int} (h: ¬okR rs):QcK key bs rs=[]:=by rw[QcK,if_neg h]
theorem QmL {key bs:List UInt8} {rs:List Int} (h: ¬okR rs):Qfb key bs rs=1:=by rw[Qfb,if_neg h]
theorem QiI {key bs:List UInt8} {rs:List Int} (h:okR rs) (h2: ¬fitW key bs):QcK key bs rs=[]:=by rw[QcK,if_pos h,if_neg h2]
theorem Qi7 {key bs:List UInt8} {rs:List Int} (h:okR rs) (h2: ¬fitW key bs):Qfb key bs rs=2:=by rw[Qfb,if_pos h,if_neg h2]
theorem Qe5 {key bs:List UInt8} {rs:List Int} (h:okR rs) (h2:fitW key bs):QcK key bs rs=QdW key rs bs:=by rw[QcK,if_pos h,if_pos h2]
theorem QfP {key bs:List UInt8} {rs:List Int} (h:okR rs) (h2:fitW key bs):Qfb key bs rs=0:=by rw[Qfb,if_pos h,if_pos h2]
def intV (r:Int):Value:=.int .i64 r
theorem Qyy {w:World} {C:Option Addr} {k:Nat} {rs:List Int} (h:Rd w C k (rs.map intV)) {j:Nat} (hj:j<k):∃b o,C=some ⟨b,o,none⟩∧b<w.heap.size∧∀w',Later w w'→w'.cell? ⟨b,o+j,none⟩=some (.int .i64 (rs.getD j 0)):=by
 have hl:rs.length=k:=by have:=h.1;rwa [QFA]at this
 obtain⟨b,o,e,hb,hc⟩:=h.2 (by omega)
 refine⟨b,o,e,hb,fun w' hl'=>(hl'.below.cell (p:=⟨b,o+j,none⟩) hb).trans (hc j _ ?_)⟩
 rw[QFN,QFB (show j<rs.length by omega),QFC,QFB (show j<rs.length by omega)]
 rfl
theorem QkZ (key:List UInt8) (rs:List Int) (bs:List UInt8) (j:Nat) (h:j<rs.length):QdW key (rs.take (j+1)) bs=QdE (derB key (labW (rs.getD j 0))) (rs.getD j 0).toNat (QdW key (rs.take j) bs):=by
 rw[QF5 h,QhX,QFC,QFB h]
 rfl
def QqN (s:List UInt8):List UInt8:=QdI s [lab1,lab2,lab3,lab4] 4
theorem QtW (s:List UInt8) (r:Int) (h1:1≤r) (h4:r≤4):(QqN s).drop ((r.toNat-1)*32)=derB s (labW r)++((QqN s).drop ((r.toNat-1)*32)).drop 32:=by
 have l1:=Qaz s lab1
 have l2:=Qaz s lab2
 have l3:=Qaz s lab3
 have l4:=Qaz s lab4
 have e:QqN s=derB s lab1++(derB s lab2++(derB s lab3++derB s lab4)):=by simp[QqN,QdI]
 have hr:r=1∨r=2∨r=3∨r=4:=by omega
 rw[e]
 generalize hd1:derB s lab1=d1 at *
 generalize hd2:derB s lab2=d2 at *
 generalize hd3:derB s lab3=d3 at *
 generalize hd4:derB s lab4=d4 at *
 rcases hr with rfl|rfl|rfl|rfl
 ·show (d1++_).drop 0=derB s lab1++((d1++_).drop 0).drop 32
  rw[hd1,QHM,QGe l1]
 ·show (d1++_).drop 32=derB s lab2++((d1++_).drop 32).drop 32
  rw[hd2,QGe l1,QGe l2]
 ·show (d1++_).drop 64=derB s lab3++((d1++_).drop 64).drop 32
  rw[hd3,show (64:Nat)=32+32 from rfl,←QGY,QGe l1,QGe l2,QGe l3]
 ·show (d1++_).drop 96=derB s lab4++((d1++_).drop 96).drop 32
  rw[hd4,show (96:Nat)=32+(32+32) from rfl,←QGY,←QGY,QGe l1,QGe l2,QGe l3]
  have:d4.drop 32=[]:=QHs (by omega)
  rw[this,QGb]
theorem QpD {w:World} {base n c:Nat} {A:Option Addr} {bs:List UInt8} (h:OwnB w base A n c bs):c≤maxLen:=by
 rcases h.2 with ⟨hv,_⟩|⟨g2,cap,cur,hv,_,_,_,hm,_⟩
 ·cases hv
  exact Nat.zero_le _
 ·cases hv
  exact hm
theorem QAF (g n c:Nat) (K bs:List UInt8) (r:Nat) (i:Int) (hi:i=(r:Int)) (rest:List Value) (w:World) (hb:Blk w g 5 (bs.map W8++rest)) (hbl:bs.length=n) (h32:32≤n) (hn:n≤4096) (hc:n≤c) (hK:K.length=32) (h1:1≤r) (h4:r≤4):
 Calls Tryz.prog 145 #[.slice (some ⟨g,0,none⟩) n c,.agg (K.map W8).toArray,.int .i64 i] w fun e w'=>e= .returned (.tuple #[])∧Blk w' g 5 ((QdE K r bs).map W8++rest)∧Only g w w':=by
 subst hi
 exact Qwv g n c K bs r rest w hb hbl h32 hn hc hK h1 h4
theorem QxZ {w:World} {g:Nat} {t:TypeId} {ks:List UInt8} (h:Blk w g t (ks.map W8)) {q:Nat} {K r:List UInt8} (hd:ks.drop (q*32)=K++r) {j:Nat} {v:Value} (hv:(K.map W8)[j]?=some v):w.cell? ⟨g,q*32+j,none⟩=some v:=by
 refine h.cellD _ ?_
 rw[QFN,Option.map_eq_some_iff]at hv ⊢
 obtain⟨x,hx,rfl⟩:=hv
 refine⟨x,?_,rfl⟩
 rw[←QGR,hd,QFS (QFU.1 hx).1]
 exact hx
set_option maxRecDepth 100000 in
set_option maxHeartbeats 8000000 in
theorem Qpm (A B C:Option Addr) (n c m d k e0:Nat) (key bs:List UInt8) (rs:List Int) (w:World) (hk:RdB w A n key) (hc:n≤c) (hb:RdB w B m bs) (hd:m≤d) (hr:Rd w C k (rs.map intV)) (hn:n≤2097152) (hm:m≤2097152) (hk2:k≤2097152):
 Calls Tryz.prog 121 #[.slice A n c,.slice B m d,.slice C k e0] w fun e w'=>Later w w'∧∃A' c',e= .returned (.tuple #[.slice A' (QcK key bs rs).length c',.int .i64 (Qfb key bs rs:Nat)])∧OwnB w' w.heap.size A' (QcK key bs rs).length c' (QcK key bs rs):=by
 have hkl:=hk.len
 have hbl:=hb.len
 have hrl:rs.length=k:=by have:=hr.1;rwa [QFA]at this
 have hbad:=hid (fun h=>And.intro (@QmW key bs rs h) (@QmL key bs rs h))
 have hunf:=hid (fun h h2=>And.intro (@QiI key bs rs h h2) (@Qi7 key bs rs h h2))
 have hfit:=hid (fun h h2=>And.intro (@Qe5 key bs rs h h2) (@QfP key bs rs h h2))
 have hat:=hid (fun j (hj:j<k)=>Qyy hr hj)
 have hff:=hid (Qvy A B n c m d)
 generalize QcK key bs rs=WB at *
 generalize Qfb key bs rs=WE at *
 go_enter Tryz.func121,Tryz.ntmps121
 go_wp2_with fail
 go_loopw [16] (fun i wr=>∃j:Nat,j≤k∧i= .int .i64 j∧wr=w∧Hid (∀ t,t<j→1≤rs.getD t 0∧rs.getD t 0≤4)) (fun i _=>k-(intOf i).toNat)
 case atStart=>exact⟨0,by omega,rfl,rfl,hid (fun t h=>by omega)⟩
 case round=>
  obtain⟨j,hj,rfl,rfl,hall⟩:=hrel
  by_cases hlt:j<k
  ·obtain⟨b,o,rfl,hbb,hcell⟩:=hat.out j hlt
   have c1:=hcell wr (Later.refl _)
   clear hcell
   have hmem:rs.getD j 0∈rs:=by rw[QFC,QFB (show j<rs.length by omega)];exact QGy _
   have hbd: ¬(1≤rs.getD j 0∧rs.getD j 0≤4)→Hid (WB=[]∧WE=1):=fun h=>hid (hbad.out (fun hok=>h (hok _ hmem)))
   have hst:1≤rs.getD j 0→rs.getD j 0≤4→Hid (∀ t,t<j+1→1≤rs.getD t 0∧rs.getD t 0≤4):=fun h1 h2=>hid (fun t ht=>by
    by_cases e:t=j
    ·subst e;exact⟨h1,h2⟩
    ·exact hall.out t (by omega))
   clear hmem
   generalize rs.getD j 0=r at *
   by_cases h1:r<1
   ·have hB:=hbd (by omega)
    clear hbd hst
    go_wp2_with fail
    go_ret2
    refine⟨Later.refl _,none,0,?_,?_⟩
    ·rw[hB.out.1,hB.out.2];rfl
    ·rw[hB.out.1];exact Qa1 _ _ _
   ·by_cases h2:4<r
    ·have hB:=hbd (by omega)
     clear hbd hst
     go_wp2_with fail
     go_ret2
     refine⟨Later.refl _,none,0,?_,?_⟩
     ·rw[hB.out.1,hB.out.2];rfl
     ·rw[hB.out.1];exact Qa1 _ _ _
    ·have hS:=hst (by omega) (by omega)
     clear hbd hst
     go_wp2_with fail
     go_roundw
     case rel=>exact⟨j+1,by omega,by go_num,trivial,hS⟩
     case measure=>simp[intOf];omega
  ·obtain rfl:k=j:=by omega
   have hok:okR rs:=fun r hr'=>by
    obtain⟨t,ht⟩:=List.getElem?_of_mem hr'
    have htl:=(QFU.1 ht).1
    have:=hall.out t (by omega)
    rwa [QFC,ht]at this
   clear hbad
   go_wp2_with fail
   (with_reducible refine (hff.out _).mono ?_);rintro e w1 ⟨rfl,rfl⟩
   by_cases hf:n=32∧32≤m∧m≤4096
   ·rw[decide_eq_true hf]
    have hF:=hid (hfit.out hok ⟨by rw[hkl];exact hf.1,by rw[hbl];exact hf.2⟩)
    obtain⟨rfl,hm32,hm4⟩:=hf
    clear hunf hfit
    have hDe:=hid (fun B d w h1 h2=>Qkj A B 32 c 4 d key [lab1,lab2,lab3,lab4] w h1 hc (by omega) h2 (by omega) (by omega) (by intro x hx;simp only[QFP,QFO,or_false]at hx;rcases hx with rfl|rfl|rfl|rfl<;>decide))
    have hKW:=hid (fun r h1 h4=>QtW key r h1 h4)
    have hFt:=hid (fun j h=>QkZ key rs bs j h)
    have hFl:=hid (fun rs=>QcR key rs bs (by omega))
    have hDl:=hid (fun r=>Qaz key (labW r))
    have hTu:=hid QAF
    have hCj:=hid (fun A c w h=>Qg9 A 1 c [bs] w h (by omega) (by rw[Qcv];omega))
    rw[Qcv,hbl]at hCj
    rw[show QdI key [lab1,lab2,lab3,lab4] 4=QqN key from rfl]at hDe
    have hF0:=hid (show QdW key (rs.take 0) bs=bs from rfl)
    go_wp2_with fail
    have J1:=Qaa w1 (.cells #[.string lab1,.string lab2,.string lab3,.string lab4] 9)
    have hst:Strs (w1.alloc (.cells #[.string lab1,.string lab2,.string lab3,.string lab4] 9)) (some ⟨w1.heap.size,0,none⟩) 4 [lab1,lab2,lab3,lab4]:=(Blk.new w1 9 [.string lab1,.string lab2,.string lab3,.string lab4]).rd rfl
    (refine (hDe.out _ _ _ (hk.later J1) hst).mono ?_);rintro e w2 ⟨gK,rfl,hgK,hbK,j2⟩
    go_wp2_with fail
    have J2:=(J1.trans j2).trans (Qaa w2 (.cells #[.slice B m d] 25))
    have hpp:=QkB (Blk.new w2 25 [.slice B m d]) (QbQ (hb.later J2) hd)
    (with_reducible refine (hCj.out _ _ _ hpp).mono ?_);rintro e w3 ⟨A3,c3,rfl,hown3,j3⟩
    have L3:=J2.trans j3
    have hbK3:=hbK.later ((Qaa w2 (.cells #[.slice B m d] 25)).trans j3)
    have hgKw:w1.heap.size≤gK:=QGh J1.size hgK
    replace hown3:=hown3.mono J2.size
    have hmx:=QpD hown3
    obtain⟨gO,rest,rfl,hgO,hbO,hcO,hcc⟩:=Qhe hown3 (by omega)
    replace hcO:=hid hcO
    clear J1 hst j2 J2 hpp j3 hown3 hbK hgK
    go_wp2_with fail
    have hgl:=hbO.lt
    go_loopw [39] (fun i wr=>∃j:Nat,j≤k∧i= .int .i64 j∧Blk wr gO 5 ((QdW key (rs.take j) bs).map W8++rest)∧Blk wr gK 45 ((QqN key).map W8)∧Later w1 wr) (fun i _=>k-(intOf i).toNat)
    case atStart=>exact⟨0,by omega,rfl,by rw[hF0.out];exact hbO,hbK3,L3⟩
    case round=>
     clear hbO hbK3 L3 hgl
     obtain⟨j,hj,rfl,hbO,hbK,L⟩:=hrel
     by_cases hlt:j<k
     ·obtain⟨b,o,rfl,hbb,hcell⟩:=hat.out j hlt
      have c1:=hcell wr L
      have hrr:=hall.out j hlt
      have HF:=hid (hFt.out j (by omega))
      have hFlj:=hFl.out (rs.take j)
      have hKr:=hKW.out _ hrr.1 hrr.2
      have hDlr:=hDl.out (rs.getD j 0)
      clear hcell
      generalize rs.getD j 0=r at *
      obtain⟨q,rfl⟩:∃q:Nat,r=(q:Int)+1:=⟨(r-1).toNat,by omega⟩
      have hq4:q<4:=by omega
      have hqn:((q:Int)+1).toNat=q+1:=by omega
      rw[hqn]at HF hKr
      rw[Nat.add_sub_cancel]at hKr
      generalize derB key (labW ((q:Int)+1))=Kr at *
      generalize QdW key (rs.take j) bs=F at *
      replace hKr:=hid hKr
      clear hqn hrr
      go_wp2_with (first
       | (refine QaC rfl 45 _ rfl gK (q*32) (Kr.map W8) ?hc ?hx _ Tryz.underlying45 rfl ?hi ?_;(case hx=>rfl);(case hi=>rw[QFA,hDlr];exact QfF);(case hc=>intro j v hv;exact QxZ hbK hKr.out hv))
       | fail)
      (refine (hTu.out gO m c3 Kr F (q+1) _ (by omega) rest _ hbO (by omega) hm32 hm4 hcc hDlr (by omega) (by omega)).mono ?_);rintro e w5 ⟨rfl,hb5,ho5⟩
      go_wp2_with fail
      go_roundw
      case rel=>exact⟨j+1,by omega,by go_num,by rw[HF.out];exact hb5,hbK.only ho5 (hbK.ne_type hbO (by decide)),L.only ho5 hgO⟩
      case measure=>simp[intOf];omega
     ·obtain rfl:k=j:=by omega
      rw[QFJ (by omega)]at hbO
      have hFl':=hFl.out rs
      rw[←hF.out.1]at hbO hFl'
      have hcw:c3=(WB.map W8++rest).length:=by
       rw[hcO.out,QFF,QFF,QFA,QFA]
       omega
      have hWl:WB.length=m:=by omega
      have hWE:=hF.out.2
      have hown:=Qvs hbO hgO (by rw[←hcw];exact hmx)
      rw[←hcw,QFA,hWl]at hown
      go_wp2_with fail
      go_ret2
      exact⟨L,_,_,by rw[hWl,hWE];rfl,by rw[hWl];exact hown⟩
   ·rw[decide_eq_false hf]
    have hB:=hid (hunf.out hok (fun h=>hf ⟨by rw[←hkl];exact h.1,by rw[←hbl];exact h.2⟩))
    clear hunf hfit
    go_wp2_with fail
    go_ret2
    refine⟨Later.refl _,none,0,?_,?_⟩
    ·rw[hB.out.1,hB.out.2];rfl
    ·rw[hB.out.1];exact Qa1 _ _ _
theorem Qr2 {w:World} {A:Option Addr} {xs ys:List UInt8} (h:Parts w (fun _=>False) A 2 [xs,ys]):
 ∃b o A1 c1 A2 c2,A=some ⟨b,o,none⟩∧b<w.heap.size∧(∀ w',Later w w'→w'.cell? ⟨b,o,none⟩=some (.slice A1 xs.length c1)∧w'.cell? ⟨b,o+1,none⟩=some (.slice A2 ys.length c2))∧xs.length≤c1∧RdB w A1 xs.length xs∧RdB w A2 ys.length ys:=by
 obtain⟨b,o,A1,n1,c1,e,hb,hck,hcap,hrd,_⟩:=h.at_ (k:=0) (by omega)
 obtain⟨b',o',A2,n2,c2,e',hb',hck',hcap',hrd',_⟩:=h.at_ (k:=1) (by omega)
 subst e
 cases e'
 have l1:xs.length=n1:=hrd.len
 have l2:ys.length=n2:=hrd'.len
 subst l1 l2
 exact⟨b,o,A1,c1,A2,c2,rfl,hb,fun w' hl=>⟨(hl.below.cell (p:=⟨b,o,none⟩) hb).trans hck,(hl.below.cell (p:=⟨b,o+1,none⟩) hb).trans hck'⟩,hcap,hrd,hrd'⟩
set_option maxRecDepth 100000 in
set_option maxHeartbeats 4000000 in
theorem QwN (A:Option Addr) (n c:Nat) (xs ys:List UInt8) (w:World) (hx:Parts w (fun _=>False) A 2 [xs,ys]) (h1:xs.length=n) (h2:ys.length=n) (hn:n≤1048576):
 Calls Tryz.prog 107 #[.slice A 2 c] w fun e w'=>∃A' c',e= .returned (.tuple #[.slice A' n c',.int .i64 0])∧OwnB w' w.heap.size A' n c' (xorB xs ys)∧Later w w':=by
 obtain⟨b,o,A1,c1,A2,c2,rfl,hb,hcell,hcap,hr1,hr2⟩:=Qr2 hx
 rw[h1]at hcell hr1
 rw[h2]at hcell hr2
 have hcell:=hid hcell
 have hlen:xs.length=ys.length:=by omega
 have hX:=hid (fun k=>Qei hlen k)
 have hG:=hid (fun k (h:k<xs.length)=>Qhl hlen h)
 have hS:=hid (fun k (h:k<xs.length)=>Qf2 hlen h)
 have hA:=hid (Qhr hlen)
 have hN:=hid (Qf8 xs ys)
 have hXl:=Qa2 hlen
 generalize xorB xs ys=XB at *
 clear hx
 go_enter Tryz.func107,Tryz.ntmps107
 go_wp2_with fail
 go_loopw [4,5] (fun v i wr=>∃k:Nat,k≤2∧i= .int .i64 k∧Later w wr∧((k=0∧v= .slice none 0 0)∨(k=1∧∃A' c',v= .slice A' n c'∧OwnB wr w.heap.size A' n c' xs)∨(k=2∧∃A' c',v= .slice A' n c'∧OwnB wr w.heap.size A' n c' XB))) (fun _ i _=>2-(intOf i).toNat)
 case atStart=>exact⟨0,by omega,rfl,Later.refl w,.inl ⟨rfl,rfl⟩⟩
 case round=>
  obtain⟨k,hk,rfl,L,⟨rfl,rfl⟩|⟨rfl,A3,c3,rfl,hown⟩|⟨rfl,A3,c3,rfl,hown⟩⟩:=hrel
  ·have d0:=(hcell.out wr L).1
   go_wp2_with fail
   (refine (QbD A1 n c1 xs _ (hr1.later L) (by omega)).mono ?_);rintro e w3 ⟨A3,c3,rfl,hown3,j3⟩
   go_wp2_with fail
   go_roundw
   case rel=>exact⟨1,by omega,by go_num,L.trans j3,.inr (.inl ⟨rfl,A3,c3,rfl,hown3.mono L.size⟩)⟩
   case measure=>simp[intOf]
  ·have d1:=(hcell.out wr L).2
   by_cases h0:n=0
   ·subst h0
    have e1:XB=[]:=QGc (by omega)
    have e2:xs=[]:=QGc (by omega)
    go_wp2_with fail
    go_loopw [6] (fun i w2=>i= .int .i64 0∧w2=wr) (fun _ _=>0)
    case atStart=>exact⟨rfl,rfl⟩
    case round=>
     obtain⟨rfl,rfl⟩:=hrel
     go_wp2_with fail
     go_roundw
     case rel=>exact⟨2,by omega,by go_num,L,.inr (.inr ⟨rfl,A3,c3,rfl,by rw[e1,←e2];exact hown⟩)⟩
     case measure=>simp[intOf]
   ·obtain⟨g,rest,rfl,hg,hbk,hc3,hcc⟩:=Qhe hown (by omega)
    have hmx:=QpD hown
    replace hc3:=hid hc3
    clear hown
    go_wp2_with fail
    go_loopw [6] (fun i w2=>∃j:Nat,j≤n∧i= .int .i64 j∧Blk w2 g 5 ((QfW xs ys j).map W8++rest)∧Later w w2) (fun i _=>n-(intOf i).toNat)
    case atStart=>exact⟨0,by omega,rfl,by rw[hN.out];exact hbk,L⟩
    case round=>
     clear hbk L d1
     obtain⟨j,hj,rfl,hbk,L⟩:=hrel
     by_cases hlt:j<n
     ·have d1:=(hcell.out wr L).2
      have hxj:=hX.out j (by omega)
      have hGj:=hG.out j (by omega)
      have HSj:=hid (hS.out j (by omega))
      obtain⟨b2,o2,rfl,hb2,hc2⟩:=RdB.at_ (hr2.later L) (by omega)
      have y0:=hc2 j hlt
      have x0:=hbk.cellD j (u:=W8 (xs.getD j 0)) (by rw[QFS (by rw[QFA];omega),QFN,hGj];rfl)
      clear hc2 hGj
      generalize xs.getD j 0=x at *
      generalize ys.getD j 0=y at *
      go_wp2_with fail
      refine Qad [] [0,1,2,3,4,5,6,7,8,9,10,11,12,13,14] [15] (by as_aux_lemma=>kernel_rfl) (by as_aux_lemma=>kernel_rfl) (by intro _ _ d _ _ h;cases d<;>exact h) ?_
      simp only[Qah,pick,QFv,QFw,QFx,QFy,QFz]
      repeat (go_big_quiet_step (fail))
      refine wpQuiet_nil ?_
      have hbk':=hbk.drew
      go_wp2_with (first
       | (refine Qac rfl rfl _ _ _ rfl g j _ _ hbk' rfl (by simp only[QFF,QFA];omega) rfl Qb0 ?_;intro v' w5 hv' hb5 ho5;simp[go_sem]at hv';subst hv')
       | fail)
      rw[QG5 _ _ (by rw[QFA];omega),QbC,HSj.out]at hb5
      go_roundw
      case rel=>exact⟨j+1,by omega,by go_num,hb5,(L.trans (Qab _)).only ho5 hg⟩
      case measure=>simp[intOf];omega
     ·obtain rfl:n=j:=by omega
      rw[←h1,hA.out]at hbk
      have hcw:c3=(XB.map W8++rest).length:=by
       rw[hc3.out,QFF,QFF,QFA,QFA]
       omega
      have hown:=Qvs hbk hg (by rw[←hcw];exact hmx)
      rw[←hcw,QFA,hXl,h2]at hown
      go_wp2_with fail
      go_roundw
      case rel=>exact⟨2,by omega,by go_num,L,.inr (.inr ⟨rfl,_,c3,rfl,hown⟩)⟩
      case measure=>simp[intOf]
  ·go_wp2_with fail
   go_ret2
   exact⟨_,_,rfl,hown,L⟩
theorem Qxk (K:List UInt8) (r:Nat) (bs:List UInt8) (hr: ¬(r=2∨r=4)) (h:32≤bs.length) (hK:K.length=32):QdE K r bs=bs.take 32++xorB (bs.drop 32) (chaS (xorB (bs.take 32) K) (bs.length-32)):=by
 rw[QdE,if_neg hr]
 congr 3
 have hl:K.length=(bs.take 32).length:=by rw[QFY];omega
 apply List.ext_getElem?
 intro j
 rw[xorB,xorB,List.getElem?_zipWith,List.getElem?_zipWith]
 by_cases hj:j<K.length
 ·rw[QFB hj,QFB (show j<(bs.take 32).length by omega)]
  exact congrArg some (UInt8.xor_comm _ _)
 ·rw[QGm (show K.length≤j by omega),QGm (show (bs.take 32).length≤j by omega)]
theorem Qw5 (K:List UInt8) (r:Nat) (bs:List UInt8) (hr:r=2∨r=4):QdE K r bs=xorB (bs.take 32) (Qbm K (bs.drop 32))++bs.drop 32:=by rw[QdE,if_pos hr]
theorem Qug (A B:Option Addr) (n c m d:Nat) (w:World):
 Calls Tryz.prog 106 #[.slice A n c,.slice B m d] w fun e w'=>e= .returned (.bool (decide (n=32∧32≤m∧m≤4096)))∧w'=w:=by
 by_cases h0:n=32
 ·subst h0
  by_cases h1:32≤m
  ·have e1:(32:Int)≤(m:Int):=by omega
   by_cases h2:m≤4096
   ·have e2:(m:Int)≤4096:=by omega
    rw[decide_eq_true (show 32=32∧32≤m∧m≤4096 from ⟨rfl,h1,h2⟩)]
    go_enter Tryz.func106,Tryz.ntmps106
    go_wp2
    go_ret
    exact⟨rfl,rfl⟩
   ·have e2: ¬(m:Int)≤4096:=by omega
    rw[decide_eq_false (show ¬(32=32∧32≤m∧m≤4096) from fun h=>h2 h.2.2)]
    go_enter Tryz.func106,Tryz.ntmps106
    go_wp2
    go_ret
    exact⟨rfl,rfl⟩
  ·have e1: ¬(32:Int)≤(m:Int):=by omega
   rw[decide_eq_false (show ¬(32=32∧32≤m∧m≤4096) from fun h=>h1 h.2.1)]
   go_enter Tryz.func106,Tryz.ntmps106
   go_wp2
   go_ret
   exact⟨rfl,rfl⟩
 ·have e1:((n:Int)==32)=false:=by simp;omega
  rw[decide_eq_false (show ¬(n=32∧32≤m∧m≤4096) from fun h=>h0 h.1)]
  go_enter Tryz.func106,Tryz.ntmps106
  go_wp2
  go_ret
  exact⟨by simp,rfl⟩
set_option maxRecDepth 100000 in
set_option maxHeartbeats 8000000 in
theorem Qr0 (A B C:Option Addr) (n c m d k e0:Nat) (key bs:List UInt8) (rs:List Int) (w:World) (hk:RdB w A n key) (hb:RdB w B m bs) (hd:m≤d) (hr:Rd w C k (rs.map intV)) (hn:n≤2097152) (hm:m≤2097152) (hk2:k≤2097152):
 Calls Tryz.prog 86 #[.slice A n c,.slice B m d,.slice C k e0] w fun e w'=>Later w w'∧∃A' c',e= .returned (.tuple #[.slice A' (QcK key bs rs).length c',.int .i64 (Qfb key bs rs:Nat)])∧OwnB w' w.heap.size A' (QcK key bs rs).length c' (QcK key bs rs):=by
 have hkl:=hk.len
 have hbl:=hb.len
 have hrl:rs.length=k:=by have:=hr.1;rwa [QFA]at this
 have hbad:=hid (fun h=>And.intro (@QmW key bs rs h) (@QmL key bs rs h))
 have hunf:=hid (fun h h2=>And.intro (@QiI key bs rs h h2) (@Qi7 key bs rs h h2))
 have hfit:=hid (fun h h2=>And.intro (@Qe5 key bs rs h h2) (@QfP key bs rs h h2))
 have hat:=hid (fun j (hj:j<k)=>Qyy hr hj)
 have hff:=hid (Qug A B n c m d)
 generalize QcK key bs rs=WB at *
 generalize Qfb key bs rs=WE at *
 go_enter Tryz.func86,Tryz.ntmps86
 go_wp2_with fail
 go_loopw [8] (fun i wr=>∃j:Nat,j≤k∧i= .int .i64 j∧wr=w∧Hid (∀ t,t<j→1≤rs.getD t 0∧rs.getD t 0≤4)) (fun i _=>k-(intOf i).toNat)
 case atStart=>exact⟨0,by omega,rfl,rfl,hid (fun t h=>by omega)⟩
 case round=>
  obtain⟨j,hj,rfl,rfl,hall⟩:=hrel
  by_cases hlt:j<k
  ·obtain⟨b,o,rfl,hbb,hcell⟩:=hat.out j hlt
   have c1:=hcell wr (Later.refl _)
   clear hcell
   have hmem:rs.getD j 0∈rs:=by rw[QFC,QFB (show j<rs.length by omega)];exact QGy _
   have hbd: ¬(1≤rs.getD j 0∧rs.getD j 0≤4)→Hid (WB=[]∧WE=1):=fun h=>hid (hbad.out (fun hok=>h (hok _ hmem)))
   have hst:1≤rs.getD j 0→rs.getD j 0≤4→Hid (∀ t,t<j+1→1≤rs.getD t 0∧rs.getD t 0≤4):=fun h1 h2=>hid (fun t ht=>by
    by_cases e:t=j
    ·subst e;exact⟨h1,h2⟩
    ·exact hall.out t (by omega))
   clear hmem
   generalize rs.getD j 0=r at *
   by_cases h1:r<1
   ·have hB:=hbd (by omega)
    clear hbd hst
    go_wp2_with fail
    go_ret2
    refine⟨Later.refl _,none,0,?_,?_⟩
    ·rw[hB.out.1,hB.out.2];rfl
    ·rw[hB.out.1];exact Qa1 _ _ _
   ·by_cases h2:4<r
    ·have hB:=hbd (by omega)
     clear hbd hst
     go_wp2_with fail
     go_ret2
     refine⟨Later.refl _,none,0,?_,?_⟩
     ·rw[hB.out.1,hB.out.2];rfl
     ·rw[hB.out.1];exact Qa1 _ _ _
    ·have hS:=hst (by omega) (by omega)
     clear hbd hst
     go_wp2_with fail
     go_roundw
     case rel=>exact⟨j+1,by omega,by go_num,trivial,hS⟩
     case measure=>simp[intOf];omega
  ·obtain rfl:k=j:=by omega
   have hok:okR rs:=fun r hr'=>by
    obtain⟨t,ht⟩:=List.getElem?_of_mem hr'
    have htl:=(QFU.1 ht).1
    have:=hall.out t (by omega)
    rwa [QFC,ht]at this
   clear hbad
   go_wp2_with fail
   (with_reducible refine (hff.out _).mono ?_);rintro e w1 ⟨rfl,rfl⟩
   by_cases hf:n=32∧32≤m∧m≤4096
   ·rw[decide_eq_true hf]
    have hF:=hid (hfit.out hok ⟨by rw[hkl];exact hf.1,by rw[hbl];exact hf.2⟩)
    obtain⟨rfl,hm32,hm4⟩:=hf
    clear hunf hfit
    have hDe:=hid (fun s w h hs=>Qdb A 32 c key s w h (by omega) hs)
    have hFt:=hid (fun j h=>QkZ key rs bs j h)
    have hFl:=hid (fun rs=>QcR key rs bs (by omega))
    have hDl:=hid (fun r=>Qaz key (labW r))
    have hXo:=hid (fun A n c xs ys w h h1 h2 hn=>QwN A n c xs ys w h h1 h2 hn)
    have hF0:=hid (show QdW key (rs.take 0) bs=bs from rfl)
    have hcl:∀W,(Instr.sliceAt 25 (.slice B m d) none (some (.int .i64 32)) none).run Tryz.prog W= .ok (.slice B 32 d) W:=fun W=>QlG B m d .i64 32 (by omega) W
    have hcr:∀W,(Instr.sliceAt 25 (.slice B m d) (some (.int .i64 32)) none none).run Tryz.prog W= .ok (.slice (cutA B 32 d) (m-32) (d-32)) W:=fun W=>QgY B m d .i64 32 hm32 W
    go_wp2_with fail
    have J1:=Qaa w1 (.cells #[.string lab1,.string lab2,.string lab3,.string lab4] 223)
    have hlb:=Blk.new w1 223 [.string lab1,.string lab2,.string lab3,.string lab4]
    (refine (QbD B 32 d (bs.take 32) _ ((hb.later J1).take hm32) (by omega)).mono ?_);rintro e w2 ⟨A2,c2,rfl,ho2,j2⟩
    go_wp2_with fail
    have J2:=J1.trans j2
    (refine (QbD _ (m-32) _ (bs.drop 32) _ ((hb.later J2).cut (c:=d) hm32 hd) (by omega)).mono ?_);rintro e w3 ⟨A3,c3,rfl,ho3,j3⟩
    have L3:=J2.trans j3
    have ho2':=(ho2.later j3).mono J1.size
    have ho3':=ho3.mono J2.size
    have hlb3:=hlb.later (j2.trans j3)
    clear J1 hlb j2 J2 j3 ho2 ho3
    go_wp2_with fail
    go_loopw [10,11,12] (fun v u i wr=>∃(j:Nat) (A1 A2:Option Addr) (c1 c2:Nat),j≤k∧i= .int .i64 j∧v= .slice A1 32 c1∧u= .slice A2 (m-32) c2∧OwnB wr w1.heap.size A1 32 c1 ((QdW key (rs.take j) bs).take 32)∧OwnB wr w1.heap.size A2 (m-32) c2 ((QdW key (rs.take j) bs).drop 32)∧Later w1 wr∧Blk wr w1.heap.size 223 [.string lab1,.string lab2,.string lab3,.string lab4]) (fun _ _ i _=>k-(intOf i).toNat)
    case atStart=>exact⟨0,A2,A3,c2,c3,by omega,rfl,rfl,rfl,by rw[hF0.out];exact ho2',by rw[hF0.out];exact ho3',L3,hlb3⟩
    case round=>
     clear ho2' ho3' L3 hlb3
     obtain⟨j,A1,A2,c1,c2,hj,rfl,rfl,rfl,ho1,ho2,L,hlb⟩:=hrel
     by_cases hlt:j<k
     ·obtain⟨b,o,rfl,hbb,hcell⟩:=hat.out j hlt
      have d1:=hcell wr L
      have HC:=hid hcell
      have hrr:=hall.out j hlt
      have HF:=hid (hFt.out j (by omega))
      have hFm:=hFl.out (rs.take j)
      have hDlr:=hDl.out (rs.getD j 0)
      clear hcell
      generalize rs.getD j 0=r at *
      generalize QdW key (rs.take j) bs=F at *
      rw[hbl]at hFm
      have hFt32:(F.take 32).length=32:=by rw[QFY];omega
      have hFd32:(F.drop 32).length=m-32:=by rw[QF0];omega
      have s0:=hlb.cellD 0 rfl
      have s1:=hlb.cellD 1 rfl
      have s2:=hlb.cellD 2 rfl
      have s3:=hlb.cellD 3 rfl
      have hr4:r=1∨r=2∨r=3∨r=4:=by omega
      clear hrr
      rcases hr4 with rfl|rfl|rfl|rfl
      ·have hDr:=hDe.out lab1 wr (hk.later L) (by decide)
       rw[show derB key lab1=derB key (labW 1) from rfl]at hDr
       generalize derB key (labW 1)=Kr at *
       go_wp2_with fail
       (refine hDr.mono ?_);rintro e w4 ⟨rfl,j4⟩
       go_wp2_with (first
        | (refine QdB 32 rfl rfl _ _ rfl (Blk.new w4 _ (QFu 32 (.int .u8 0))) rfl rfl QfF hDlr rfl ?_;intro w5 hk5 ho5)
        | (refine QaE rfl _ _ _ rfl 5 _ 1 Tryz.underlying25 Qbq rfl _ _ _ _ 0 rfl rfl rfl rfl (by omega) (by omega) ?_;intro w6 hb6 hl6
           have J6:=((j4.trans (Qaa w4 _)).only ho5 j4.size).trans hl6
           have d2:=HC.out _ (L.trans J6))
        | fail)
       have hk6:=hk5.later hl6
       generalize w4.heap.size=g13 at *
       (refine (hXo.out _ 32 _ (F.take 32) Kr _ (Qdh (Blk.new w6 25 [.slice A1 32 c1,.slice (some ⟨g13,0,none⟩) 32 32]) (QbQ (ho1.later (J6.trans (Qaa w6 _))).rd ho1.cap) (QbQ (QdP (hk6.later (Qaa w6 _)) hDlr) (QFE _))) hFt32 hDlr (by omega)).mono ?_);rintro e w7 ⟨A7,c7,rfl,ho7,j7⟩
       go_wp2_with fail
       have J7:=(J6.trans (Qaa w6 (.cells #[.slice A1 32 c1,.slice (some ⟨g13,0,none⟩) 32 32] 25))).trans j7
       (refine (QhO A7 c7 (m-32) _ _ ho7.rd (by omega)).mono ?_);rintro e w8 ⟨A8,c8,rfl,ho8,j8⟩
       go_wp2_with fail
       have J8:=(J7.trans j8).trans (Qaa w8 (.cells #[.slice A2 (m-32) c2,.slice A8 (m-32) c8] 25))
       have hST:=QaA (xorB (F.take 32) Kr) (m-32)
       (refine (hXo.out _ (m-32) _ (F.drop 32) _ _ (Qdh (Blk.new w8 25 [.slice A2 (m-32) c2,.slice A8 (m-32) c8]) (QbQ (ho2.later J8).rd ho2.cap) (QbQ (ho8.later (Qaa w8 _)).rd ho8.cap)) hFd32 hST (by omega)).mono ?_);rintro e w9 ⟨A9,c9,rfl,ho9,j9⟩
       go_wp2_with fail
       go_roundw
       case rel=>exact⟨j+1,A1,A9,c1,c9,by omega,by go_num,rfl,rfl,by rw[HF.out,Qxk _ _ _ (by decide) (by omega) hDlr,QGv hFt32];exact ho1.later (J8.trans j9),by rw[HF.out,Qxk _ _ _ (by decide) (by omega) hDlr,QGe hFt32,hFm];exact ho9.mono (L.trans J8).size,(L.trans J8).trans j9,hlb.later (J8.trans j9)⟩
       case measure=>simp[intOf];omega
      ·have hDr:=hDe.out lab2 wr (hk.later L) (by decide)
       rw[show derB key lab2=derB key (labW 2) from rfl]at hDr
       generalize derB key (labW 2)=Kr at *
       go_wp2_with fail
       (refine hDr.mono ?_);rintro e w4 ⟨rfl,j4⟩
       go_wp2_with (first
        | (refine QdB 32 rfl rfl _ _ rfl (Blk.new w4 _ (QFu 32 (.int .u8 0))) rfl rfl QfF hDlr rfl ?_;intro w5 hk5 ho5)
        | (refine QaE rfl _ _ _ rfl 5 _ 1 Tryz.underlying25 Qbq rfl _ _ _ _ 0 rfl rfl rfl rfl (by omega) (by omega) ?_;intro w6 hb6 hl6
           have J6:=((j4.trans (Qaa w4 _)).only ho5 j4.size).trans hl6
           have d2:=HC.out _ (L.trans J6))
        | fail)
       have hk6:=hk5.later hl6
       generalize w4.heap.size=g13 at *
       (refine (QeU (some ⟨g13,0,none⟩) A2 32 32 (m-32) c2 Kr (F.drop 32) _ (QdP hk6 hDlr) (by omega) (ho2.later J6).rd (by omega)).mono ?_);rintro e w7 ⟨rfl,j7⟩
       have hG:=QaG Kr (F.drop 32)
       go_wp2_with (first
        | (refine QdB 32 rfl rfl _ _ rfl (Blk.new w7 _ (QFu 32 (.int .u8 0))) rfl rfl QfF hG rfl ?_;intro w8 hb8 ho8)
        | fail)
       have J7:=J6.trans ((j7.trans (Qaa w7 _)).only ho8 j7.size)
       generalize w7.heap.size=g17 at *
       have J8:=J7.trans (Qaa w8 (.cells #[.slice A1 32 c1,.slice (some ⟨g17,0,none⟩) 32 32] 25))
       (refine (hXo.out _ 32 _ (F.take 32) _ _ (Qdh (Blk.new w8 25 [.slice A1 32 c1,.slice (some ⟨g17,0,none⟩) 32 32]) (QbQ (ho1.later J8).rd ho1.cap) (QbQ (QdP (hb8.later (Qaa w8 _)) hG) (QFE _))) hFt32 hG (by omega)).mono ?_);rintro e w9 ⟨A9,c9,rfl,ho9,j9⟩
       have hl9:=ho9.len
       go_wp2_with fail
       go_roundw
       case rel=>exact⟨j+1,A9,A2,c9,c2,by omega,by go_num,rfl,rfl,by rw[HF.out,Qw5 _ _ _ (by decide),QGv hl9];exact ho9.mono (L.trans J8).size,by rw[HF.out,Qw5 _ _ _ (by decide),QGe hl9];exact ho2.later (J8.trans j9),(L.trans J8).trans j9,hlb.later (J8.trans j9)⟩
       case measure=>simp[intOf];omega
      ·have hDr:=hDe.out lab3 wr (hk.later L) (by decide)
       rw[show derB key lab3=derB key (labW 3) from rfl]at hDr
       generalize derB key (labW 3)=Kr at *
       go_wp2_with fail
       (refine hDr.mono ?_);rintro e w4 ⟨rfl,j4⟩
       go_wp2_with (first
        | (refine QdB 32 rfl rfl _ _ rfl (Blk.new w4 _ (QFu 32 (.int .u8 0))) rfl rfl QfF hDlr rfl ?_;intro w5 hk5 ho5)
        | (refine QaE rfl _ _ _ rfl 5 _ 1 Tryz.underlying25 Qbq rfl _ _ _ _ 0 rfl rfl rfl rfl (by omega) (by omega) ?_;intro w6 hb6 hl6
           have J6:=((j4.trans (Qaa w4 _)).only ho5 j4.size).trans hl6
           have d2:=HC.out _ (L.trans J6))
        | fail)
       have hk6:=hk5.later hl6
       generalize w4.heap.size=g13 at *
       (refine (hXo.out _ 32 _ (F.take 32) Kr _ (Qdh (Blk.new w6 25 [.slice A1 32 c1,.slice (some ⟨g13,0,none⟩) 32 32]) (QbQ (ho1.later (J6.trans (Qaa w6 _))).rd ho1.cap) (QbQ (QdP (hk6.later (Qaa w6 _)) hDlr) (QFE _))) hFt32 hDlr (by omega)).mono ?_);rintro e w7 ⟨A7,c7,rfl,ho7,j7⟩
       go_wp2_with fail
       have J7:=(J6.trans (Qaa w6 (.cells #[.slice A1 32 c1,.slice (some ⟨g13,0,none⟩) 32 32] 25))).trans j7
       (refine (QhO A7 c7 (m-32) _ _ ho7.rd (by omega)).mono ?_);rintro e w8 ⟨A8,c8,rfl,ho8,j8⟩
       go_wp2_with fail
       have J8:=(J7.trans j8).trans (Qaa w8 (.cells #[.slice A2 (m-32) c2,.slice A8 (m-32) c8] 25))
       have hST:=QaA (xorB (F.take 32) Kr) (m-32)
       (refine (hXo.out _ (m-32) _ (F.drop 32) _ _ (Qdh (Blk.new w8 25 [.slice A2 (m-32) c2,.slice A8 (m-32) c8]) (QbQ (ho2.later J8).rd ho2.cap) (QbQ (ho8.later (Qaa w8 _)).rd ho8.cap)) hFd32 hST (by omega)).mono ?_);rintro e w9 ⟨A9,c9,rfl,ho9,j9⟩
       go_wp2_with fail
       go_roundw
       case rel=>exact⟨j+1,A1,A9,c1,c9,by omega,by go_num,rfl,rfl,by rw[HF.out,Qxk _ _ _ (by decide) (by omega) hDlr,QGv hFt32];exact ho1.later (J8.trans j9),by rw[HF.out,Qxk _ _ _ (by decide) (by omega) hDlr,QGe hFt32,hFm];exact ho9.mono (L.trans J8).size,(L.trans J8).trans j9,hlb.later (J8.trans j9)⟩
       case measure=>simp[intOf];omega
      ·have hDr:=hDe.out lab4 wr (hk.later L) (by decide)
       rw[show derB key lab4=derB key (labW 4) from rfl]at hDr
       generalize derB key (labW 4)=Kr at *
       go_wp2_with fail
       (refine hDr.mono ?_);rintro e w4 ⟨rfl,j4⟩
       go_wp2_with (first
        | (refine QdB 32 rfl rfl _ _ rfl (Blk.new w4 _ (QFu 32 (.int .u8 0))) rfl rfl QfF hDlr rfl ?_;intro w5 hk5 ho5)
        | (refine QaE rfl _ _ _ rfl 5 _ 1 Tryz.underlying25 Qbq rfl _ _ _ _ 0 rfl rfl rfl rfl (by omega) (by omega) ?_;intro w6 hb6 hl6
           have J6:=((j4.trans (Qaa w4 _)).only ho5 j4.size).trans hl6
           have d2:=HC.out _ (L.trans J6))
        | fail)
       have hk6:=hk5.later hl6
       generalize w4.heap.size=g13 at *
       (refine (QeU (some ⟨g13,0,none⟩) A2 32 32 (m-32) c2 Kr (F.drop 32) _ (QdP hk6 hDlr) (by omega) (ho2.later J6).rd (by omega)).mono ?_);rintro e w7 ⟨rfl,j7⟩
       have hG:=QaG Kr (F.drop 32)
       go_wp2_with (first
        | (refine QdB 32 rfl rfl _ _ rfl (Blk.new w7 _ (QFu 32 (.int .u8 0))) rfl rfl QfF hG rfl ?_;intro w8 hb8 ho8)
        | fail)
       have J7:=J6.trans ((j7.trans (Qaa w7 _)).only ho8 j7.size)
       generalize w7.heap.size=g17 at *
       have J8:=J7.trans (Qaa w8 (.cells #[.slice A1 32 c1,.slice (some ⟨g17,0,none⟩) 32 32] 25))
       (refine (hXo.out _ 32 _ (F.take 32) _ _ (Qdh (Blk.new w8 25 [.slice A1 32 c1,.slice (some ⟨g17,0,none⟩) 32 32]) (QbQ (ho1.later J8).rd ho1.cap) (QbQ (QdP (hb8.later (Qaa w8 _)) hG) (QFE _))) hFt32 hG (by omega)).mono ?_);rintro e w9 ⟨A9,c9,rfl,ho9,j9⟩
       have hl9:=ho9.len
       go_wp2_with fail
       go_roundw
       case rel=>exact⟨j+1,A9,A2,c9,c2,by omega,by go_num,rfl,rfl,by rw[HF.out,Qw5 _ _ _ (by decide),QGv hl9];exact ho9.mono (L.trans J8).size,by rw[HF.out,Qw5 _ _ _ (by decide),QGe hl9];exact ho2.later (J8.trans j9),(L.trans J8).trans j9,hlb.later (J8.trans j9)⟩
       case measure=>simp[intOf];omega
     ·obtain rfl:k=j:=by omega
      have eT:rs.take k=rs:=QFJ (by omega)
      rw[eT]at ho1 ho2
      clear eT
      have hFl':=hFl.out rs
      rw[←hF.out.1]at ho1 ho2 hFl'
      rw[hbl]at hFl'
      have hWE:=hF.out.2
      have e32:32+(m-32)=m:=by omega
      go_wp2_with (first
       | (refine Qal rfl _ _ _ rfl 5 _ 1 Tryz.underlying25 Qbq rfl w1 _ 32 _ ho1 L A2 (m-32) c2 _ ho2.rd (Qay _) rfl rfl (by omega) (by omega) ?_;intro A7 c7 w7 hown7 hl7 hg7 _)
       | fail)
      have hown8:=QeD hown7
      rw[QF8,e32]at hown8
      go_ret2
      exact⟨hl7,A7,c7,by rw[hFl',hWE];(first|rw[e32];rfl|rfl),by rw[hFl'];exact hown8⟩
   ·rw[decide_eq_false hf]
    have hB:=hid (hunf.out hok (fun h=>hf ⟨by rw[←hkl];exact h.1,by rw[←hbl];exact h.2⟩))
    clear hunf hfit
    go_wp2_with fail
    go_ret2
    refine⟨Later.refl _,none,0,?_,?_⟩
    ·rw[hB.out.1,hB.out.2];rfl
    ·rw[hB.out.1];exact Qa1 _ _ _
def rsS:List Int:=[1,2,3,4]
def rsO:List Int:=[4,3,2,1]
theorem okS:okR rsS:=by decide
theorem okO:okR rsO:=by decide
theorem Qrd {key bs:List UInt8} {rs:List Int} (h:Qfb key bs rs=0):okR rs∧fitW key bs:=by
 unfold Qfb at h
 split at h
 ·split at h
  ·exact⟨by assumption,by assumption⟩
  ·cases h
 ·cases h
theorem QnT {key bs:List UInt8} {rs:List Int} (h:Qfb key bs rs=0):(QcK key bs rs).length=bs.length∧Qfb key (QcK key bs rs) rs.reverse=0∧QcK key (QcK key bs rs) rs.reverse=bs:=by
 obtain⟨hok,hf⟩:=Qrd h
 have hl:=QcR key rs bs hf.2.1
 have hok':okR rs.reverse:=fun r hr=>hok r (List.mem_reverse.1 hr)
 have hf':fitW key (QdW key rs bs):=⟨hf.1,by rw[hl];exact hf.2.1,by rw[hl];exact hf.2.2⟩
 rw[Qe5 hok hf]
 exact⟨hl,QfP hok' hf',by rw[Qe5 hok' hf',Qkk key rs bs hf.2.1]⟩
set_option maxHeartbeats 1000000 in
theorem QsF (A B:Option Addr) (n c m d:Nat) (key bs:List UInt8) (w:World) (hk:RdB w A n key) (hc:n≤c) (hb:RdB w B m bs) (hd:m≤d) (hn:n≤2097152) (hm:m≤2097152):
 Calls Tryz.prog 90 #[.slice A n c,.slice B m d] w fun e w'=>Later w w'∧∃A' c',e= .returned (.tuple #[.slice A' (QcK key bs rsO).length c',.int .i64 (Qfb key bs rsO:Nat)])∧OwnB w' w.heap.size A' (QcK key bs rsO).length c' (QcK key bs rsO):=by
 have h:=hid (fun C e0 w hk hb hr=>Qpm A B C n c m d 4 e0 key bs rsO w hk hc hb hd hr hn hm (by omega))
 generalize QcK key bs rsO=X at *
 generalize Qfb key bs rsO=E at *
 go_enter Tryz.func90,Tryz.ntmps90
 go_wp2_with fail
 have J:=Qaa w (.cells #[.int .i64 4,.int .i64 3,.int .i64 2,.int .i64 1] 3)
 (refine (h.out _ _ _ (hk.later J) (hb.later J) ((Blk.new w 3 [.int .i64 4,.int .i64 3,.int .i64 2,.int .i64 1]).rd rfl)).mono ?_);rintro e w1 ⟨j1,A1,c1,rfl,ho1⟩
 go_wp2_with fail
 go_ret2
 exact⟨J.trans j1,A1,c1,rfl,ho1.mono J.size⟩
end Go.Proofs.YtcbdgnlcknllnaaGreat
