/-
  Lemmas for the last text of this claim (part 12 of 20).
-/
import Derived.ArgAppend
import Derived.BigQuiet
import Derived.BigRegion
import Derived.ChangeOld
import Derived.Deep.RegionWith
import Derived.DeepKeys4
import Derived.JoinedCond
import Derived.LaidMore
import Derived.Laws.CopyOwn
import Derived.Laws.Externs
import Derived.Laws.IdiomStrings
import Derived.Laws.Tables
import Derived.Lib.AppendStr
import Derived.Lib.AppendZerosOnto
import Derived.Lib.Mul64
import Derived.Lib.SlBytesConst
import Derived.LoopN
import Derived.Maps.OwnSet
import Derived.OpenShut
import Derived.OrdersHeld
import Derived.ProofKit
import Derived.Shelf.Spec.BitsCarry
import Derived.ShutString
import Derived.Test.YtdkpcdgckgaklaaGreatProg
import Derived.Test.YtdkpcdgckgaklaaGreatRows
import Derived.WalkKit
import Derived.WalkLawsBesides
import Derived.WalkSpells
import Derived.Test.YtdkpcdgckgaklaaGreatPD
import Derived.Test.YtdkpcdgckgaklaaGreatPG
import Derived.Test.YtdkpcdgckgaklaaGreatPI
import Derived.Test.YtdkpcdgckgaklaaGreatPJ
import Derived.Test.YtdkpcdgckgaklaaGreatPK
open BitVec renaming toNat_ushiftRight → QDs, toNat_shiftLeft → QDT
open List renaming replicate → QCn, getElem?_cons_succ → QCo, getElem?_cons_zero → QCp, cons_append → QCr, nil_append → QCs, length_map → QCt, getD_eq_getElem?_getD → QCu, getElem?_eq_getElem → QCv, setIfInBounds_toArray → QCw, set_cons_zero → QCy, set_cons_succ → QCz, map_toArray → QCA, length_append → QCB, map_nil → QCC, getElem?_append_left → QCD, take_of_length_le → QCE, getElem?_append_right → QCF, getElem?_map → QCH, length_replicate → QCJ, append_assoc → QCL, length_take → QCP, mem_cons → QCQ, map_cons → QCR, length_drop → QCS, not_mem_nil → QCT, set_append_right → QCX, take_succ_eq_append_getElem → QCY, append_nil → QC1, take_append_drop → QC3, range → QC5, map_append → QC6, mem_map → QC7, map_replicate → QC8, mem_append → QDc, length_cons → QDj, take_append_of_le_length → QDk, drop_eq_getElem_cons → QDp, drop_append_of_le_length → QDu, replicate_append_replicate → QDz, map_take → QDB, set_append_left → QDD, mem_singleton → QDH, getElem?_drop → QDU, drop_drop → QD8, replicate_succ → QEj, range_succ → QEp
open Nat renaming le_refl → QCx, zero_add → QCI, lt_of_lt_of_le → QCM, mod_eq_of_lt → QCO, mod_lt → QCU, le_trans → QC4, div_eq_of_lt → QDd, div_div_eq_div_mul → QDe, pow_le_pow_right → QDh, shiftRight_eq_div_pow → QDo, pow_succ → QDv, min_eq_left → QDG, mul_comm → QDK, add_zero → QDP, mul_assoc → QDV, shiftLeft_eq → QD1, pow_mul → QD5, mul_le_mul_left → QEa, add_comm → QEz, sub_self → QEB
open Option renaming toList_some → QCq, getD_some → QEr
open UInt32 renaming ofNat → QCW, toNat_ofNat' → QDX, toNat_inj → QEs
open UInt64 renaming ofNat → QCN, toNat_ofNat' → QCV, toNat_inj → QD2, toNat_toUInt8 → QEv
open UInt8 renaming toNat_inj → QDl
set_option linter.all false
namespace Go.Proofs.YtdkpcdgckgaklaaGreat
open Go.RowKit
open Go.BigFrame
theorem Qz4 (x:UInt8):x.toUInt32.toNat=x.toNat:=by simp
theorem shlW (x:UInt8) (n:Nat) (h:n≤24):(QeY x.toUInt32 n).toNat=2^n*x.toNat:=by
 have hx:=x.toNat_lt
 show (x.toUInt32.toBitVec <<< n).toNat=_
 rw[QDT,QD1,QCO]
 ·rw[QDK]
  congr 1
 ·have e:x.toUInt32.toBitVec.toNat=x.toNat:=Qz4 x
  rw[e]
  have:2^n≤2^24:=QDh (by omega) h
  calc x.toNat*2^n≤x.toNat*2^24:=QEa _ this
   _<2^32:=by omega
theorem orW (a b:Nat) (i:Nat) (h:b<2^i):b ||| 2^i*a=b+2^i*a:=by
 rw[Nat.or_comm,←Nat.two_pow_add_eq_or_of_lt h,QEz]
theorem Qxt (bs:List UInt8) (k:Nat) (h:4*k+4≤bs.length):(leW bs k).toNat=quad bs k 4:=by
 rw[Qfo bs k 3 (by omega),Qfo bs k 2 (by omega),Qfo bs k 1 (by omega),Qfo bs k 0 (by omega),show quad bs k 0=0 from by rw[quad];rfl]
 unfold leW Qb1
 rw[QDP]
 generalize bs.getD (4*k) 0=x0
 generalize bs.getD (4*k+1) 0=x1
 generalize bs.getD (4*k+2) 0=x2
 generalize bs.getD (4*k+3) 0=x3
 have b0:=x0.toNat_lt
 have b1:=x1.toNat_lt
 have b2:=x2.toNat_lt
 have b3:=x3.toNat_lt
 rw[UInt32.toNat_or,UInt32.toNat_or,UInt32.toNat_or,Qz4,shlW _ _ (by omega),shlW _ _ (by omega),shlW _ _ (by omega),orW _ _ 8 (by omega),orW _ _ 16 (by omega),orW _ _ 24 (by omega)]
 omega
theorem Qw0 (bs:List UInt8) (k:Nat) (h:4*k+4≤bs.length):n32 (quad bs k 4)=W32 (leW bs k):=by
 rw[←Qxt bs k h,n32]
 congr 1
 simp
set_option maxHeartbeats 400000 in
theorem QuZ (x:UInt32) (n:Nat) (h0:n≤32) (w:World):
 Calls Tryz.prog 156 #[W32 x,.int .i64 n] w fun e w'=>e= .returned (W32 (rotl x n))∧Later w w':=by
 go_enter Tryz.func156,Tryz.ntmps156
 go_wp2
 refine Qad [] [0,1,2,3,4,5,6,7,8] [] (by as_aux_lemma=>kernel_rfl) (by as_aux_lemma=>kernel_rfl) (by intro _ _ d _ _ h;cases d<;>exact h) ?_
 simp only[Qai,pick,QCo,QCp,QCq,QCr,QCs]
 repeat (go_big_quiet_step (fail))
 refine wpQuiet_nil ?_
 go_wp2
 go_ret
 exact QoR rfl _ (Qab _)
theorem Qx3 (x:UInt32) (n:Nat) (i:Int) (hi:i=(n:Int)) (h0:n≤32) (w:World):
 Calls Tryz.prog 156 #[W32 x,.int .i64 i] w fun e w'=>e= .returned (W32 (rotl x n))∧Later w w':=by
 subst hi
 exact QuZ x n h0 w
theorem Qrp:(Tryz.prog.info? 96).map (fun i=>(i.zero,i.size,i.bytes))=some (some (.int .u32 0),1,4):=by kernel_rfl
def QeX (bs:List UInt8) (k:Nat):List UInt32:=(QC5 k).map (leW bs)
set_option maxHeartbeats 2000000 in
set_option maxRecDepth 100000 in
theorem Qq6 (A:Option Addr) (n c K:Nat) (bs:List UInt8) (w:World) (hr:RdB w A n bs) (hn:n=4*K) (hK:K≤1048576):
 Calls Tryz.prog 142 #[.slice A n c] w fun e w'=>∃A' c',e= .returned (.slice A' K c')∧w'.ownsRow w.heap.size 96 1 (.slice A' K c') K ((QeX bs K).map W32)∧Later w w':=by
 have hbl:=hr.len
 have hnb:n≤140737488355328:=by omega
 replace hn:=hid hn
 have hg:=hid (fun k (w':World) (hl:Later w w') hk=>QqM A n c bs k w' (hr.later hl) hk hnb)
 have hq:=hid (fun k hk=>Qw0 bs k hk)
 have hs:=hid (fun k=>show (QeX bs (k+1)).map W32=(QeX bs k).map W32++[W32 (leW bs k)] by simp[QeX,QEp])
 go_enter Tryz.func142,Tryz.ntmps142
 go_wp2_with fail
 go_loopw [3,4] (fun v i wr=>∃(k:Nat) (A':Option Addr) (c':Nat),k≤K∧i= .int .i64 (4*(k:Int))∧v= .slice A' k c'∧wr.ownsRow w.heap.size 96 1 (.slice A' k c') k ((QeX bs k).map W32)∧Later w wr) (fun _ i _=>4*K-(intOf i).toNat)
 case atStart=>exact⟨0,none,0,by omega,rfl,rfl,World.ownsRow_nil w _ _ 1,Later.refl w⟩
 case round=>
  obtain⟨k,A1,c1,hk,rfl,rfl,hown,L⟩:=hrel
  by_cases hlt:k<K
  ·have hcmp:4*(k:Int)+3<(n:Int):=by have:=hn.out;omega
   have HS:=hid (hs.out k)
   go_wp2_with fail
   (refine (hg.out k _ L (by have:=hn.out;omega)).mono ?_);rintro e w2 ⟨rfl,j2⟩
   have HQ:=hid (hq.out k (by have:=hn.out;omega))
   generalize quad bs k 4=Q at *
   have J:=Qaa w2 (.cells #[n32 Q] 96)
   go_wp2_with (first
    | (refine Qas rfl _ _ _ rfl 96 _ 4 Tryz.underlying253 Qrp rfl w _ k _ ((Qap hown j2 |> fun h=>Qap h J)) ((L.trans j2).trans J) _ 1 1 _ ((Blk.new w2 96 [n32 Q]).rd rfl) (by intro u hu;rw[QDH.1 hu];rfl) rfl rfl (by omega) (by omega) ?_;intro A3 c3 w3 hown3 hl3 hg3 _)
    | fail)
   rw[HQ.out,←HS.out]at hown3
   go_roundw
   case rel=>exact⟨k+1,A3,c3,by omega,by go_num,rfl,hown3,hl3⟩
   case measure=>simp[intOf];omega
  ·obtain rfl:K=k:=by omega
   have hcmp: ¬ 4*(K:Int)+3<(n:Int):=by have:=hn.out;omega
   go_wp2_with fail
   go_ret
   exact⟨_,_,rfl,hown,L⟩
def qSt (v:UInt32×UInt32×UInt32×UInt32):Nat→UInt32×UInt32×UInt32×UInt32
 | 0=>v
 | 1=>Qjd v 16
 | 2=>Qmf (Qjd v 16) 12
 | 3=>Qjd (Qmf (Qjd v 16) 12) 8
 | _=>Qmf (Qjd (Qmf (Qjd v 16) 12) 8) 7
def qL (v:UInt32×UInt32×UInt32×UInt32):List UInt32:=[v.1,v.2.1,v.2.2.1,v.2.2.2]
theorem QnN:(Tryz.prog.info? 257).map (·.size)=some 4:=by kernel_rfl
set_option maxRecDepth 100000 in
set_option maxHeartbeats 4000000 in
theorem Qlb (v:UInt32×UInt32×UInt32×UInt32) (w:World):
 Calls Tryz.prog 143 #[.agg ((qL v).map W32).toArray] w fun e w'=>e= .returned (.agg ((qL (QhG v.1 v.2.1 v.2.2.1 v.2.2.2)).map W32).toArray)∧Later w w':=by
 have hQ:=hid (show QhG v.1 v.2.1 v.2.2.1 v.2.2.2=qSt v 4 from rfl)
 have q1:=hid (show qSt v 1=Qjd (qSt v 0) 16 from rfl)
 have q2:=hid (show qSt v 2=Qmf (qSt v 1) 12 from rfl)
 have q3:=hid (show qSt v 3=Qjd (qSt v 2) 8 from rfl)
 have q4:=hid (show qSt v 4=Qmf (qSt v 3) 7 from rfl)
 have q0:Hid (qSt v 0=v):=hid rfl
 generalize QhG v.1 v.2.1 v.2.2.1 v.2.2.2=R at *
 have hle:=hid Qx3
 go_enter Tryz.func143,Tryz.ntmps143
 go_wp2_with fail
 have B0:=((Qa8 w 257 ((qL v).map W32)).fresh (Qaa _ (.cells (QCn 4 (Value.int .u32 0)).toArray 257)) (QCx _) (Blk.new _ _ _)).fresh (Qaa _ (.cells [Value.int .i64 16,.int .i64 12,.int .i64 8,.int .i64 7].toArray 255)) (QCx _) (Blk.new _ _ _)
 have e1:(w.alloc (.cells ((qL v).map W32).toArray 257)).heap.size=w.heap.size+1:=by simp
 have e2:((w.alloc (.cells ((qL v).map W32).toArray 257)).alloc (.cells (QCn 4 (Value.int .u32 0)).toArray 257)).heap.size=w.heap.size+1+1:=by simp
 rw[e1,e2]at B0
 clear e1 e2
 generalize hg1:w.heap.size=g1 at *
 generalize hg2:g1+1=g2 at *
 generalize hg3:g2+1=g3 at *
 clear hg1 hg2 hg3
 go_loopw [4] (fun i wr=>∃k:Nat,k≤4∧i= .int .i64 k∧Bag w wr [(g3,255,[.int .i64 16,.int .i64 12,.int .i64 8,.int .i64 7]),(g2,257,QCn 4 (.int .u32 0)),(g1,257,(qL (qSt v k)).map W32)]) (fun i _=>4-(intOf i).toNat)
 case atStart=>exact⟨0,by omega,rfl,by rw[q0.out];exact B0⟩
 case round=>
  clear B0
  obtain⟨k,hk,rfl,B⟩:=hrel
  by_cases hlt:k<4
  ·have hk4:k=0∨k=1∨k=2∨k=3:=by omega
   clear hk hlt
   rcases hk4 with rfl|rfl|rfl|rfl
   ·have Q:=hid (q1.out)
    generalize qSt v 0=s at *
    generalize hs':qSt v (0+1)=s' at *
    replace hs':=hid hs'
    obtain⟨a,b,c,d⟩:=s
    have c0:=(B.nth 2 rfl).cellD 0 rfl
    have c1:=(B.nth 2 rfl).cellD 1 rfl
    dsimp only[qL]at c0 c1
    go_wp2_with (first
     | (refine Qac rfl rfl _ _ _ rfl g1 0 _ _ (B.nth 2 rfl) rfl (by simp[qL]) rfl Qbx ?_;intro v' w5 hv' hb5 ho5;simp[go_sem]at hv';subst hv')
     | fail)
    have B5:Bag w w5.drew [(g3,255,[.int .i64 16,.int .i64 12,.int .i64 8,.int .i64 7]),(g2,257,QCn 4 (.int .u32 0)),(g1,257,[W32 (a+b),W32 b,W32 c,W32 d])]:=(B.write 2 rfl ho5 hb5).drew
    have ct:=(B5.nth 0 rfl).cellD 0 rfl
    have d0:=(B5.nth 2 rfl).cellD 0 rfl
    have d3:=(B5.nth 2 rfl).cellD 3 rfl
    clear c0 c1 hb5 ho5 B
    refine Qad [([0,1,2,3,4,5,6,7],8)] [9] [10] (by as_aux_lemma=>kernel_rfl) (by as_aux_lemma=>kernel_rfl) (by intro _ _ d _ _ h;cases d<;>exact h) ?_
    simp only[Qai,pick,QCo,QCp,QCq,QCr,QCs]
    repeat (go_big_quiet_step (fail))
    refine wpQuiet_nil ?_
    go_wp2_with fail
    (refine (hle.out _ 16 _ rfl (by omega) _).mono ?_);rintro e w6 ⟨rfl,j6⟩
    have B6:=B5.later j6
    clear B5 d0 d3 ct
    go_wp2_with fail
    try refine⟨by first|assumption|exact Qab _|exact Qaa _ _|exact Later.refl _,?_⟩
    try simp only[Qai,pick,QCo,QCp,QCq,QCr,QCs]
    repeat (go_big_quiet_step (fail))
    refine wpQuiet_nil ?_
    go_wp2_with (first
     | (refine Qac rfl rfl _ _ _ rfl g1 3 _ _ (B6.nth 2 rfl) rfl (by simp) rfl Qbx ?_;intro v' w7 hv' hb7 ho7;simp[go_sem]at hv';subst hv')
     | fail)
    go_roundw
    case rel=>exact⟨0+1,by omega,by go_num,by rw[hs'.out,Q.out];exact B6.write 2 rfl ho7 hb7⟩
    case measure=>simp[intOf];try omega
   ·have Q:=hid (q2.out)
    generalize qSt v 1=s at *
    generalize hs':qSt v (1+1)=s' at *
    replace hs':=hid hs'
    obtain⟨a,b,c,d⟩:=s
    have c0:=(B.nth 2 rfl).cellD 2 rfl
    have c1:=(B.nth 2 rfl).cellD 3 rfl
    dsimp only[qL]at c0 c1
    go_wp2_with (first
     | (refine Qac rfl rfl _ _ _ rfl g1 2 _ _ (B.nth 2 rfl) rfl (by simp[qL]) rfl Qbx ?_;intro v' w5 hv' hb5 ho5;simp[go_sem]at hv';subst hv')
     | fail)
    have B5:Bag w w5.drew [(g3,255,[.int .i64 16,.int .i64 12,.int .i64 8,.int .i64 7]),(g2,257,QCn 4 (.int .u32 0)),(g1,257,[W32 a,W32 b,W32 (c+d),W32 d])]:=(B.write 2 rfl ho5 hb5).drew
    have ct:=(B5.nth 0 rfl).cellD 1 rfl
    have d0:=(B5.nth 2 rfl).cellD 1 rfl
    have d3:=(B5.nth 2 rfl).cellD 2 rfl
    clear c0 c1 hb5 ho5 B
    refine Qad [([0,1,2,3,4,5,6,7],8)] [9] [10] (by as_aux_lemma=>kernel_rfl) (by as_aux_lemma=>kernel_rfl) (by intro _ _ d _ _ h;cases d<;>exact h) ?_
    simp only[Qai,pick,QCo,QCp,QCq,QCr,QCs]
    repeat (go_big_quiet_step (fail))
    refine wpQuiet_nil ?_
    go_wp2_with fail
    (refine (hle.out _ 12 _ rfl (by omega) _).mono ?_);rintro e w6 ⟨rfl,j6⟩
    have B6:=B5.later j6
    clear B5 d0 d3 ct
    go_wp2_with fail
    try refine⟨by first|assumption|exact Qab _|exact Qaa _ _|exact Later.refl _,?_⟩
    try simp only[Qai,pick,QCo,QCp,QCq,QCr,QCs]
    repeat (go_big_quiet_step (fail))
    refine wpQuiet_nil ?_
    go_wp2_with (first
     | (refine Qac rfl rfl _ _ _ rfl g1 1 _ _ (B6.nth 2 rfl) rfl (by simp) rfl Qbx ?_;intro v' w7 hv' hb7 ho7;simp[go_sem]at hv';subst hv')
     | fail)
    go_roundw
    case rel=>exact⟨1+1,by omega,by go_num,by rw[hs'.out,Q.out];exact B6.write 2 rfl ho7 hb7⟩
    case measure=>simp[intOf];try omega
   ·have Q:=hid (q3.out)
    generalize qSt v 2=s at *
    generalize hs':qSt v (2+1)=s' at *
    replace hs':=hid hs'
    obtain⟨a,b,c,d⟩:=s
    have c0:=(B.nth 2 rfl).cellD 0 rfl
    have c1:=(B.nth 2 rfl).cellD 1 rfl
    dsimp only[qL]at c0 c1
    go_wp2_with (first
     | (refine Qac rfl rfl _ _ _ rfl g1 0 _ _ (B.nth 2 rfl) rfl (by simp[qL]) rfl Qbx ?_;intro v' w5 hv' hb5 ho5;simp[go_sem]at hv';subst hv')
     | fail)
    have B5:Bag w w5.drew [(g3,255,[.int .i64 16,.int .i64 12,.int .i64 8,.int .i64 7]),(g2,257,QCn 4 (.int .u32 0)),(g1,257,[W32 (a+b),W32 b,W32 c,W32 d])]:=(B.write 2 rfl ho5 hb5).drew
    have ct:=(B5.nth 0 rfl).cellD 2 rfl
    have d0:=(B5.nth 2 rfl).cellD 0 rfl
    have d3:=(B5.nth 2 rfl).cellD 3 rfl
    clear c0 c1 hb5 ho5 B
    refine Qad [([0,1,2,3,4,5,6,7],8)] [9] [10] (by as_aux_lemma=>kernel_rfl) (by as_aux_lemma=>kernel_rfl) (by intro _ _ d _ _ h;cases d<;>exact h) ?_
    simp only[Qai,pick,QCo,QCp,QCq,QCr,QCs]
    repeat (go_big_quiet_step (fail))
    refine wpQuiet_nil ?_
    go_wp2_with fail
    (refine (hle.out _ 8 _ rfl (by omega) _).mono ?_);rintro e w6 ⟨rfl,j6⟩
    have B6:=B5.later j6
    clear B5 d0 d3 ct
    go_wp2_with fail
    try refine⟨by first|assumption|exact Qab _|exact Qaa _ _|exact Later.refl _,?_⟩
    try simp only[Qai,pick,QCo,QCp,QCq,QCr,QCs]
    repeat (go_big_quiet_step (fail))
    refine wpQuiet_nil ?_
    go_wp2_with (first
     | (refine Qac rfl rfl _ _ _ rfl g1 3 _ _ (B6.nth 2 rfl) rfl (by simp) rfl Qbx ?_;intro v' w7 hv' hb7 ho7;simp[go_sem]at hv';subst hv')
     | fail)
    go_roundw
    case rel=>exact⟨2+1,by omega,by go_num,by rw[hs'.out,Q.out];exact B6.write 2 rfl ho7 hb7⟩
    case measure=>simp[intOf];try omega
   ·have Q:=hid (q4.out)
    generalize qSt v 3=s at *
    generalize hs':qSt v (3+1)=s' at *
    replace hs':=hid hs'
    obtain⟨a,b,c,d⟩:=s
    have c0:=(B.nth 2 rfl).cellD 2 rfl
    have c1:=(B.nth 2 rfl).cellD 3 rfl
    dsimp only[qL]at c0 c1
    go_wp2_with (first
     | (refine Qac rfl rfl _ _ _ rfl g1 2 _ _ (B.nth 2 rfl) rfl (by simp[qL]) rfl Qbx ?_;intro v' w5 hv' hb5 ho5;simp[go_sem]at hv';subst hv')
     | fail)
    have B5:Bag w w5.drew [(g3,255,[.int .i64 16,.int .i64 12,.int .i64 8,.int .i64 7]),(g2,257,QCn 4 (.int .u32 0)),(g1,257,[W32 a,W32 b,W32 (c+d),W32 d])]:=(B.write 2 rfl ho5 hb5).drew
    have ct:=(B5.nth 0 rfl).cellD 3 rfl
    have d0:=(B5.nth 2 rfl).cellD 1 rfl
    have d3:=(B5.nth 2 rfl).cellD 2 rfl
    clear c0 c1 hb5 ho5 B
    refine Qad [([0,1,2,3,4,5,6,7],8)] [9] [10] (by as_aux_lemma=>kernel_rfl) (by as_aux_lemma=>kernel_rfl) (by intro _ _ d _ _ h;cases d<;>exact h) ?_
    simp only[Qai,pick,QCo,QCp,QCq,QCr,QCs]
    repeat (go_big_quiet_step (fail))
    refine wpQuiet_nil ?_
    go_wp2_with fail
    (refine (hle.out _ 7 _ rfl (by omega) _).mono ?_);rintro e w6 ⟨rfl,j6⟩
    have B6:=B5.later j6
    clear B5 d0 d3 ct
    go_wp2_with fail
    try refine⟨by first|assumption|exact Qab _|exact Qaa _ _|exact Later.refl _,?_⟩
    try simp only[Qai,pick,QCo,QCp,QCq,QCr,QCs]
    repeat (go_big_quiet_step (fail))
    refine wpQuiet_nil ?_
    go_wp2_with (first
     | (refine Qac rfl rfl _ _ _ rfl g1 1 _ _ (B6.nth 2 rfl) rfl (by simp) rfl Qbx ?_;intro v' w7 hv' hb7 ho7;simp[go_sem]at hv';subst hv')
     | fail)
    go_roundw
    case rel=>exact⟨3+1,by omega,by go_num,by rw[hs'.out,Q.out];exact B6.write 2 rfl ho7 hb7⟩
    case measure=>simp[intOf];try omega
  ·obtain rfl:4=k:=by omega
   rw[←hQ.out]at B
   obtain⟨ra,rb,rc,rd⟩:=R
   have c0:=(B.nth 2 rfl).cellD 0 rfl
   have c1:=(B.nth 2 rfl).cellD 1 rfl
   have c2:=(B.nth 2 rfl).cellD 2 rfl
   have c3:=(B.nth 2 rfl).cellD 3 rfl
   dsimp only[qL]at c0 c1 c2 c3
   go_wp2_with (first
    | (refine Qaj rfl rfl 257 _ _ rfl g2 0 _ _ [W32 ra,W32 rb,W32 rc,W32 rd] (B.nth 1 rfl) rfl rfl QnN (by simp) ?_ ?_;(intro u hu;simp at hu;rcases hu with rfl|rfl|rfl|rfl<;>rfl);intro w9 hb9 ho9;rw[Qao _ _ (by simp)]at hb9)
    | fail)
   exact bodyPost_ret (QaF rfl _ _ _ _ _ _ hb9 rfl Tryz.underlying257 rfl QnN) rfl ⟨rfl,B.lat.only ho9 (B.at_low 1 rfl)⟩
def putA (n:UInt64) (k:Nat):List UInt8:=(QC5 k).map (fun j=>(divk n j%256).toUInt8)++QCn (4-k) 0
theorem Qnc (n:UInt64) (k:Nat) (h:k≤4):(putA n k).length=4:=by simp[putA];omega
theorem Qtl (n:UInt64) (k:Nat) (hk:k<4):(putA n k).set k (divk n k%256).toUInt8=putA n (k+1):=by
 have:=Qh9 (0:UInt8) [] (fun j=>(divk n j%256).toUInt8) k 4 hk
 simpa [putA] using this
theorem QkQ (n:UInt64):∀k,(divk n k).toNat=n.toNat/256^k
 | 0=>by simp[divk]
 | k+1=>by
   have h:divk n (k+1)=divk n k/256:=rfl
   rw[h,UInt64.toNat_div,QkQ n k,QDe,QDv]
   rfl
theorem QuO (x:UInt32):putA x.toUInt64 4=le4 x:=by
 have hx:=x.toNat_lt
 have key:∀j,j<4→(divk x.toUInt64 j%256).toUInt8=(Qcg x (8*j)).toUInt8:=by
  intro j hj
  apply QDl.1
  have e:(Qcg x (8*j)).toNat=x.toNat/2^(8*j):=by
   show (x.toBitVec >>> (8*j)).toNat=_
   rw[QDs,QDo]
   rfl
  rw[QEv,UInt32.toNat_toUInt8,UInt64.toNat_mod,QkQ,e,UInt32.toNat_toUInt64,QD5]
  exact Nat.mod_mod_of_dvd _ (by decide)
 have k0:=key 0 (by omega)
 have k1:=key 1 (by omega)
 have k2:=key 2 (by omega)
 have k3:=key 3 (by omega)
 have e0:Qcg x (8*0)=x:=by
  apply UInt32.toBitVec_inj.1
  show x.toBitVec >>> 0=x.toBitVec
  simp
 rw[e0]at k0
 show [(divk x.toUInt64 0%256).toUInt8,(divk x.toUInt64 1%256).toUInt8,(divk x.toUInt64 2%256).toUInt8,(divk x.toUInt64 3%256).toUInt8]++[]=_
 rw[k0,k1,k2,k3]
 rfl
theorem Qzo (x:UInt32):divk x.toUInt64 4=0:=by
 apply QD2.1
 have:=x.toNat_lt
 rw[QkQ,UInt32.toNat_toUInt64]
 exact QDd (by omega)
set_option maxRecDepth 100000 in
set_option maxHeartbeats 1000000 in
theorem QyL (x:UInt32) (w:World):Calls Tryz.prog 144 #[.int .i64 1,.int .i64 4,W64 x.toUInt64] w fun e w'=>
 ∃A c,e= .returned (.tuple #[.slice A 4 c,.int .i64 0])∧OwnB w' w.heap.size A 4 c (le4 x)∧Later w w':=by
 have D4:=hid (Qzo x)
 have hE:=hid (QuO x)
 generalize x.toUInt64=n at *
 go_enter Tryz.func144,Tryz.ntmps144
 go_wp2_with (first
  | (go_at_call 139;refine (Qo7 1 4 (by omega) (by omega) (by omega) _).mono ?_;rintro e w' ⟨rfl,rfl⟩)
  | (refine QaH rfl _ _ _ rfl 5 _ 1 Tryz.underlying32 QbW rfl _ _ _ _ 4 rfl rfl ?hL ?hC (by omega) (by omega) ?_;(case hL=>rfl);(case hC=>rfl);intro w1 hb1 hl1))
 go_loopw [2,9] (fun t i wr=>∃k:Nat,k≤4∧i= .int .i64 k∧t=W64 (divk n k)∧Later w wr∧Blk wr w.heap.size 5 ((putA n k).map W8)) (fun _ i _=>4-(intOf i).toNat)
 case atStart=>exact⟨0,by omega,rfl,rfl,hl1,hb1⟩
 case round=>
  clear hl1 hb1
  obtain⟨k,hk,rfl,rfl,hl,hb⟩:=hrel
  by_cases hlt:k<4
  ·have hlen:=Qnc n k hk
   have d0:=hb.cellD k (QCv (by simp;omega))
   have d1:=hb.frozen k
   generalize ((putA n k).map W8)[k]'_=old at d0
   go_wp2_with (refine Qbz rfl rfl _ _ _ rfl _ rfl rfl (by kernel_rfl) ?sc ?sf ?_;(case sc=>go_simp;done);(case sf=>first|assumption|(go_simp;done));intro v hv;simp[go_sem]at hv;subst hv)
   go_roundw
   case rel=>
    refine⟨k+1,by omega,by go_num,rfl,hl.setCell (QCx _) _,?_⟩
    rw[←Qtl n k hlt,←Qby]
    exact hb.set_ k _
   case measure=>simp[intOf];omega
  ·have hk4:k=4:=by omega
   rw[hk4]at hb
   rw[hk4,D4.out]
   rw[hE.out]at hb
   go_wp2
   go_ret2
   refine⟨_,_,rfl,?_,hl⟩
   exact Qck hb (QCx _) (by simp[le4])
theorem QwV (x:UInt32) (y:UInt64) (h:y=x.toUInt64) (w:World):Calls Tryz.prog 144 #[.int .i64 1,.int .i64 4,W64 y] w fun e w'=>
 ∃A c,e= .returned (.tuple #[.slice A 4 c,.int .i64 0])∧OwnB w' w.heap.size A 4 c (le4 x)∧Later w w':=by
 subst h
 exact QyL x w
def chaK:List UInt8:=[101,120,112,97,110,100,32,51,50,45,98,121,116,101,32,107]
theorem Qqi:QeX chaK 4=chaC:=by decide +kernel
def plc (r j:Nat):Nat:=([0,4,8,12,1,5,9,13,2,6,10,14,3,7,11,15,0,5,10,15,1,6,11,12,2,7,8,13,3,4,9,14]:List Nat).getD (r*4+j) 0
def plcV:List Value:=([0,4,8,12,1,5,9,13,2,6,10,14,3,7,11,15,0,5,10,15,1,6,11,12,2,7,8,13,3,4,9,14]:List Nat).map fun (n:Nat)=>.int .i64 (n:Int)
theorem QhM (r j:Nat) (h:r<8) (hj:j<4):plcV[r*4+j]?=some (.int .i64 (plc r j:Int)):=by
 have:r*4+j<32:=by omega
 rw[plcV,QCH,plc,QCu,QCv (by simpa using this)]
 rfl
theorem Qob (r j:Nat) (h:r<8) (hj:j<4):plc r j<16:=by
 have:∀r:Fin 8,∀j:Fin 4,plc r.val j.val<16:=by decide
 exact this ⟨r,h⟩ ⟨j,hj⟩
def stR (s:List UInt32):Nat→List UInt32
 | 0=>s
 | k+1=>QdT (stR s k) (plc (k%8) 0) (plc (k%8) 1) (plc (k%8) 2) (plc (k%8) 3)
theorem Qj0 (s:List UInt32):∀k,(stR s k).length=s.length
 | 0=>rfl
 | k+1=>by rw[stR,QdB,Qj0 s k]
theorem Qx4 (s:List UInt32) (k:Nat):stR s (8*(k+1))=dbl (stR s (8*k)):=by
 rw[show 8*(k+1)=8*k+7+1 by omega,stR,stR,stR,stR,stR,stR,stR,stR]
 rw[show (8*k+7)%8=7 by omega,show (8*k+6)%8=6 by omega,show (8*k+5)%8=5 by omega,show (8*k+4)%8=4 by omega,show (8*k+3)%8=3 by omega,show (8*k+2)%8=2 by omega,show (8*k+1)%8=1 by omega,show (8*k)%8=0 by omega]
 rfl
theorem QqT (s:List UInt32):∀k,stR s (8*k)=dblN s k
 | 0=>rfl
 | k+1=>by rw[Qx4,QqT s k];rfl
theorem Qnf (key nonce:List UInt8) (ctr:UInt32):Qgk key nonce ctr=QeX chaK 4++QeX key 8++[ctr]++QeX nonce 3:=by rw[Qqi];rfl
theorem Quq (key nonce:List UInt8) (ctr:UInt32):chaB key nonce ctr=Qd3 (stR (Qgk key nonce ctr) 80) (Qgk key nonce ctr) 16:=by rw[show 80=8*10 from rfl,QqT,chaB]
theorem Qim:plcV.length=32:=rfl
theorem Qvm:∀u∈plcV,u.oneCell'=true:=by
 intro u hu
 obtain⟨n,_,rfl⟩:=QC7.1 hu
 rfl
theorem QxG:(Tryz.prog.info? 256).map (·.size)=some plcV.length:=by kernel_rfl
theorem Qx9:(Tryz.prog.info? 255).map (·.size)=some 4:=by kernel_rfl
def st4 (T:List UInt32) (p0 p1 p2 p3:Nat) (q:UInt32×UInt32×UInt32×UInt32):Nat→List UInt32
 | 0=>T
 | 1=>T.set p0 q.1
 | 2=>(T.set p0 q.1).set p1 q.2.1
 | 3=>((T.set p0 q.1).set p1 q.2.1).set p2 q.2.2.1
 | _=>putQ T p0 p1 p2 p3 q
theorem QcO (T:List UInt32) (p0 p1 p2 p3:Nat) (q:UInt32×UInt32×UInt32×UInt32) (j:Nat):(st4 T p0 p1 p2 p3 q j).length=T.length:=by
 match j with
 | 0=>rfl
 | 1=>simp[st4]
 | 2=>simp[st4]
 | 3=>simp[st4]
 | j+4=>simp[st4,putQ]
set_option maxRecDepth 100000 in
set_option maxHeartbeats 8000000 in
theorem QpT (A B:Option Addr) (c d:Nat) (key nonce:List UInt8) (ctr:UInt32) (w:World) (hk:RdB w A 32 key) (hn:RdB w B 12 nonce):
 Calls Tryz.prog 118 #[.slice A 32 c,.slice B 12 d,W32 ctr] w fun e w'=>∃A' c',e= .returned (.slice A' 64 c')∧OwnB w' w.heap.size A' 64 c' (chaB key nonce ctr)∧Later w w':=by
 have hw:=hid (fun A n c K bs w h h1 h2=>Qq6 A n c K bs w h h1 h2)
 have hL:=hid (Qnf key nonce ctr)
 have hsl:=Qfr key nonce ctr
 have hC:=hid (Quq key nonce ctr)
 generalize Qgk key nonce ctr=S at *
 generalize chaB key nonce ctr=CB at *
 go_enter Tryz.func118,Tryz.ntmps118
 go_wp2_with (first
  | (refine QcV rfl _ _ rfl 5 Tryz.underlying32 Tryz.underlying5 w (chaK.map W8) rfl w.heap.size 16 16 rfl rfl ?_;intro w1 hl1 hr1 hz1)
  | fail)
 (refine (hw.out _ 16 16 4 chaK _ hr1 rfl (by omega)).mono ?_);rintro e w2 ⟨A2,c2,rfl,hown2,j2⟩
 replace hown2:=Qbb hown2 hl1.size
 have L2:=hl1.trans j2
 clear hr1 hz1 j2 hl1
 go_wp2_with fail
 (refine (hw.out A 32 c 8 key _ (hk.later L2) rfl (by omega)).mono ?_);rintro e w3 ⟨A3,c3,rfl,hown3,j3⟩
 go_wp2_with (first
  | (refine Qas rfl _ _ _ rfl 96 _ 4 Tryz.underlying253 Qrp rfl w _ 4 _ (Qap hown2 j3) (L2.trans j3) A3 8 c3 _ (QfV hown3) (Qe9 _) rfl rfl (by omega) (by omega) ?_;intro A4 c4 w4 hown4 hl4 hg4 _
     have J5:=Qaa w4 (.cells #[W32 ctr] 96))
  | (refine Qas rfl _ _ _ rfl 96 _ 4 Tryz.underlying253 Qrp rfl w _ (4+8) _ (Qap hown4 J5) (hl4.trans J5) _ 1 1 _ ((Blk.new w4 96 [W32 ctr]).rd rfl) (by intro u hu;rw[QDH.1 hu];rfl) rfl rfl (by omega) (by omega) ?_;intro A5 c5 w5 hown5 hl5 hg5 _)
  | fail)
 (refine (hw.out B 12 d 3 nonce _ (hn.later hl5) rfl (by omega)).mono ?_);rintro e w6 ⟨A6,c6,rfl,hown6,j6⟩
 go_wp2_with (first
  | (refine Qas rfl _ _ _ rfl 96 _ 4 Tryz.underlying253 Qrp rfl w _ (4+8+1) _ (Qap hown5 j6) (hl5.trans j6) A6 3 c6 _ (QfV hown6) (Qe9 _) rfl rfl (by omega) (by omega) ?_;intro A7 c7 w7 hown7 hl7 hg7 _
     have J8:=Qaa w7 (.cells #[] 96))
  | (refine Qas rfl _ _ _ rfl 96 _ 4 Tryz.underlying253 Qrp rfl w7 _ 0 [] (Qvo (n:=0) (Blk.new w7 96 []) (QCx _) rfl (by omega)) J8 A7 (4+8+1+3) c7 _ (QfV (Qap hown7 J8)) ?h1 rfl rfl (by omega) (by omega) ?_;(case h1=>intro u hu;simp only[QDc]at hu;rcases hu with ((hu|hu)|hu)|hu<;>first|exact Qe9 _ u hu|(rw [QDH.1 hu];rfl));intro A8 c8 w8 hown8 hl8 hg8 _)
  | (refine Qaq rfl 256 _ rfl plcV ?hb ?_;(case hb=>kernel_rfl))
  | (refine Qaj rfl rfl 256 _ _ rfl w8.heap.size 0 _ _ plcV (Blk.new w8 256 (QCn 32 (.int .i64 0))) rfl rfl QxG (by rw[Qim];simp) Qvm ?_;intro w9 hb9 ho9;rw[Qao _ _ (by rw[Qim];simp)]at hb9)
  | fail)
 have hSW:Hid (((QeX chaK 4).map W32++(QeX key 8).map W32++[W32 ctr])++(QeX nonce 3).map W32=S.map W32):=hid (by rw[hL.out];simp only[QC6,QCR,QCC])
 have hLa:Later w w8:=hl7.trans hl8
 rw[QCs,hSW.out]at hown8
 rw[hSW.out]at hown7
 obtain⟨gs,rs,rfl,hgs,hbs,hcs⟩:∃g rest,A7=some ⟨g,0,none⟩∧w.heap.size≤g∧Blk w8 g 96 (S.map W32++rest)∧g<w7.heap.size:=by
  rcases Qkz (Qap hown7 hl8) with ⟨_,h0⟩|⟨g,rest,e,h1,h2,h3⟩
  ·omega
  ·subst e
   exact⟨g,rest,rfl,h1,h2,(hown7.lt g rfl).2⟩
 obtain⟨go,ro,rfl,hgo,hbo⟩:∃g rest,A8=some ⟨g,0,none⟩∧w7.heap.size≤g∧Blk w8 g 96 (S.map W32++rest):=by
  rcases Qkz hown8 with ⟨_,h0⟩|⟨g,rest,e,h1,h2,h3⟩
  ·omega
  ·exact⟨g,rest,e,h1,h2⟩
 have B8:=((Bag.none w).add hLa (by simp) hgs hbs).add (Later.refl _) (by intro p hp;rw[QDH.1 hp];show go≠gs;omega) (QC4 hl7.size hgo) hbo
 have B9:=B8.push (Qaa w8 _) (QCx _) ho9 hb9
 clear B8 hbo hbs hgo hgs hcs hown8 hown7 hl8 hl7 hg8 hg7 hown6 j6 hown5 hl5 hg5 hown4 hl4 hg4 J5 J8 hown3 j3 hown2 L2 hb9 ho9 hSW hLa hw
 generalize w8.heap.size=g9 at *
 have hst:=hid (fun k=>show stR S (k+1)=putQ (stR S k) (plc (k%8) 0) (plc (k%8) 1) (plc (k%8) 2) (plc (k%8) 3) (QhG (wAt (stR S k) (plc (k%8) 0)) (wAt (stR S k) (plc (k%8) 1)) (wAt (stR S k) (plc (k%8) 2)) (wAt (stR S k) (plc (k%8) 3))) from rfl)
 have hsl':=hid (fun k=>(Qj0 S k).trans hsl)
 have hqr:=hid Qlb
 go_loopw [10] (fun i wr=>∃k:Nat,k≤80∧i= .int .i64 k∧Bag w wr [(g9,256,plcV),(go,96,S.map W32++ro),(gs,96,(stR S k).map W32++rs)]) (fun i _=>80-(intOf i).toNat)
 case atStart=>exact⟨0,by omega,rfl,B9⟩
 case round=>
  clear B9
  obtain⟨k,hk',rfl,B⟩:=hrel
  by_cases hlt:k<80
  ·have hT:=hsl'.out k
   have HST:=hid (hst.out k)
   have hr8:k%8<8:=QCU _ (by omega)
   have hrem:(k:Int)%8=((k%8:Nat):Int):=by omega
   obtain⟨p0,p1,p2,p3,hp⟩:∃p0 p1 p2 p3,p0=plc (k%8) 0∧p1=plc (k%8) 1∧p2=plc (k%8) 2∧p3=plc (k%8) 3:=⟨_,_,_,_,rfl,rfl,rfl,rfl⟩
   have l0:p0<16:=by rw[hp.1];exact Qob _ 0 hr8 (by omega)
   have l1:p1<16:=by rw[hp.2.1];exact Qob _ 1 hr8 (by omega)
   have l2:p2<16:=by rw[hp.2.2.1];exact Qob _ 2 hr8 (by omega)
   have l3:p3<16:=by rw[hp.2.2.2];exact Qob _ 3 hr8 (by omega)
   have v0:=QhM (k%8) 0 hr8 (by omega)
   have v1:=QhM (k%8) 1 hr8 (by omega)
   have v2:=QhM (k%8) 2 hr8 (by omega)
   have v3:=QhM (k%8) 3 hr8 (by omega)
   rw[←hp.1]at v0
   rw[←hp.2.1]at v1
   rw[←hp.2.2.1]at v2
   rw[←hp.2.2.2]at v3
   have HST':=HST.out
   rw[←hp.1,←hp.2.1,←hp.2.2.1,←hp.2.2.2]at HST'
   replace HST':=hid HST'
   clear HST hp
   obtain⟨T',hTT⟩:∃T',stR S (k+1)=T':=⟨_,rfl⟩
   rw[hTT]at HST'
   replace hTT:=hid hTT
   generalize stR S k=T at *
   generalize k%8=r at *
   have hz:=(B.nth 0 rfl)
   go_wp2_with (first
    | (refine Qaz rfl 255 _ rfl g9 (r*4) [.int .i64 p0,.int .i64 p1,.int .i64 p2,.int .i64 p3] ?hc ?hx _ Tryz.underlying255 rfl Qx9 ?_;(case hx=>rfl);(case hc=>
        intro j v hv
        match j with
        | 0=>cases hv;exact hz.cellD _ v0
        | 1=>cases hv;exact hz.cellD _ v1
        | 2=>cases hv;exact hz.cellD _ v2
        | 3=>cases hv;exact hz.cellD _ v3
        | j+4=>simp at hv))
    | fail)
   have B1:=(B.fresh (Qaa wr (.cells #[.int .i64 p0,.int .i64 p1,.int .i64 p2,.int .i64 p3] 255)) (QCx _) (Blk.new wr _ [.int .i64 p0,.int .i64 p1,.int .i64 p2,.int .i64 p3])).drew
   clear B hz
   generalize wr.heap.size=g11 at *
   generalize hw1:(wr.alloc (.cells #[.int .i64 p0,.int .i64 p1,.int .i64 p2,.int .i64 p3] 255))=w1 at *
   clear hw1
   have y0:=(B1.nth 0 rfl).cellD 0 rfl
   have y1:=(B1.nth 0 rfl).cellD 1 rfl
   have y2:=(B1.nth 0 rfl).cellD 2 rfl
   have y3:=(B1.nth 0 rfl).cellD 3 rfl
   have hTg:=fun p (hp:p<16)=>(B1.nth 3 rfl).cellD p (u:=W32 (wAt T p)) (by rw[QCD (by rw[QCt];omega)];exact Qew (by omega))
   have z0:=hTg p0 l0
   have z1:=hTg p1 l1
   have z2:=hTg p2 l2
   have z3:=hTg p3 l3
   clear hTg
   generalize wAt T p0=a0 at *
   generalize wAt T p1=a1 at *
   generalize wAt T p2=a2 at *
   generalize wAt T p3=a3 at *
   refine QaG [0,1,2,3,4,5,6,7,8,9,10,11,12,13,14,15,16,17,18,19,20] [([],1,21),([],2,22)] [] [23] [22] (fun _=>(fun g=>.pointer (some ⟨g,0,none⟩),.cells (QCn 4 (Value.int .u32 0)).toArray 257)) (by as_aux_lemma=>kernel_rfl) (by as_aux_lemma=>kernel_rfl) (by intro _ _ d _ _ h;cases d<;>exact h) (by intro _ _ d _ _ h;cases d<;>exact h) ?_
   simp only[pick,QCo,QCp,QCq,QCr,QCs]
   repeat (go_big_quiet_step (fail))
   refine wpQuiet_nil ?_
   refine⟨?mk,?_⟩
   case mk=>
    refine⟨fun o ho=>?_,trivial⟩
    simp only[QCo,QCp,Option.some.injEq]at ho
    subst ho
    refine⟨rfl,fun W=>?_⟩
    unfold execOp
    simp[go_sem]
   simp only[Qbp,pick,QCo,QCp,QCq,QCr,QCs]
   refine wpQuiet_nil ?_
   intro w2 hl2
   go_wp2_with fail
   refine (hqr.out (a0,a1,a2,a3) _).mono ?_
   rintro e w3 ⟨rfl,j3⟩
   dsimp only at HST' ⊢
   generalize QhG a0 a1 a2 a3=q at *
   obtain⟨q0,q1,q2,q3⟩:=q
   go_wp2_with fail
   refine⟨j3,?_⟩
   refine wpQuiet_nil ?_
   intro w4 g12 hl4 hg4 _ hb4
   refine wpQuiet_nil ?_
   intro w5 hl5
   have B5:=B1.fresh (((hl2.trans j3).trans hl4).trans hl5) hg4 (Blk.later hb4 hl5)
   clear B1 hl2 j3 hl4 hl5 hb4 hg4 y0 y1 y2 y3 z0 z1 z2 z3 v0 v1 v2 v3
   go_wp2_with (first
    | (refine Qaj rfl rfl 257 _ _ rfl g12 0 _ _ [W32 q0,W32 q1,W32 q2,W32 q3] (B5.nth 0 rfl) rfl rfl QnN (by simp) ?_ ?_;(intro u hu;simp at hu;rcases hu with rfl|rfl|rfl|rfl<;>rfl);intro w6 hb6 ho6;rw[Qao _ _ (by simp)]at hb6)
    | fail)
   have B6:=B5.write 0 rfl ho6 hb6
   clear B5 ho6 hb6
   go_loopw [13] (fun i wr=>∃j:Nat,j≤4∧i= .int .i64 j∧Bag w wr [(g12,257,[W32 q0,W32 q1,W32 q2,W32 q3]),(g11,255,[.int .i64 p0,.int .i64 p1,.int .i64 p2,.int .i64 p3]),(g9,256,plcV),(go,96,S.map W32++ro),(gs,96,(st4 T p0 p1 p2 p3 (q0,q1,q2,q3) j).map W32++rs)]) (fun i _=>4-(intOf i).toNat)
   case atStart=>exact⟨0,by omega,rfl,B6⟩
   case round=>
    clear B6
    obtain⟨j,hj,rfl,B⟩:=hrel
    by_cases hjl:j<4
    ·have y0:=(B.nth 1 rfl).cellD 0 rfl
     have y1:=(B.nth 1 rfl).cellD 1 rfl
     have y2:=(B.nth 1 rfl).cellD 2 rfl
     have y3:=(B.nth 1 rfl).cellD 3 rfl
     have z0:=(B.nth 0 rfl).cellD 0 rfl
     have z1:=(B.nth 0 rfl).cellD 1 rfl
     have z2:=(B.nth 0 rfl).cellD 2 rfl
     have z3:=(B.nth 0 rfl).cellD 3 rfl
     have hj4:j=0∨j=1∨j=2∨j=3:=by omega
     clear hj hjl
     rcases hj4 with rfl|rfl|rfl|rfl
     ·go_wp2_with fail
      refine Qad [] [0,1,2,3,4,5,6,7] [8] (by as_aux_lemma=>kernel_rfl) (by as_aux_lemma=>kernel_rfl) (by intro _ _ d _ _ h;cases d<;>exact h) ?_
      simp only[Qai,pick,QCo,QCp,QCq,QCr,QCs]
      repeat (go_big_quiet_step (fail))
      refine wpQuiet_nil ?_
      go_wp2_with (first
       | (refine Qac rfl rfl _ _ _ rfl gs p0 _ _ (B.drew.nth 4 rfl) rfl (by rw[QCB,QCt,QcO];omega) rfl Qbx ?_;intro v' w7 hv' hb7 ho7;simp[go_sem]at hv';subst hv')
       | fail)
      go_roundw
      case rel=>
       refine⟨0+1,by omega,by go_num,?_⟩
       rw[QDD _ _ (by rw[QCt,QcO];omega),QdO]at hb7
       exact B.drew.write 4 rfl ho7 hb7
      case measure=>simp[intOf];try omega
     ·go_wp2_with fail
      refine Qad [] [0,1,2,3,4,5,6,7] [8] (by as_aux_lemma=>kernel_rfl) (by as_aux_lemma=>kernel_rfl) (by intro _ _ d _ _ h;cases d<;>exact h) ?_
      simp only[Qai,pick,QCo,QCp,QCq,QCr,QCs]
      repeat (go_big_quiet_step (fail))
      refine wpQuiet_nil ?_
      go_wp2_with (first
       | (refine Qac rfl rfl _ _ _ rfl gs p1 _ _ (B.drew.nth 4 rfl) rfl (by rw[QCB,QCt,QcO];omega) rfl Qbx ?_;intro v' w7 hv' hb7 ho7;simp[go_sem]at hv';subst hv')
       | fail)
      go_roundw
      case rel=>
       refine⟨1+1,by omega,by go_num,?_⟩
       rw[QDD _ _ (by rw[QCt,QcO];omega),QdO]at hb7
       exact B.drew.write 4 rfl ho7 hb7
      case measure=>simp[intOf];try omega
     ·go_wp2_with fail
      refine Qad [] [0,1,2,3,4,5,6,7] [8] (by as_aux_lemma=>kernel_rfl) (by as_aux_lemma=>kernel_rfl) (by intro _ _ d _ _ h;cases d<;>exact h) ?_
      simp only[Qai,pick,QCo,QCp,QCq,QCr,QCs]
      repeat (go_big_quiet_step (fail))
      refine wpQuiet_nil ?_
      go_wp2_with (first
       | (refine Qac rfl rfl _ _ _ rfl gs p2 _ _ (B.drew.nth 4 rfl) rfl (by rw[QCB,QCt,QcO];omega) rfl Qbx ?_;intro v' w7 hv' hb7 ho7;simp[go_sem]at hv';subst hv')
       | fail)
      go_roundw
      case rel=>
       refine⟨2+1,by omega,by go_num,?_⟩
       rw[QDD _ _ (by rw[QCt,QcO];omega),QdO]at hb7
       exact B.drew.write 4 rfl ho7 hb7
      case measure=>simp[intOf];try omega
     ·go_wp2_with fail
      refine Qad [] [0,1,2,3,4,5,6,7] [8] (by as_aux_lemma=>kernel_rfl) (by as_aux_lemma=>kernel_rfl) (by intro _ _ d _ _ h;cases d<;>exact h) ?_
      simp only[Qai,pick,QCo,QCp,QCq,QCr,QCs]
      repeat (go_big_quiet_step (fail))
      refine wpQuiet_nil ?_
      go_wp2_with (first
       | (refine Qac rfl rfl _ _ _ rfl gs p3 _ _ (B.drew.nth 4 rfl) rfl (by rw[QCB,QCt,QcO];omega) rfl Qbx ?_;intro v' w7 hv' hb7 ho7;simp[go_sem]at hv';subst hv')
       | fail)
      go_roundw
      case rel=>
       refine⟨3+1,by omega,by go_num,?_⟩
       rw[QDD _ _ (by rw[QCt,QcO];omega),QdO]at hb7
       exact B.drew.write 4 rfl ho7 hb7
      case measure=>simp[intOf];try omega
    ·obtain rfl:4=j:=by omega
     go_wp2_with fail
     go_roundw
     case rel=>
      refine⟨k+1,by omega,by go_num,?_⟩
      rw[hTT.out,HST'.out]
      exact B.drop 2
     case measure=>simp[intOf];omega
  ·obtain rfl:80=k:=by omega
   have hFl:=hsl'.out 80
   generalize stR S 80=F at *
   have hCs:=hid (Qgh F S)
   have hCl:=hid (QdE F S)
   have hC0:=hid (show Qd3 F S 0=[] from rfl)
   have hpu:=hid QwV
   clear hst hsl' hqr hL
   go_wp2_with fail
   have hown0:wr.ownsRow wr.heap.size 5 1 (.slice none 0 0) 0 ([].map W8):=World.ownsRow_nil wr _ _ 1
   obtain⟨w9,hw9⟩:∃w9,w9=wr:=⟨_,rfl⟩
   subst hw9
   go_loopw [14,15] (fun v i wr=>∃(k:Nat) (A':Option Addr) (c':Nat),k≤16∧i= .int .i64 k∧v= .slice A' (4*k) c'∧OwnB wr w9.heap.size A' (4*k) c' (Qd3 F S k)∧Later w9 wr) (fun _ i _=>16-(intOf i).toNat)
   case atStart=>exact⟨0,none,0,by omega,rfl,rfl,by rw[hC0.out];exact hown0,Later.refl _⟩
   case round=>
    clear hown0
    obtain⟨k,A6,c6,hk6,rfl,rfl,hown,L⟩:=hrel
    by_cases hlt:k<16
    ·have HCS:=hid (hCs.out k)
     have z0:=((B.nth 2 rfl).later L).cellD k (u:=W32 (wAt F k)) (by rw[QCD (by rw[QCt];omega)];exact Qew (by omega))
     have z1:=((B.nth 1 rfl).later L).cellD k (u:=W32 (wAt S k)) (by rw[QCD (by rw[QCt];omega)];exact Qew (by omega))
     generalize wAt F k=xf at *
     generalize wAt S k=xs at *
     generalize Qd3 F S k=O at *
     go_wp2_with fail
     refine Qad [([0,1,2,3,4,5,6,7,8,9],10)] [11,12,13,14,15] [] (by as_aux_lemma=>kernel_rfl) (by as_aux_lemma=>kernel_rfl) (by intro _ _ d _ _ h;cases d<;>exact h) ?_
     simp only[Qai,pick,QCo,QCp,QCq,QCr,QCs]
     repeat (go_big_quiet_step (fail))
     refine wpQuiet_nil ?_
     go_wp2_with fail
     (refine (hpu.out (xf+xs) _ (by simp) _).mono ?_);rintro e w5 ⟨A5,c5,rfl,hown5,j5⟩
     go_wp2_with fail
     try refine⟨by first|assumption|exact Qab _|exact Qaa _ _|exact Later.refl _,?_⟩
     try simp only[Qai,pick,QCo,QCp,QCq,QCr,QCs]
     repeat (go_big_quiet_step (fail))
     refine wpQuiet_nil ?_
     go_wp2_with (first
      | (refine Qas rfl _ _ _ rfl 5 _ 1 Tryz.underlying32 QbW rfl w9 _ (4*k) _ (hown.later ((Qab _).trans j5)) (L.trans ((Qab _).trans j5)) A5 4 c5 _ hown5.rd (QaE _) rfl rfl (by omega) (by omega) ?_;intro A7 c7 w7 hown7 hl7 hg7 _)
      | fail)
     have hown8:OwnB w7 w9.heap.size A7 (4*k+4) c7 (O++le4 (xf+xs)):=Qdc hown7
     rw[←HCS.out]at hown8
     go_roundw
     case rel=>(repeat apply Exists.intro);exact⟨⟨k+1,A7,c7,by omega,by go_num,rfl,hown8,hl7⟩,rfl⟩
     case measure=>simp[intOf];omega
    ·obtain rfl:16=k:=by omega
     rw[←hC.out]at hown
     have hsz:=B.lat.size
     go_wp2_with fail
     go_ret
     exact⟨_,_,rfl,hown.mono hsz,B.lat.trans L⟩
set_option maxRecDepth 100000 in
set_option maxHeartbeats 4000000 in
theorem Qg1 (A:Option Addr) (c n:Nat) (key:List UInt8) (w:World) (hk:RdB w A 32 key) (hn:n≤65536):
 Calls Tryz.prog 92 #[.slice A 32 c,.int .i64 0,.int .i64 n] w fun e w'=>∃A' c',e= .returned (.slice A' n c')∧OwnB w' w.heap.size A' n c' (chaS key n)∧Later w w':=by
 have hB:=hid (fun B d ctr (w':World) (hl:Later w w') hn=>QpT A B c d key (QCn 12 0) ctr w' (hk.later hl) hn)
 have hs1:=hid (Qgp key)
 have hl1:=hid (QdM key)
 have hS:=hid (Qk9 key n)
 have h0:=hid (show chaF key 0=[] from rfl)
 have hSl:=QbZ key n
 go_enter Tryz.func92,Tryz.ntmps92
 go_wp2_with fail
 go_loopw [7,8] (fun v i wr=>∃(k:Nat) (A':Option Addr) (c':Nat),k≤1025∧i= .int .i64 k∧v= .slice A' (64*k) c'∧64*k<n+64∧OwnB wr w.heap.size A' (64*k) c' (chaF key k)∧Later w wr) (fun v _ _=>n-lenOf v)
 case atStart=>exact⟨0,none,0,by omega,rfl,rfl,by omega,by rw[h0.out];exact Qay _ _ _,Later.refl w⟩
 case round=>
  obtain⟨k,A6,c6,hk6,rfl,rfl,hmk,hown,L⟩:=hrel
  by_cases hlt:64*k<n
  ·have hcmp:64*(k:Int)<(n:Int):=by omega
   have hcv:=QiV k
   have hb:=hid (hs1.out k)
   generalize chaF key k=Fk at *
   go_wp2_with (first
    | (refine QaH rfl _ _ _ rfl 5 _ 1 Tryz.underlying32 QbW rfl _ _ _ _ 12 rfl rfl rfl rfl (by omega) (by omega) ?_;intro w1 hb1 hl1')
    | fail)
   have hno:RdB w1 (some ⟨wr.heap.size,0,none⟩) 12 (QCn 12 0):=hb1.rd rfl
   (refine (hB.out _ _ (QCW k) _ (L.trans hl1') hno).mono ?_);rintro e w4 ⟨A9,c9,rfl,hown9,j9⟩
   have hrd9:=hown9.rd
   generalize chaB key (QCn 12 0) (QCW k)=Bk at *
   go_wp2_with (first
    | (refine Qas rfl _ _ _ rfl 5 _ 1 Tryz.underlying32 QbW rfl w _ (64*k) _ (hown.later (hl1'.trans j9)) ((L.trans hl1').trans j9) A9 64 c9 _ hrd9 (QaE _) rfl rfl (by omega) (by omega) ?_;intro A7 c7 w7 hown7 hl7 hg7 _)
    | fail)
   have hown8:OwnB w7 w.heap.size A7 (64*k+64) c7 (Fk++Bk):=Qdc hown7
   rw[←hb.out]at hown8
   go_roundw
   case rel=>exact⟨k+1,A7,c7,by omega,by go_num,rfl,by omega,hown8,hl7⟩
   case measure=>simp only[lenOf];omega
  ·have hcmp: ¬ 64*(k:Int)<(n:Int):=by omega
   have hE:=hid (hS.out k (by omega))
   have hcut:∀W,(Instr.sliceAt 32 (.slice A6 (64*k) c6) (some (.int .i64 0)) (some (.int .i64 (n:Int))) none).run Tryz.prog W= .ok (.slice A6 n c6) W:=fun W=>by
    have hcap:=hown.cap
    have h:=cut8 A6 (64*k) c6 .i64 .i64 0 n (by omega) (by omega) W
    simpa [QiX] using h
   have hrd:=hown.rd.take (m:=n) (by omega)
   rw[←hE.out]at hrd
   go_wp2_with fail
   (refine (Qcf A6 n c6 _ _ hrd (by omega)).mono ?_);rintro e w8 ⟨A8,c8,rfl,hown8,j8⟩
   go_wp2_with fail
   go_ret
   exact⟨_,_,rfl,hown8.mono L.size,L.trans j8⟩
def xorB (xs ys:List UInt8):List UInt8:=List.zipWith (· ^^^ ·) xs ys
theorem QbB {xs ys:List UInt8} (h:xs.length=ys.length):(xorB xs ys).length=ys.length:=by simp[xorB,h]
def Qfd (xs ys:List UInt8) (k:Nat):List UInt8:=(xorB xs ys).take k++xs.drop k
theorem Qd4 {xs ys:List UInt8} (h:xs.length=ys.length) (k:Nat) (hk:k≤xs.length):(Qfd xs ys k).length=xs.length:=by
 have:=QbB h
 simp[Qfd]
 omega
theorem QfF (xs ys:List UInt8):Qfd xs ys 0=xs:=by simp[Qfd]
theorem Qgx {xs ys:List UInt8} (h:xs.length=ys.length):Qfd xs ys xs.length=xorB xs ys:=by
 have:=QbB h
 rw[Qfd,List.drop_length,QC1,QCE (by omega)]
theorem QgN {xs ys:List UInt8} (h:xs.length=ys.length) {k:Nat} (hk:k<xs.length):(Qfd xs ys k)[k]?=some (xs.getD k 0):=by
 have:=QbB h
 rw[Qfd,QCF (by simp;omega),QCP,this,QDG (by omega),QEB,QDU,QDP,QCv hk,QCu,QCv hk]
 rfl
theorem QfD {xs ys:List UInt8} (h:xs.length=ys.length) {k:Nat} (hk:k<xs.length):(Qfd xs ys k).set k (xs.getD k 0 ^^^ ys.getD k 0)=Qfd xs ys (k+1):=by
 have hl:=QbB h
 have hg:(xorB xs ys)[k]?=some (xs.getD k 0 ^^^ ys.getD k 0):=by
  rw[xorB,List.getElem?_zipWith,QCu,QCu,QCv hk,QCv (show k<ys.length by omega)]
  rfl
 have hkx:k<(xorB xs ys).length:=by omega
 rw[Qfd,Qfd,QCX _ _ (by simp;omega),QCP,hl,QDG (by omega),QEB,QDp hk,QCy,QCY hkx,QCL]
 have:(xorB xs ys)[k]=xs.getD k 0 ^^^ ys.getD k 0:=by
  have:=QCv hkx
  rw[hg]at this
  exact (Option.some.inj this).symm
 rw[this]
 rfl
def beN:List UInt8→Nat→Nat
 | [],n=>n
 | b :: r,n=>beN r (n*256+b.toNat)
theorem Qg3:∀(p q:List UInt8) (n:Nat),beN (p++q) n=beN q (beN p n)
 | [],_,_=>rfl
 | b :: r,q,n=>by rw[QCr,beN,Qg3 r q];rfl
theorem QqK:∀(p:List UInt8) (n k:Nat),n<k→beN p n<k*256^p.length
 | [],n,k,h=>by simpa [beN] using h
 | b :: r,n,k,h=>by
   have hb:=b.toNat_lt
   have:=QqK r (n*256+b.toNat) (k*256) (by omega)
   rw[beN,QDj,QDv,QDK (256^_),←QDV]
   exact this
theorem QlL (bs:List UInt8) (k:Nat) (h:k<bs.length):bs.take (k+1)=bs.take k++[bs.getD k 0]:=by
 rw[QCY h,QCu,QCv h,QEr]
theorem Qu5 (bs:List UInt8) (k:Nat) (h:k<bs.length):beN (bs.take (k+1)) 0=beN (bs.take k) 0*256+(bs.getD k 0).toNat:=by
 rw[QlL bs k h,Qg3]
 rfl
theorem QzS (x:Nat) (b:UInt8):Qi6 (QCN x) 8 ||| b.toUInt64=QCN (x*256+b.toNat):=by
 apply QD2.1
 have e1:(Qi6 (QCN x) 8).toNat=(x%2^64*256)%2^64:=by
  show ((QCN x).toBitVec <<< 8).toNat=_
  rw[QDT,QD1]
  rfl
 have hb:=b.toNat_lt
 rw[UInt64.toNat_or,e1,UInt8.toNat_toUInt64,QCV]
 have e2:(x%2^64*256)%2^64=(x%2^56) <<< 8:=by
  rw[QD1]
  omega
 rw[e2,←Nat.shiftLeft_add_eq_or_of_lt (by omega),QD1]
 omega
theorem QvE (x:Nat) (b:UInt8):QCN x*256+b.toUInt64=QCN (x*256+b.toNat):=by
 apply QD2.1
 rw[UInt64.toNat_add,UInt64.toNat_mul,QCV,QCV,UInt8.toNat_toUInt64]
 show (x%2^64*256%2^64+b.toNat)%2^64=_
 omega
theorem QuX (x:Nat) (b:UInt8):QCW x*256+b.toUInt32=QCW (x*256+b.toNat):=by
 apply QEs.1
 rw[UInt32.toNat_add,UInt32.toNat_mul,QDX,QDX,UInt8.toNat_toUInt32]
 show (x%2^32*256%2^32+b.toNat)%2^32=_
 omega
theorem Qyl (x:Nat):(QCN x).toUInt32=QCW x:=by
 apply QEs.1
 rw[UInt64.toNat_toUInt32,QCV,QDX]
 show x%2^64%2^32=x%2^32
 omega
theorem QpE (q:List UInt8) (n:Nat) (h:q.length=n):xorB (QCn n 0) q=q:=by
 subst h
 induction q with
 | nil=>rfl
 | cons a q ih=>
   rw[QDj,QEj]
   show (0 ^^^ a) :: xorB (QCn q.length 0) q=_
   rw[ih,UInt8.zero_xor]
def Qgd (c:Cmd):Bool:=(c.kd==1)==(c.nx != 0)&&(c.kd==4||c.ma.val==QCn 16 0)
def cmdE (c:Cmd):Nat:=if c.kd<1∨4<c.kd then 1 else if Qgd c=false then 3 else if 1000000<c.dl then 11 else 0
def Qdt (b:List UInt8):Cmd:=⟨b.getD 0 0,b.getD 1 0,QCW (beN (subB b 2 4) 0),QCN (beN (subB b 6 8) 0),⟨((b++QCn 32 0).drop 14).take 16,by simp⟩⟩
theorem Qp7 (b:List UInt8) (h:b.length=32):(Qdt b).ma.val=subB b 14 16:=by
 show ((b++QCn 32 0).drop 14).take 16=_
 rw[QDu (by omega),QDk (by rw[QCS];omega)]
 rfl
def decE (b:List UInt8):Nat:=if cmdE (Qdt b)≠1∧(b.getD 30 0≠0∨b.getD 31 0≠0) then 3 else cmdE (Qdt b)
def decC (b:List UInt8):Cmd:=if decE b=0 then Qdt b else cmd0
set_option maxRecDepth 100000 in
theorem Qqf (k:Nat) (hk:1≤k) (h8:k≤8) (w:World):Calls Tryz.prog 59 #[.int .i64 2,.int .i64 (k:Int)] w fun e w'=>e= .returned (.bool true)∧Later w w':=by
 have h1:decide ((1:Int)≤(k:Int))=true:=decide_eq_true (by omega)
 have h2:decide ((k:Int)≤8)=true:=decide_eq_true (by omega)
 go_enter Tryz.func59,Tryz.ntmps59
 go_wp2
 go_ret
 exact⟨rfl,Later.refl w⟩
theorem QcL (bs:List UInt8) (o k:Nat) (h:o+k<bs.length):beN (subB bs o (k+1)) 0=beN (subB bs o k) 0*256+(bs.getD (o+k) 0).toNat:=by
 rw[subB,Qu5 _ _ (by rw[QCS];omega)]
 show _=beN ((bs.drop o).take k) 0*256+_
 congr 2
 rw[QCu,QCu,QDU]
set_option maxRecDepth 100000 in
set_option maxHeartbeats 4000000 in
theorem QhI (A:Option Addr) (n c o k:Nat) (bs:List UInt8) (w:World) (hb:RdB w A n bs) (hn:n≤140737488355328) (hk:1≤k) (h8:k≤8) (ho:o+k≤n):
 Calls Tryz.prog 45 #[.int .i64 2,.slice A n c,.int .i64 (o:Int),.int .i64 (k:Int)] w fun e w'=>e= .returned (.tuple #[W64 (QCN (beN (subB bs o k) 0)),.int .i64 0])∧Later w w':=by
 have hbl:=hb.len
 have h1:decide ((n:Int)<(o:Int))=false:=decide_eq_false (by omega)
 have h2:decide ((n:Int)-(o:Int)<(k:Int))=false:=decide_eq_false (by omega)
 have h3:decide ((o:Int)<0)=false:=decide_eq_false (by omega)
 have hs:=hid (fun j=>QcL bs o j)
 have hr:=hid (fun j=>QzS (beN (subB bs o j) 0))
 have h0:beN (subB bs o 0) 0=0:=rfl
 go_enter Tryz.func45,Tryz.ntmps45
 go_wp2_with fail
 refine (Qqf k hk h8 _).mono ?_
 rintro e w1 ⟨rfl,L1⟩
 go_wp2_with fail
 go_loopw [10,11] (fun v i wr=>∃j:Nat,j≤k∧i= .int .i64 j∧v=W64 (QCN (beN (subB bs o j) 0))∧Later w wr) (fun _ i _=>k-(intOf i).toNat)
 case atStart=>exact⟨0,by omega,rfl,by rw[h0];rfl,L1⟩
 case round=>
  clear L1
  obtain⟨j,hj,rfl,rfl,L⟩:=hrel
  by_cases hlt:j<k
  ·have hrd:=hb.later L
   have hs':=hs.out j (by omega)
   have hr':=hr.out j (bs.getD (o+j) 0)
   rw[←hs']at hr'
   replace hr':=hid hr'
   clear hs' hs hr
   obtain⟨b,p,rfl,hlb,hc⟩:=hrd.2 (by omega)
   have hcell:=hc (o+j) (W8 (bs.getD (o+j) 0)) (by rw[QCH,QCu,QCv (by omega)];rfl)
   generalize bs.getD (o+j) 0=z at *
   go_wp2
   exact⟨⟨j+1,by omega,by go_num,by rw[←hr'.out],L⟩,by simp[intOf];omega⟩
  ·obtain rfl:j=k:=by omega
   go_wp2
   go_ret2
   exact⟨rfl,L⟩
def x2 (xs ys:List UInt8):Nat→List UInt8
 | 0=>QCn xs.length 0
 | 1=>xs
 | _=>xorB xs ys
theorem Qte {xs ys:List UInt8} (h:xs.length=ys.length):∀k,(x2 xs ys k).length=xs.length
 | 0=>by simp[x2]
 | 1=>rfl
 | k+2=>by
   show (xorB xs ys).length=_
   rw[QbB h,h]
theorem Qxl {xs ys:List UInt8}:∀k,k<2→xorB (x2 xs ys k) ([xs,ys].getD k [])=x2 xs ys (k+1)
 | 0,_=>QpE _ _ rfl
 | 1,_=>rfl
theorem Qnz {xs ys:List UInt8} (h:xs.length=ys.length) (k:Nat) (hk:k<2):([xs,ys].getD k []).length=xs.length:=by
 match k,hk with
 | 0,_=>rfl
 | 1,_=>exact h.symm
set_option maxRecDepth 100000 in
set_option maxHeartbeats 4000000 in
theorem Qsx (B:Option Addr) (d n:Nat) (xs ys:List UInt8) (w:World) (hp:Parts w (fun _=>False) B 2 [xs,ys]) (hx:xs.length=n) (hy:ys.length=n) (hn:n≤1048576):
 Calls Tryz.prog 133 #[.slice B 2 d] w fun e w'=>∃A' c',e= .returned (.tuple #[.slice A' n c',.int .i64 0])∧OwnB w' w.heap.size A' n c' (xorB xs ys)∧Later w w':=by
 have hxy:xs.length=ys.length:=by omega
 have hm:=hid (fun k hk=>(Qnz hxy k hk).trans hx)
 have hst:=hid (fun k (hk:k<2) (Xk:List UInt8) (hX:[xs,ys].getD k []=Xk)=>show xorB (x2 xs ys k) Xk=x2 xs ys (k+1) by rw[←hX];exact Qxl k hk)
 have hsl:=hid (fun k=>(Qte hxy k).trans hx)
 have h0:x2 xs ys 0=QCn n 0:=by rw[x2,hx]
 have h2:x2 xs ys 2=xorB xs ys:=rfl
 have hRl:=hid ((QbB hxy).trans hy)
 generalize xorB xs ys=R at *
 go_enter Tryz.func133,Tryz.ntmps133
 go_wp2_with fail
 go_loopw [5,16] (fun _ i wr=>∃k:Nat,k≤2∧i= .int .i64 k∧Later w wr) (fun _ i _=>2-(intOf i).toNat)
 case atStart=>exact⟨0,by omega,rfl,Later.refl w⟩
 case round=>
  obtain⟨k,hk,rfl,L⟩:=hrel
  by_cases hlt:k<2
  ·obtain⟨b,o,Ak,nk,ck,rfl,hb,hck,hcap,hrd,_⟩:=(hp.later L).at_ hlt
   obtain⟨b',o',A0,n0,c0,he,hb',hck',hcap',hrd',_⟩:=(hp.later L).at_ (show 0<2 by omega)
   simp only[Option.some.injEq,Addr.mk.injEq,and_true]at he
   obtain⟨rfl,rfl⟩:=he
   rw[QDP]at hck'
   obtain rfl:nk=n:=by rw[←hrd.len];exact hm.out k hlt
   obtain rfl:n0=nk:=by rw[←hrd'.len];exact hm.out 0 (by omega)
   go_wp2
   exact⟨⟨k+1,by omega,by go_num,L⟩,by simp[intOf];omega⟩
  ·obtain⟨b',o',A0,n0,c0,rfl,hb',hck',hcap',hrd',_⟩:=(hp.later L).at_ (show 0<2 by omega)
   rw[QDP]at hck'
   obtain rfl:n0=n:=by rw[←hrd'.len];exact hm.out 0 (by omega)
   clear hrd'
   go_wp2_with (first
    | (refine QaH rfl _ _ _ rfl 5 _ 1 Tryz.underlying32 QbW rfl _ _ _ _ n0 rfl rfl rfl rfl (by omega) (by omega) ?_;intro w1 hb1 hl1')
    | fail)
   have hz:QCn n0 (Value.int .u8 0)=(x2 xs ys 0).map W8:=by rw[h0,QC8];rfl
   replace hb1:Blk w1 wr.heap.size 5 ((x2 xs ys 0).map W8):=by rw[←hz];exact hb1
   have hgw:w.heap.size≤wr.heap.size:=L.size
   replace L:=L.trans hl1'
   clear hz h0 hl1' hck' hb'
   generalize wr.heap.size=g at *
   go_loopw [8,9,10,35] (fun _ _ _ i wr=>∃k:Nat,k≤2∧i= .int .i64 k∧Blk wr g 5 ((x2 xs ys k).map W8)∧Later w wr) (fun _ _ _ i _=>2-(intOf i).toNat)
   case atStart=>exact⟨0,by omega,rfl,hb1,L⟩
   case round=>
    clear hb1 L
    obtain⟨k,hk,rfl,hb1,L⟩:=hrel
    by_cases hlt:k<2
    ·obtain⟨b,o,Ak,nk,ck,he,hb,hck,hcap,hrd,_⟩:=hp.at_ hlt
     simp only[Option.some.injEq,Addr.mk.injEq,and_true]at he
     obtain⟨rfl,rfl⟩:=he
     obtain rfl:nk=n0:=by rw[←hrd.len];exact hm.out k hlt
     replace hck:=(L.below.cell (p:=⟨b',o'+k,none⟩) hb).trans hck
     replace hb:b'<wr.heap.size:=QCM hb L.size
     have hnext:=hst.out k hlt _ rfl
     have hyl:=hrd.len
     have hxl:=hsl.out k
     have hlen:(x2 xs ys k).length=([xs,ys].getD k []).length:=by omega
     generalize [xs,ys].getD k []=Y at *
     generalize hX':x2 xs ys (k+1)=X' at *
     generalize x2 xs ys k=X at *
     have HX':=hid hX'
     clear hX'
     have hX:=hid (fun k=>Qd4 hlen k)
     have hG:=hid (fun k (h:k<X.length)=>QgN hlen h)
     have hS:=hid (fun k (h:k<X.length)=>QfD hlen h)
     have hA:=hid (Qgx hlen)
     have hN:=hid (QfF X Y)
     go_wp2_with fail
     go_loopw [9,10,41] (fun _ _ i wr=>∃j:Nat,j≤nk∧i= .int .i64 j∧Blk wr g 5 ((Qfd X Y j).map W8)∧Later w wr) (fun _ _ i _=>nk-(intOf i).toNat)
     case atStart=>exact⟨0,by omega,rfl,by rw[hN.out];exact hb1,L⟩
     case round=>
      clear hb1 L
      obtain⟨j,hj,rfl,hb1,L⟩:=hrel
      by_cases hjt:j<nk
      ·obtain⟨b2,o2,rfl,hb2,hc2⟩:=RdB.at_ (hrd.later L) (by omega)
       have c1:=hc2 j hjt
       have hxk:=hX.out j (by omega)
       have d1:=hb1.cellD j (by rw[QCH,hG.out j (by omega)];rfl)
       have HS:=hid (hS.out j (by omega))
       clear hc2
       generalize X.getD j 0=x at *
       generalize Y.getD j 0=y at *
       go_wp2_with (first
        | (refine Qac rfl rfl _ _ _ rfl g j _ _ hb1 rfl (by rw[QCt];omega) rfl QbR ?_;intro v' w5 hv' hb5 ho5;simp[go_sem]at hv';subst hv')
        | fail)
       rw[Qby,HS.out]at hb5
       go_roundw
       case rel=>exact⟨j+1,by omega,by go_num,hb5,L.only ho5 hgw⟩
       case measure=>simp[intOf];omega
      ·obtain rfl:j=nk:=by omega
       have hAll:=hA.out
       rw[hxl,hnext]at hAll
       rw[hAll]at hb1
       go_wp2
       exact⟨⟨k+1,by omega,by go_num,by rw[HX'.out];exact hb1,L⟩,by simp[intOf];omega⟩
    ·obtain rfl:k=2:=by omega
     rw[h2]at hb1
     go_wp2
     go_ret2
     exact⟨_,_,rfl,by
      have:=Qck hb1 hgw (by rw[QCt,hRl.out];omega)
      rw[QCt,hRl.out]at this
      exact this,L⟩
theorem QnA:(Tryz.prog.info? 35).map (·.size)=some 16:=by kernel_rfl
theorem QyN:Tryz.prog.eqGuardType Tryz.prog.depth 35=false:=by kernel_rfl
@[go_sem high] theorem Qxu (op:BinOp) (x y:Operand) (xs ys:Array Value) (w:World):(eqGuard op 35 x y (.agg xs) (.agg ys)).run Tryz.prog w= .ok () w:=run_eqGuard_agg w op _ x y xs ys QyN
@[go_sem high] theorem Qyy (x y:Y16) (w:World):(binOp .eql 35 (.agg (x.val.map W8).toArray) (.agg (y.val.map W8).toArray)).run Tryz.prog w= .ok (.bool (x.val==y.val)) w:=by
  rw[run_eql_struct,Qbe w 0 W8 9998 35 5 16 Tryz.underlying35 QbR Tryz.underlying5 rfl (QjA _ _ Tryz.underlying5) _ _ x.2 y.2]
  rfl
@[go_sem high] theorem Qyx (x y:Y16) (w:World):(binOp .neq 35 (.agg (x.val.map W8).toArray) (.agg (y.val.map W8).toArray)).run Tryz.prog w= .ok (.bool (x.val != y.val)) w:=by
  rw[run_neq_struct,Qbe w 0 W8 9998 35 5 16 Tryz.underlying35 QbR Tryz.underlying5 rfl (QjA _ _ Tryz.underlying5) _ _ x.2 y.2]
  rfl
theorem QqO:Tryz.prog.built 35 []=some (QaV.val.map W8).toArray:=by
 show _=some ((QCn 16 (0:UInt8)).map W8).toArray
 rw[QC8]
 kernel_rfl
theorem QdJ {P:Program} {t:TypeId} {d:TypeDesc} {k:Nat} {v:Value} (hu:P.underlying t=some d) (hd:QbH d=false) {zs:List Value} (hz:zs[k]?=some v) (w:World):(part t zs.toArray k).run P w= .ok v w:=by
 have ha:(isAgg t).run P w= .ok false w:=by
  unfold isAgg
  simp only[Sem.run_bind,run_underlying hu]
  cases d<;>simp_all [QbH]
 unfold part
 simp[Sem.run_bind,ha,Result.andThen_ok,hz]
theorem Qi5 {P:Program} {d k:Nat} {t:TypeId} {f:Field} {fs:List Field} (hf:f.type=t) (hu:P.underlying t=some (.int .u64)) (hn:f.name≠ "_") {xs ys:List Value} {p q:UInt64} (ho:f.offset=k) (hp:xs[k]?=some (W64 p)) (hq:ys[k]?=some (W64 q)) (w:World):
 (Op.eqFields (d+1) xs.toArray ys.toArray (f :: fs)).run P w=if p==q then (Op.eqFields (d+1) xs.toArray ys.toArray fs).run P w else .ok false w:=by
 rw[Op.eqFields,if_pos hn]
 simp only[Sem.run_bind,hf,ho,QdJ hu rfl hp,QdJ hu rfl hq,Result.andThen_ok,Qit t _ hu d p q w]
 cases p==q<;>simp
theorem Qhs {P:Program} {d k:Nat} {t:TypeId} {f:Field} {fs:List Field} (hf:f.type=t) (hu:P.underlying t=some (.int .u8)) (hn:f.name≠ "_") {xs ys:List Value} {p q:UInt8} (ho:f.offset=k) (hp:xs[k]?=some (W8 p)) (hq:ys[k]?=some (W8 q)) (w:World):
 (Op.eqFields (d+1) xs.toArray ys.toArray (f :: fs)).run P w=if p==q then (Op.eqFields (d+1) xs.toArray ys.toArray fs).run P w else .ok false w:=by
 rw[Op.eqFields,if_pos hn]
 simp only[Sem.run_bind,hf,ho,QdJ hu rfl hp,QdJ hu rfl hq,Result.andThen_ok,QjA t _ hu d p q w]
 cases p==q<;>simp
theorem Qi4 {P:Program} {d k:Nat} {t:TypeId} {f:Field} {fs:List Field} (hf:f.type=t) (hu:P.underlying t=some (.int .u32)) (hn:f.name≠ "_") {xs ys:List Value} {p q:UInt32} (ho:f.offset=k) (hp:xs[k]?=some (W32 p)) (hq:ys[k]?=some (W32 q)) (w:World):
 (Op.eqFields (d+1) xs.toArray ys.toArray (f :: fs)).run P w=if p==q then (Op.eqFields (d+1) xs.toArray ys.toArray fs).run P w else .ok false w:=by
 rw[Op.eqFields,if_pos hn]
 simp only[Sem.run_bind,hf,ho,QdJ hu rfl hp,QdJ hu rfl hq,Result.andThen_ok,Qtc t _ hu d p q w]
 cases p==q<;>simp
def Qqc (x y:Cmd):Bool:=x.kd==y.kd&&(x.fl==y.fl&&(x.dl==y.dl&&(x.nx==y.nx&&x.ma.val==y.ma.val)))
@[go_sem] theorem Qyz (x:Cmd):Qqc x x=true:=by simp[Qqc]
theorem Qmm (x:Cmd):((CC x).drop 4).take 16=x.ma.val.map W8:=by rw[QwF,QCE (by rw[QCt,x.ma.2];omega)]
set_option maxRecDepth 100000 in
theorem QiF (x y:Cmd) (w:World) {fs:Array Field} (hu:Tryz.prog.underlying 98=some (.struct fs)):(Op.eqFields 9999 (CC x).toArray (CC y).toArray fs.toList).run Tryz.prog w= .ok (Qqc x y) w:=by
 rw[Tryz.underlying98]at hu
 cases hu
 rw[Qhs (d:=9998) (k:=0) rfl Tryz.underlying5 (by decide) rfl rfl rfl,Qhs (d:=9998) (k:=1) rfl Tryz.underlying5 (by decide) rfl rfl rfl,Qi4 (d:=9998) (k:=2) rfl Tryz.underlying96 (by decide) rfl rfl rfl,
  Qi5 (d:=9998) (k:=3) rfl Tryz.underlying31 (by decide) rfl rfl rfl,Qdi (d:=9997) (k:=4) rfl Tryz.underlying35 QnA QbR Tryz.underlying5 (by decide) rfl (Qmm x) (Qmm y) x.ma.2 y.ma.2,Qdf]
 rw[Qqc]
 cases x.kd==y.kd<;>cases x.fl==y.fl<;>cases x.dl==y.dl<;>cases x.nx==y.nx<;>cases x.ma.val==y.ma.val<;>rfl
theorem Qxe:Tryz.prog.eqGuardType Tryz.prog.depth 98=false:=by kernel_rfl
@[go_sem high] theorem Qx1 (op:BinOp) (x y:Operand) (xs ys:Array Value) (w:World):(eqGuard op 98 x y (.agg xs) (.agg ys)).run Tryz.prog w= .ok () w:=run_eqGuard_agg w op _ x y xs ys Qxe
set_option maxRecDepth 100000 in
@[go_sem high] theorem QwI (x y:Cmd) (w:World):(binOp .eql 98 (.agg (CC x).toArray) (.agg (CC y).toArray)).run Tryz.prog w= .ok (.bool (Qqc x y)) w:=by
  rw[QgR Tryz.underlying98 (by kernel_rfl),QiF x y w Tryz.underlying98]
  rfl
set_option maxRecDepth 100000 in
@[go_sem high] theorem QwX (x y:Cmd) (w:World):(binOp .neq 98 (.agg (CC x).toArray) (.agg (CC y).toArray)).run Tryz.prog w= .ok (.bool (!Qqc x y)) w:=by
  rw[QiT Tryz.underlying98 (by kernel_rfl),QiF x y w Tryz.underlying98]
  rfl
theorem Qdx:(Tryz.prog.info? 98).map (·.size)=some 20:=by kernel_rfl
theorem QyR:(Tryz.prog.info? 98).bind (·.zero)=some (.agg (CC cmd0).toArray):=by kernel_rfl
theorem QsI (x:Cmd):∀u∈CC x,u.oneCell'=true:=by
 intro u hu
 simp only[CC,QCQ,QC7]at hu
 rcases hu with rfl|rfl|rfl|rfl|⟨b,_,rfl⟩<;>rfl
theorem QfL:Tryz.prog.built 98 []=some (CC cmd0).toArray:=by
 rw[QaO (pl:=[(0,1),(1,1),(2,1),(3,1),(4,16)]) Tryz.underlying98 QyR (by kernel_rfl),QbM]
theorem Qjx (k f:UInt8):Tryz.prog.built 98 [(0,W8 k),(1,W8 f)]=some (CC ⟨k,f,0,0,QaV⟩).toArray:=by
 rw[QaO (pl:=[(0,1),(1,1),(2,1),(3,1),(4,16)]) Tryz.underlying98 QyR (by kernel_rfl),QaS (vs:=[W8 k]) (off:=0) rfl rfl (by rw[Qam];simp),QaS (vs:=[W8 f]) (off:=1) rfl rfl (by rw[Qbr _ _ _ (by rw[Qam];simp),Qam];simp),QbM]
 rfl
section
variable {ops:Array Oper} {rest:List Oper} {o:Oper} {a:Act} {w:World} {Q:Exit→Act→World→Prop}
theorem QbJ (hgd:o.guard=none) (hd:o.dst=none) (x y:Operand) (ho:o.op= .store 98 x y) {g:Nat} {t:TypeId} {l:List Value} {z:Cmd} (hg:Blk w g t l) (hx:a.eval x= .pointer (some ⟨g,0,none⟩)) (hy:a.eval y= .agg (CC z).toArray) (hl:l.length=20)
 (h:∀w',Blk w' g t (CC z)→Only g w w'→wpList Tryz.prog ops Q rest a w'):wpList Tryz.prog ops Q (o :: rest) a w:=
 Qaf hgd hd _ x y ho g t l _ hg hx hy 20 Qdx (Qam _) hl (QsI _) h
theorem Qep (hw:Region.wanted o (yielded ops a.tmps)=true) (x:Operand) (ho:o.op= .load 98 x) {g:Nat} {t:TypeId} {z:Cmd} (hb:Blk w g t (CC z)) (hx:a.eval x= .pointer (some ⟨g,0,none⟩))
 (h:wpList Tryz.prog ops Q rest (a.put o.dst (.agg (CC z).toArray)) w):wpList Tryz.prog ops Q (o :: rest) a w:=
 Qal hw _ x ho g 0 _ (fun j v hv=>by rw[QCI];exact hb.cellD j hv) hx _ Tryz.underlying98 rfl (by rw[Qam];exact Qdx) h
theorem Qmy (hw:Region.wanted o (yielded ops a.tmps)=true) (x:Operand) (ho:o.op= .load 35 x) {g off:Nat} {y:Y16} (hc:∀j v,(y.val.map W8)[j]?=some v→w.cell? ⟨g,off+j,none⟩=some v) (hx:a.eval x= .pointer (some ⟨g,off,none⟩))
 (h:wpList Tryz.prog ops Q rest (a.put o.dst (.agg (y.val.map W8).toArray)) w):wpList Tryz.prog ops Q (o :: rest) a w:=
 Qal hw _ x ho g off _ hc hx _ Tryz.underlying35 rfl (by rw[QCt,y.2];exact QnA) h
end
theorem QdK {w:World} {g:Nat} {t:TypeId} {c:Cmd} (h:Blk w g t (CC c)):w.cell? ⟨g,0,none⟩=some (W8 c.kd)∧w.cell? ⟨g,1,none⟩=some (W8 c.fl)∧w.cell? ⟨g,2,none⟩=some (W32 c.dl)∧w.cell? ⟨g,3,none⟩=some (W64 c.nx)∧(∀ j v,(c.ma.val.map W8)[j]?=some v→w.cell? ⟨g,4+j,none⟩=some v):=
 ⟨h.cellD 0 rfl,h.cellD 1 rfl,h.cellD 2 rfl,h.cellD 3 rfl,fun j v hv=>h.cellD _ (by rw[show 4+j=j+1+1+1+1 by omega,CC];exact hv)⟩
set_option maxRecDepth 100000 in
set_option maxHeartbeats 1000000 in
theorem Qp0 (c:Cmd) (w:World):Calls Tryz.prog 134 #[.agg (CC c).toArray] w fun e w'=>e= .returned (.bool (Qgd c))∧Later w w':=by
 have hb:Blk (w.alloc (.cells (CC c).toArray 98)) w.heap.size 98 (CC c):=Blk.new _ _ _
 obtain⟨c0,_,_,c3,c4⟩:=QdK hb
 have L:=Qaa w (.cells (CC c).toArray 98)
 have hz:=QqO
 rw[Qgd,show QCn 16 (0:UInt8)=QaV.val from rfl]
 clear hb
 go_enter Tryz.func134,Tryz.ntmps134
 generalize c.kd=kd at *
 generalize c.nx=nx at *
 generalize c.ma=mk at *
 generalize QaV=z at *
 have hn:(nx != 0)= !(nx==0):=rfl
 rw[hn]
 cases h1:(kd==1)<;>cases h2:(nx==0)<;>cases h4:(kd==4)
 all_goals
  go_wp2_with (first
   | (refine Qmy rfl _ rfl c4 rfl ?_)
   | (refine Qah rfl _ _ rfl (z.val.map W8) (by simp only[QCA,QCC];exact hz) ?_)
   | fail)
  go_ret
  exact⟨rfl,L⟩
set_option maxRecDepth 100000 in
set_option maxHeartbeats 1000000 in
theorem Qpq (c:Cmd) (w:World):Calls Tryz.prog 108 #[.agg (CC c).toArray] w fun e w'=>e= .returned (.int .i64 (cmdE c:Nat))∧Later w w':=by
 have hb:Blk (w.alloc (.cells (CC c).toArray 98)) w.heap.size 98 (CC c):=Blk.new _ _ _
 obtain⟨c0,_,c2,_,_⟩:=QdK hb
 have L:=Qaa w (.cells (CC c).toArray 98)
 have hS:=hid (Qp0 c)
 have hE:cmdE c=if c.kd<1∨4<c.kd then 1 else if Qgd c=false then 3 else if 1000000<c.dl then 11 else 0:=rfl
 generalize Qgd c=sh at *
 by_cases h1:c.kd<1
 ·rw[if_pos (.inl h1)]at hE
  rw[hE]
  clear hE
  go_enter Tryz.func108,Tryz.ntmps108
  go_wp2_with fail
  go_ret
  exact⟨rfl,L⟩
 by_cases h4:4<c.kd
 ·rw[if_pos (.inr h4)]at hE
  rw[hE]
  clear hE
  go_enter Tryz.func108,Tryz.ntmps108
  go_wp2_with fail
  go_ret
  exact⟨rfl,L⟩
 rw[if_neg (by rintro (h|h)<;>contradiction)]at hE
 cases sh
 ·rw[if_pos rfl]at hE
  rw[hE]
  clear hE
  go_enter Tryz.func108,Tryz.ntmps108
  go_wp2_with (first
   | (refine Qep rfl _ rfl hb rfl ?_)
   | fail)
  refine (hS.out _).mono ?_
  rintro e w1 ⟨rfl,l1⟩
  go_wp2_with fail
  go_ret
  exact⟨rfl,L.trans l1⟩
 rw[if_neg (by decide)]at hE
 by_cases hd:1000000<c.dl
 ·rw[if_pos hd]at hE
  rw[hE]
  clear hE
  go_enter Tryz.func108,Tryz.ntmps108
  go_wp2_with (first
   | (refine Qep rfl _ rfl hb rfl ?_)
   | fail)
  refine (hS.out _).mono ?_
  rintro e w1 ⟨rfl,l1⟩
  replace c2:=(l1.below.cell (p:=⟨w.heap.size,2,none⟩) hb.lt).trans c2
  go_wp2_with fail
  go_ret
  exact⟨rfl,L.trans l1⟩
 ·rw[if_neg hd]at hE
  rw[hE]
  clear hE
  go_enter Tryz.func108,Tryz.ntmps108
  go_wp2_with (first
   | (refine Qep rfl _ rfl hb rfl ?_)
   | fail)
  refine (hS.out _).mono ?_
  rintro e w1 ⟨rfl,l1⟩
  replace c2:=(l1.below.cell (p:=⟨w.heap.size,2,none⟩) hb.lt).trans c2
  go_wp2_with fail
  go_ret
  exact⟨rfl,L.trans l1⟩
def FC (key:List UInt8) (n:Nat):List Value:=key.map W8++[.int .i64 (n:Int)]
theorem QsG {key:List UInt8} (h:key.length=32) (n:Nat):(FC key n).length=33:=by simp[FC,h]
theorem Qmx {key:List UInt8} (h:key.length=32) (n:Nat):(FC key n)[32]?=some (.int .i64 (n:Int)):=by
 rw[FC,QCF (by rw[QCt,h];omega),QCt,h]
 rfl
theorem QzW {key:List UInt8} (h:key.length=32) (n m:Nat):(FC key n).set 32 (.int .i64 (m:Int))=FC key m:=by
 rw[FC,QCX _ _ (by rw[QCt,h];omega),QCt,h]
 rfl
set_option maxRecDepth 100000 in
set_option maxHeartbeats 4000000 in
theorem QuR (A:Option Addr) (c:Nat) (key:List UInt8) (w:World) (hk:RdB w A 32 key):
 Calls Tryz.prog 106 #[.slice A 32 c] w fun e w'=>∃g,e= .returned (.tuple #[.pointer (some ⟨g,0,none⟩),.int .i64 0])∧w.heap.size≤g∧Blk w' g 246 (FC key 0)∧Later w w':=by
 have hkl:=hk.len
 have hz:Tryz.prog.built 246 []=some (QCn 32 (Value.int .u8 0)++[Value.int .i64 0]).toArray:=by kernel_rfl
 have hsp:Qau (QCn 32 (Value.int .u8 0)++[Value.int .i64 0]) 0 ((key.map W8).take 32)=FC key 0:=by
  rw[QCE (by rw[QCt];omega),Qau,QCt,hkl,FC]
  rfl
 have hb:=Blk.new w 246 (QCn 32 (Value.int .u8 0)++[Value.int .i64 0])
 have L:=Qaa w (.cells (QCn 32 (Value.int .u8 0)++[Value.int .i64 0]).toArray 246)
 have hll:(QCn 32 (Value.int .u8 0)++[Value.int .i64 0]).length=33:=by simp
 generalize QCn 32 (Value.int .u8 0)++[Value.int .i64 0]=Z at *
 go_enter Tryz.func106,Tryz.ntmps106
 go_wp2_with (first
  | (refine Qaq rfl _ _ rfl Z ?hb ?_;(case hb=>simp only[QCA,QCC];exact hz))
  | (refine Qax rfl _ _ _ _ rfl 5 Tryz.underlying32 QbR w.heap.size 0 32 32 _ _ hb A 32 c (key.map W8) (hk.later L) (QaE _) rfl rfl (by omega) ?_;intro w2 hb2 ho2;rw[hsp]at hb2)
  | fail)
 go_ret2
 exact⟨_,rfl,QCx _,hb2,L.only ho2 (QCx _)⟩
set_option maxRecDepth 100000 in
set_option maxHeartbeats 4000000 in
theorem QrC (g n:Nat) (key:List UInt8) (w0 w:World) (hb:Blk w g 246 (FC key 0)) (hk:key.length=32) (hl:Later w0 w) (hg:w0.heap.size≤g) (hn:n≤65536):
 Calls Tryz.prog 132 #[.pointer (some ⟨g,0,none⟩),.int .i64 (n:Int)] w fun e w'=>∃A' c',e= .returned (.tuple #[.slice A' n c',.int .i64 0])∧OwnB w' w0.heap.size A' n c' (chaS key n)∧Later w0 w':=by
 have h1:decide ((n:Int)<0)=false:=decide_eq_false (by omega)
 have h2:decide ((65536:Int)<(n:Int))=false:=decide_eq_false (by omega)
 have hu:=hb.cellD 32 (Qmx hk 0)
 have hfl:=QsG hk 0
 have hset:=hid (QzW hk 0 n)
 have hP:=hid (fun (w:World) h=>Qmc (some ⟨g,0,none⟩) 32 n key w h hn)
 have hcl:=hid (fun (w:World) (h:Blk w g 246 (FC key 0))=>(show RdB w (some ⟨g,0,none⟩) 32 key from QdA h hk))
 have hlt:=hb.lt
 have hSl:=QbZ key n
 have hF:Hid ((FC key 0)[32]?=some (.int .i64 0)):=hid (Qmx hk 0)
 generalize FC key 0=F0 at *
 generalize FC key n=Fn at *
 generalize chaS key n=S at *
 go_enter Tryz.func132,Tryz.ntmps132
 go_wp2_with fail
 refine Qad [([0,1,2,3,4,5,6,7,8],9)] [10] [] (by as_aux_lemma=>kernel_rfl) (by as_aux_lemma=>kernel_rfl) (by intro _ _ d _ _ h;cases d<;>exact h) ?_
 simp only[Qai,pick,QCo,QCp,QCq,QCr,QCs]
 repeat (go_big_quiet_step (fail))
 refine wpQuiet_nil ?_
 go_wp2_with fail
 (with_reducible refine (hP.out _ (hcl.out _ hb.drew)).mono ?_);rintro e w2 ⟨A2,c2,rfl,o2,l2⟩
 go_wp2_with fail
 try refine⟨by first|assumption|exact Qab _|exact Qaa _ _|exact Later.refl _,?_⟩
 try simp only[Qai,pick,QCo,QCp,QCq,QCr,QCs]
 repeat (go_big_quiet_step (fail))
 refine wpQuiet_nil ?_
 have hb2:=(hb.later (Qab _)).later l2
 have hu2:=hb2.cellD 32 hF.out
 go_wp2_with (first
  | (refine Qac rfl rfl _ _ _ rfl g 32 _ _ hb2 rfl (by omega) rfl (by kernel_rfl) ?_;intro v3 w3 hv3 hb3 ho3)
  | fail)
 go_ret2
 have hbase:∀b,(Value.slice A2 n c2).ownBlock=some b→b≠g:=fun b hb' e=>by
  have:=(World.ownsRow.lt o2 b hb').1
  simp at this
  omega
 exact⟨_,_,rfl,Qbb (Qb9 o2 ho3 hbase) (by have:=hl.size;simpa using this),((hl.trans (Qab _)).trans l2).only ho3 hg⟩
set_option maxRecDepth 100000 in
set_option maxHeartbeats 4000000 in
theorem Qpx (g m d:Nat) (B:Option Addr) (key:List UInt8) (ps:List (List UInt8)) (w0 w:World) (hp:Parts w0 (fun _=>False) B m ps) (hm:m≤1048576) (hb:Blk w g 246 (FC key 0)) (hk:key.length=32) (hl:Later w0 w) (hg:w0.heap.size≤g) (hn:ps.flatten.length≤65536):
 Calls Tryz.prog 107 #[.pointer (some ⟨g,0,none⟩),.slice B m d] w fun e w'=>∃A' c',e= .returned (.tuple #[.slice A' ps.flatten.length c',.int .i64 0])∧OwnB w' w0.heap.size A' ps.flatten.length c' (xorB ps.flatten (chaS key ps.flatten.length))∧Later w0 w':=by
 have hpl:=hp.len
 have hN:=hid (fun n h (w:World) (hb:Blk w g 246 (FC key 0)) hl=>QrC g n key w0 w hb hk hl hg h)
 have hJ:=hid (fun (w:World) h=>QgF B m d ps w h (by omega) (by omega))
 have hSl:=QbZ key ps.flatten.length
 have hF:Hid ((FC key 0)[32]?=some (.int .i64 0)):=hid (Qmx hk 0)
 have hft:=hid (fun k=>Qer ps k)
 have hle:=hid (fun k=>Qc2 ps k)
 have hX:=hid (fun (w:World) C e h=>Qsx C e ps.flatten.length ps.flatten (chaS key ps.flatten.length) w h rfl hSl (by omega))
 have hall:ps.take m=ps:=by rw[←hpl,List.take_length]
 generalize hS:chaS key ps.flatten.length=S at *
 generalize xorB ps.flatten S=X at *
 generalize FC key 0=F0 at *
 generalize hTe:ps.flatten.length=T at *
 replace hS:=hid hS
 go_enter Tryz.func107,Tryz.ntmps107
 go_wp2_with fail
 go_loopw [6,8,13] (fun t _ i wr=>∃k:Nat,k≤m∧i= .int .i64 k∧t= .int .i64 ((ps.take k).flatten.length:Nat)∧Later w wr) (fun _ _ i _=>m-(intOf i).toNat)
 case atStart=>exact⟨0,by omega,rfl,rfl,Later.refl w⟩
 case round=>
  obtain⟨k,hk',rfl,rfl,L⟩:=hrel
  by_cases hlt:k<m
  ·obtain⟨b,o,Ak,nk,ck,rfl,hb',hck,hcap,hrd,_⟩:=hp.at_ hlt
   replace hck:=((hl.trans L).below.cell (p:=⟨b,o+k,none⟩) hb').trans hck
   replace hb':b<wr.heap.size:=QCM hb' (hl.trans L).size
   have hu:=(hb.later L).cellD 32 hF.out
   have e1:(ps.take (k+1)).flatten.length=(ps.take k).flatten.length+nk:=by
    have h1:=hrd.len
    have h2:k<ps.length:=by omega
    rw[hft.out k h2,QCB]
    rw[QCu,QCv h2,QEr]at h1
    rw[h1]
   have e2:=hle.out (k+1)
   generalize (ps.take k).flatten.length=s at *
   generalize hs':(ps.take (k+1)).flatten.length=s' at *
   replace hs':=hid hs'
   have hcmp:decide ((65536:Int)-(s:Int)<(nk:Int))=false:=decide_eq_false (by omega)
   go_wp2
   exact⟨⟨k+1,by omega,by go_num,by rw[hs'.out,e1];go_num,L⟩,by simp[intOf];omega⟩
  ·obtain rfl:k=m:=by omega
   rw[hall,hTe]
   go_wp2_with fail
   (with_reducible refine (hN.out T hn _ (hb.later L) (hl.trans L)).mono ?_);rintro e w2 ⟨A2,c2,rfl,o2,l2⟩
   rw[hS.out]at o2
   go_wp2_with fail
   (with_reducible refine (hJ.out _ (hp.later l2)).mono ?_);rintro e w3 ⟨A3,c3,rfl,o3,l3⟩
   go_wp2_with fail
   have P4:Parts (w3.alloc (.cells #[.slice A3 T c3,.slice A2 T c2] 32)) (fun _=>False) (some ⟨w3.heap.size,0,none⟩) 2 [ps.flatten,S]:=
    Qc4 (Blk.new w3 32 [.slice A3 T c3,.slice A2 T c2]) (QeL (o3.rd.later (Qaa _ _)) o3.cap) (QeL ((o2.later l3).rd.later (Qaa _ _)) o2.cap)
   (with_reducible refine (hX.out _ _ _ P4).mono ?_);rintro e w5 ⟨A5,c5,rfl,o5,l5⟩
   have L5:=((l2.trans l3).trans (Qaa w3 _)).trans l5
   go_wp2_with fail
   go_ret2
   exact⟨_,_,rfl,o5.mono ((l2.trans l3).trans (Qaa w3 _)).size,L5⟩
set_option maxRecDepth 100000 in
set_option maxHeartbeats 4000000 in
theorem Qr7 (A:Option Addr) (c m d:Nat) (B:Option Addr) (key:List UInt8) (ps:List (List UInt8)) (w:World) (hk:RdB w A 32 key) (hp:Parts w (fun _=>False) B m ps) (hm:m≤1048576) (hn:ps.flatten.length≤65536):
 Calls Tryz.prog 78 #[.slice A 32 c,.slice B m d] w fun e w'=>∃A' c',e= .returned (.tuple #[.slice A' ps.flatten.length c',.int .i64 0])∧OwnB w' w.heap.size A' ps.flatten.length c' (xorB ps.flatten (chaS key ps.flatten.length))∧Later w w':=by
 have hT:=hid (fun g (w':World) hb hl hg=>Qpx g m d B key ps w w' hp hm hb hk.len hl hg hn)
 generalize xorB ps.flatten (chaS key ps.flatten.length)=X at *
 generalize ps.flatten.length=T at *
 go_enter Tryz.func78,Tryz.ntmps78
 go_wp2_with fail
 (with_reducible refine (QuR A c key _ hk).mono ?_);rintro e w1 ⟨g,rfl,hg,hb,l1⟩
 go_wp2_with fail
 (with_reducible refine (hT.out g _ hb l1 hg).mono ?_);rintro e w2 ⟨A2,c2,rfl,o2,l2⟩
 go_wp2_with fail
 go_ret2
 exact⟨_,_,rfl,o2,l2⟩
theorem Qdu:(Tryz.prog.info? 82).map (·.size)=some 288:=by kernel_rfl
theorem Qhg:(Tryz.prog.info? 85).map (·.size)=some 768:=by kernel_rfl
theorem QxC:(Tryz.prog.info? 80).map (·.size)=some 240:=by kernel_rfl
theorem QxT:(Tryz.prog.info? 85).bind (·.zero)=some (.agg (QCn 768 (W8 0)).toArray):=by kernel_rfl
theorem zcH:Tryz.zeroCells82.toList=(QCn 288 (0:UInt8)).map W8:=by rw[QC8];kernel_rfl
theorem zcP:Tryz.zeroCells85.toList=(QCn 768 (0:UInt8)).map W8:=by rw[QC8];kernel_rfl
theorem Qql:Tryz.prog.built 82 []=some ((QCn 288 (0:UInt8)).map W8).toArray:=by rw[QC8];kernel_rfl
theorem QpP:Tryz.prog.built 85 []=some ((QCn 768 (0:UInt8)).map W8).toArray:=by rw[QC8];kernel_rfl
theorem Qpu (h:List UInt8) (hl:h.length=288):Tryz.prog.built 85 [(0,.agg (h.map W8).toArray)]=some ((h++QCn 480 0).map W8).toArray:=by
 have hb:=QeM (n:=768) (pl:=[(0,288),(288,480)]) Tryz.underlying85 QxT (by kernel_rfl) [(0,0,h)] (by
  intro x hx
  simp only[QCQ,QCT,or_false]at hx
  subst hx
  simp only[hl];decide)
 rw[show QeS (QCn 768 0) ([(0,0,h)].map fun x=>(x.2.1,x.2.2))=h++QCn 480 0 by
  simp only[QCR,QCC,QeS]
  rw[show QCn 768 (0:UInt8)=QCn 288 0++QCn 480 0 by rw[QDz],Qc9 _ _ _ (by rw[QCJ,hl])]]at hb
 exact hb
theorem QhK (bs:List UInt8) (n:Nat) (h:bs.length=n):subB bs 0 n=bs:=by rw[subB,List.drop_zero,QCE (by omega)]
section
variable {ops:Array Oper} {rest:List Oper} {o:Oper} {a:Act} {w:World} {Q:Exit→Act→World→Prop}
theorem QeQ (hgd:o.guard=none) (hd:o.dst=none) (x y:Operand) (ho:o.op= .store 82 x y) {g:Nat} {t:TypeId} {l:List Value} {bs:List UInt8} (hg:Blk w g t l) (hx:a.eval x= .pointer (some ⟨g,0,none⟩)) (hy:a.eval y= .agg (bs.map W8).toArray) (hbl:bs.length=288) (hl:l.length=288)
 (h:∀w',Blk w' g t (bs.map W8)→Only g w w'→wpList Tryz.prog ops Q rest a w'):wpList Tryz.prog ops Q (o :: rest) a w:=
 Qdp 288 hgd hd x y ho hg hx hy Qdu hbl hl h
theorem Qo1 (hw:Region.wanted o (yielded ops a.tmps)=true) (x:Operand) (ho:o.op= .load 82 x) {g:Nat} {t:TypeId} {bs:List UInt8} (hb:Blk w g t (bs.map W8)) (hl:bs.length=288) (hx:a.eval x= .pointer (some ⟨g,0,none⟩))
 (h:wpList Tryz.prog ops Q rest (a.put o.dst (.agg (bs.map W8).toArray)) w):wpList Tryz.prog ops Q (o :: rest) a w:=
 QsB 0 288 hw x ho hb hx Tryz.underlying82 rfl Qdu (QhK _ _ hl) hl h
theorem QgG (hgd:o.guard=none) (hd:o.dst=none) (x y:Operand) (ho:o.op= .store 85 x y) {g:Nat} {t:TypeId} {l:List Value} {bs:List UInt8} (hg:Blk w g t l) (hx:a.eval x= .pointer (some ⟨g,0,none⟩)) (hy:a.eval y= .agg (bs.map W8).toArray) (hbl:bs.length=768) (hl:l.length=768)
 (h:∀w',Blk w' g t (bs.map W8)→Only g w w'→wpList Tryz.prog ops Q rest a w'):wpList Tryz.prog ops Q (o :: rest) a w:=
 Qdp 768 hgd hd x y ho hg hx hy Qhg hbl hl h
theorem QsE (hw:Region.wanted o (yielded ops a.tmps)=true) (x:Operand) (ho:o.op= .load 85 x) {g:Nat} {t:TypeId} {bs:List UInt8} (hb:Blk w g t (bs.map W8)) (hl:bs.length=768) (hx:a.eval x= .pointer (some ⟨g,0,none⟩))
 (h:wpList Tryz.prog ops Q rest (a.put o.dst (.agg (bs.map W8).toArray)) w):wpList Tryz.prog ops Q (o :: rest) a w:=
 QsB 0 768 hw x ho hb hx Tryz.underlying85 rfl Qhg (QhK _ _ hl) hl h
end
theorem QrV (b:List UInt8) (h:b.length=288):putB (putB (putB (QCn 288 0) 0 (b.take 32)) 32 ((b.drop 32).take 16)) 48 (b.drop 48)=b:=by
 have e1:b=b.take 32++((b.drop 32).take 16++b.drop 48):=by
  rw[show b.drop 48=(b.drop 32).drop 16 by rw[QD8],QC3,QC3]
 have l1:(b.take 32).length=32:=by simp;omega
 have l2:((b.drop 32).take 16).length=16:=by simp;omega
 have l3:(b.drop 48).length=240:=by simp;omega
 generalize b.take 32=p at *
 generalize (b.drop 32).take 16=q at *
 generalize b.drop 48=r at *
 rw[show QCn 288 (0:UInt8)=QCn 32 0++(QCn 16 0++QCn 240 0) by simp,Qc9 _ _ _ (by rw[QCJ,l1]),Qcw _ _ _ _ 32 l1 (by rw[QCJ,l2]),←QCL,QdQ _ _ _ 48 (by rw[QCB,l1,l2]) (by rw[QCJ,l3]),QCL,e1]
set_option maxRecDepth 100000 in
set_option maxHeartbeats 4000000 in
theorem Qpf (A:Option Addr) (c:Nat) (b:List UInt8) (w:World) (hb:RdB w A 288 b) (hc:288≤c):
 Calls Tryz.prog 39 #[.slice A 288 c] w fun e w'=>e= .returned (.tuple #[.agg (b.map W8).toArray,.int .i64 0])∧Later w w':=by
 have hbl:=hb.len
 obtain⟨b0,p,rfl,hb00,_⟩:=hb.2 (by omega)
 have B0:Bag w (w.alloc (.cells Tryz.zeroCells82 82)) [(w.heap.size,82,(QCn 288 (0:UInt8)).map W8)]:=(Bag.none w).add (Qaa _ _) (by simp) (QCx _) ((Blk.new w _ Tryz.zeroCells82.toList).cast zcH)
 have hp:=QrV b hbl
 have l0:(QCn 288 (0:UInt8)).length=288:=by simp
 have HZ:=hid zcH
 generalize hZ:QCn 288 (0:UInt8)=Z at *
 have l1:(putB Z 0 (b.take 32)).length=288:=by rw[Qca (by rw[QCP];omega)];exact l0
 have l2:(putB (putB Z 0 (b.take 32)) 32 ((b.drop 32).take 16)).length=288:=by rw[Qca (by rw[QCP,QCS];omega)];exact l1
 have e3:((b.drop 48).take 240)=b.drop 48:=QCE (by rw[QCS];omega)
 have HE:=hid e3
 have HP:=hid hp
 clear e3 hp hZ
 have hc32:cutA (some ⟨b0,p,none⟩) 32 c=some ⟨b0,p+32,none⟩:=by rw[cutA,if_neg (by omega)];rfl
 have hc48:cutA (some ⟨b0,p,none⟩) 48 c=some ⟨b0,p+48,none⟩:=by rw[cutA,if_neg (by omega)];rfl
 have h32:Hid (∀ w,RdB w (some ⟨b0,p,none⟩) 288 b→RdB w (some ⟨b0,p+32,none⟩) 256 (b.drop 32)):=hid (fun w h=>by rw[←hc32];exact RdB.cut h (by omega) hc)
 have h48:Hid (∀ w,RdB w (some ⟨b0,p,none⟩) 288 b→RdB w (some ⟨b0,p+48,none⟩) 240 (b.drop 48)):=hid (fun w h=>by rw[←hc48];exact RdB.cut h (by omega) hc)
 generalize hZ2:putB (putB Z 0 (b.take 32)) 32 ((b.drop 32).take 16)=Z2 at *
 generalize hZ1:putB Z 0 (b.take 32)=Z1 at *
 have H1:=hid hZ1
 have H2:=hid hZ2
 have hzl:(Z.map W8).length=288:=by rw[QCt];exact l0
 clear hZ1 hZ2
 go_enter Tryz.func39,Tryz.ntmps39
 have hrr:=hb.later (B0.lat.trans (Qaa _ (.cells Tryz.zeroCells82 82)))
 have hbb:=(Blk.new' (n:=w.heap.size+1) (w.alloc (.cells Tryz.zeroCells82 82)) 82 Tryz.zeroCells82.toList (by simp)).cast HZ.out
 go_wp2_with (first
  | (refine Qax rfl _ _ _ _ rfl 5 Tryz.underlying32 QbR (w.heap.size+1) 0 32 32 _ _ hbb (some ⟨b0,p,none⟩) 288 c (b.map W8) hrr (QaE _) rfl rfl (by rw[QCt];omega) ?_;intro w1 hb1 ho1;rw[←QDB,QcS,H1.out]at hb1
     have B1:=B0.push (Qaa _ _) (by simp) ho1 hb1)
  | fail)
 clear hb1 ho1 B0 hrr hbb
 generalize w.heap.size+1=g at *
 have B2:=B1.drew
 simp only[Act.put,QCw,QCz,QCy]
 refine Qad [] [0,1,2,3] [4] (by as_aux_lemma=>kernel_rfl) (by as_aux_lemma=>kernel_rfl) (by intro _ _ d _ _ h;cases d<;>exact h) ?_
 simp only[Qai,pick,QCo,QCp,QCq,QCr,QCs]
 repeat (go_big_quiet_step (fail))
 refine wpQuiet_nil ?_
 go_wp2_with (first
  | (refine Qax rfl _ _ _ _ rfl 5 Tryz.underlying32 QbR g 32 16 16 _ _ (B2.nth 0 rfl) (some ⟨b0,p+32,none⟩) 256 (c-32) ((b.drop 32).map W8) (h32.out _ (hb.later B2.lat)) (QaE _) rfl rfl (by rw[QCt];omega) ?_;intro w3 hb3 ho3;rw[←QDB,QcS,H2.out]at hb3
     have B3:=(B2.write 0 rfl ho3 hb3).drew)
  | fail)
 clear hb3 ho3 B1 B2
 simp only[Act.put,QCw,QCz,QCy]
 refine Qad [] [0,1,2,3] [4] (by as_aux_lemma=>kernel_rfl) (by as_aux_lemma=>kernel_rfl) (by intro _ _ d _ _ h;cases d<;>exact h) ?_
 simp only[Qai,pick,QCo,QCp,QCq,QCr,QCs]
 repeat (go_big_quiet_step (fail))
 refine wpQuiet_nil ?_
 go_wp2_with (first
  | (refine Qax rfl _ _ _ _ rfl 5 Tryz.underlying32 QbR g 48 240 240 _ _ (B3.nth 0 rfl) (some ⟨b0,p+48,none⟩) 240 (c-48) ((b.drop 48).map W8) (h48.out _ (hb.later B3.lat)) (QaE _) rfl rfl (by rw[QCt];omega) ?_;intro w4 hb4 ho4;rw[←QDB,QcS,HE.out,HP.out]at hb4
     have B4:=B3.write 0 rfl ho4 hb4)
  | (refine Qo1 rfl _ rfl (B4.nth 0 rfl) hbl rfl ?_)
  | (refine QeQ rfl rfl _ _ rfl (B4.nth 1 rfl) rfl rfl hbl hzl ?_;intro w9 hb9 ho9)
  | fail)
 exact bodyPost_ret (Qae rfl _ _ _ _ _ _ hb9 rfl Tryz.underlying82 rfl (by rw[QCt,hbl];exact Qdu)) rfl ⟨rfl,(B4.write 1 rfl ho9 hb9).lat⟩
end Go.Proofs.YtdkpcdgckgaklaaGreat
