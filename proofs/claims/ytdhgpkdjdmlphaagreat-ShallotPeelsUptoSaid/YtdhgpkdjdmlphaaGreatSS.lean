/-
  Lemmas for the last text of this claim (part 19 of 20).
-/
import Derived.ArgAppend
import Derived.BigQuiet
import Derived.BigRegion
import Derived.ChangeOld
import Derived.Deep.RegionWith
import Derived.DeepKeys4
import Derived.JoinedCond
import Derived.LaidMore
import Derived.Laws.BytesArg
import Derived.Laws.CopyOwn
import Derived.Laws.Externs
import Derived.Laws.IdiomStrings
import Derived.Laws.Tables
import Derived.Lib.AppendStr
import Derived.Lib.AppendZerosOnto
import Derived.Lib.Mul64
import Derived.Lib.SlBytesConst
import Derived.LoopN
import Derived.Maps.OwnSet
import Derived.OpenShut
import Derived.OrdersHeld
import Derived.ProofKit
import Derived.Shelf.Spec.BitsCarry
import Derived.ShutString
import Derived.Test.YtdhgpkdjdmlphaaGreatProg
import Derived.Test.YtdhgpkdjdmlphaaGreatRows
import Derived.WalkKit
import Derived.WalkLawsBesides
import Derived.WalkSpells
import Derived.Test.YtdhgpkdjdmlphaaGreatSO
import Derived.Test.YtdhgpkdjdmlphaaGreatSP
import Derived.Test.YtdhgpkdjdmlphaaGreatSQ
import Derived.Test.YtdhgpkdjdmlphaaGreatSR
open BitVec renaming toNat_ushiftRight → QDI
open List renaming replicate → QCC, getElem?_cons_succ → QCD, getElem?_cons_zero → QCE, length_map → QCG, getElem?_eq_getElem → QCH, nil_append → QCI, cons_append → QCJ, getD_eq_getElem?_getD → QCK, setIfInBounds_toArray → QCL, length_append → QCM, length_replicate → QCO, set_cons_zero → QCP, set_cons_succ → QCQ, getElem?_append_right → QCR, map_toArray → QCS, take_of_length_le → QCT, append_assoc → QCU, getElem?_eq_some_iff → QCX, getElem?_map → QCY, getElem?_append_left → QC0, map_nil → QC2, length_take → QC5, length_drop → QC7, take_append_drop → QC9, map_cons → QDa, take_succ_eq_append_getElem → QDd, set_append_right → QDe, append_nil → QDg, map_replicate → QDi, length_set → QDl, drop_left' → QDp, mem_map → QDu, drop_eq_getElem_cons → QDL, getElem?_drop → QDN, flatten_cons → QDT, take_left' → QDV, getElem?_set_ne → QD1, drop_zero → QD8, getElem?_take → QEl, drop_eq_nil_of_le → QEn, getElem?_set_self → QEz, getElem?_range → QEC, length_reverse → QED, getElem_of_mem → QEO, flatten_nil → QEQ
open Nat renaming le_refl → QCN, lt_of_lt_of_le → QC3, le_trans → QDk, div_eq_of_lt → QDw, shiftRight_eq_div_pow → QDE, lt_or_ge → QDF, min_eq_left → QDG, sub_self → QD0, mod_mod → QD4, pow_mul → QEj, add_zero → QEm, add_sub_cancel_left → QEu
open Option renaming toList_some → QCF, map_eq_some_iff → QEb
open UInt64 renaming ofInt → QDy, toNat_inj → QEx
open UInt8 renaming ofNat → QDc, ofInt → QDh, toNat_inj → QDr, toNat_ofNat' → QDH
set_option linter.all false
namespace Go.Proofs.YtdhgpkdjdmlphaaGreat
open Go.RowKit
open Go.BigFrame
def putL (k n j:Nat):List UInt8:=QCC (k-j) 0++(bigB k n).drop (k-j)
theorem Qsj (k n:Nat):putL k n 0=QCC k 0:=by
 rw[putL,Nat.sub_zero,QEn (by rw[Qap];omega),QDg]
theorem Qu2 (k n:Nat):putL k n k=bigB k n:=by rw[putL,QD0,List.replicate_zero,QCI,QD8]
theorem Qnw (k n j:Nat) (h:j≤k):(putL k n j).length=k:=by
 rw[putL,QCM,QCO,QC7,Qap]
 omega
theorem QqK (k n j:Nat) (h:j<k):(putL k n j).set (k-1-j) (QDc (n/256^j))=putL k n (j+1):=by
 have hg:=QoC k n (k-1-j) (by omega)
 rw[show k-1-(k-1-j)=j by omega]at hg
 have hd:(bigB k n).drop (k-(j+1))=QDc (n/256^j) :: (bigB k n).drop (k-j):=by
  rw[show k-(j+1)=k-1-j by omega,QDL (by rw[Qap];omega),show k-1-j+1=k-j by omega]
  rw[QCH (by rw[Qap];omega)]at hg
  rw[Option.some.inj hg]
 rw[putL,putL,hd,show k-j=(k-(j+1))+1 by omega,List.replicate_succ',QCU,QDe _ _ (by rw[QCO];omega),QCO,show k-1-j-(k-(j+1))=0 by omega]
 rfl
theorem QuC (n:UInt64) (j:Nat):(QgW n (8*j)).toUInt8=QDc (n.toNat/256^j):=by
 apply QDr.1
 have e:(QgW n (8*j)).toNat=n.toNat/2^(8*j):=by
  show (n.toBitVec >>> (8*j)).toNat=_
  rw[QDI,QDE]
  rfl
 rw[UInt64.toNat_toUInt8,e,QDH,show (2:Nat)^(8*j)=256^j by rw[show (256:Nat)=2^8 from rfl,←QEj]]
theorem QtJ (n:UInt64) (k:Nat) (h:n.toNat<256^k):QgW n (8*k)=0:=by
 apply QEx.1
 show (n.toBitVec >>> (8*k)).toNat=_
 rw[QDI,QDE,show (2:Nat)^(8*k)=256^k by rw[show (256:Nat)=2^8 from rfl,←QEj]]
 exact QDw h
theorem cnt8 (k:Nat) (h:k≤8):cnt (8*QDy (k:Int))=8*k:=(by decide:∀k:Fin 9,cnt (8*QDy (k.val:Int))=8*k.val) ⟨k,by omega⟩
set_option maxRecDepth 100000 in
set_option maxHeartbeats 4000000 in
theorem QhK (k:Nat) (hk:1≤k) (h8:k≤8) (n:UInt64) (hn:k=8∨n.toNat<256^k) (w:World):
 Calls Tryz.prog 90 #[.int .i64 2,.int .i64 (k:Int),W64 n] w fun e w'=>∃g,e= .returned (.tuple #[.slice (some ⟨g,0,none⟩) k k,.int .i64 0])∧w.heap.size≤g∧Blk w' g 5 ((bigB k n.toNat).map W8)∧Later w w':=by
 have hv:=hid (Qjw k hk h8)
 have hf:=hid (fun h=>QtJ n k h)
 have hst:=hid (QqK k n.toNat)
 have hpl:=hid (Qnw k n.toNat)
 have hp0:=hid (Qsj k n.toNat)
 have hpk:=hid (Qu2 k n.toNat)
 have hpb:=hid (QuC n)
 go_enter Tryz.func90,Tryz.ntmps90
 go_wp2_with fail
 refine (hv.out w).mono ?_
 rintro e w1 ⟨rfl,j1⟩
 have hck:=cnt8 k h8
 have hT:Hid ((decide ((k:Int)<8)=false)∨(decide ((k:Int)<8)=true∧QgW n (8*k)=0)):=hid (by
  by_cases h:k=8
  ·exact .inl (decide_eq_false (by omega))
  ·exact .inr ⟨decide_eq_true (by omega),hf.out (hn.resolve_left h)⟩)
 clear hf hn
 rcases hT.out with hT1|⟨hT1,hT2⟩
 all_goals
  clear hT
  go_wp2_with (first
   | (refine Qax rfl _ _ _ rfl 5 _ 1 Tryz.underlying22 QcR rfl _ _ _ _ k rfl rfl rfl rfl (by omega) (by omega) ?_;intro w2 hb2 hl2)
   | fail)
  replace hb2:Blk w2 w1.heap.size 5 ((putL k n.toNat 0).map W8):=by
   rw[hp0.out,QDi]
   exact hb2
  have L2:=j1.trans hl2
  have hg1:=j1.size
  clear hl2 hT1 hck
  generalize w1.heap.size=g at *
  go_loopw [29] (fun i wr=>∃j:Nat,j≤k∧i= .int .i64 j∧Blk wr g 5 ((putL k n.toNat j).map W8)∧Later w wr) (fun i _=>k-(intOf i).toNat)
  case atStart=>exact⟨0,by omega,rfl,hb2,L2⟩
  case round=>
   clear hb2 L2
   obtain⟨j,hj,rfl,hb,L⟩:=hrel
   by_cases hjk:j<k
   ·have hcj:=cnt8 j (by omega)
    have hby:=hid (hpb.out j)
    have hsj:=hid (hst.out j hjk)
    have hlj:=hpl.out j (by omega)
    have e1:((k:Int)-1-(j:Int)).toNat=k-1-j:=by omega
    have e0:(0:Int)≤(k:Int)-1-(j:Int)∧(k:Int)-1-(j:Int)<(k:Int):=by omega
    generalize putL k n.toNat j=PJ at *
    go_wp2_with (first
     | (refine Qbg rfl ?_;refine Qad rfl rfl _ _ _ rfl g (k-1-j) _ _ hb rfl (by rw[QCG,hlj];omega) rfl (by kernel_rfl) ?_;intro v4 w4 hv4 hb4 ho4;simp[go_sem]at hv4;subst hv4)
     | fail)
    rw[hby.out,QcF,hsj.out]at hb4
    exact⟨⟨j+1,by omega,by go_num,hb4,L.only ho4 hg1⟩,by simp[intOf];omega⟩
   ·obtain rfl:j=k:=by omega
    rw[hpk.out]at hb
    go_wp2_with fail
    go_ret2
    exact⟨g,rfl,hg1,hb,L⟩
theorem QwT {L:List UInt8} {x y:UInt8} (k:Nat) (h:k+2≤L.length):putB L k [x,y]=(L.set k x).set (k+1) y:=by
 apply List.ext_getElem?
 intro i
 have hl:(L.take k).length=k:=by rw[QC5];omega
 rw[putB,QCU]
 by_cases h1:i<k
 ·rw[QC0 (by omega),QEl,if_pos h1,QD1 (by omega),QD1 (by omega)]
 ·by_cases h2:i=k
  ·subst h2
   rw[QCR (by omega),hl,QD0,QD1 (by omega),QEz (by omega)]
   rfl
  ·by_cases h3:i=k+1
   ·subst h3
    rw[QCR (by omega),hl,QEu,QEz (by rw[QDl];omega)]
    rfl
   ·rw[QCR (by omega),hl,QD1 (by omega),QD1 (by omega),QCR (by show 2≤_;omega),QDN]
    congr 1
    show k+2+(i-k-2)=i
    omega
theorem Qt7 (p:Prt) (h:p.da.length≤450):putB (putB (putB (fr3 p) 20 (bigB 8 p.id.toNat)) 28 (bigB 2 p.da.length)) 30 p.da=Qbr p:=by
 have h8:(bigB 8 p.id.toNat).take 8=bigB 8 p.id.toNat:=QCT (by rw[Qap];omega)
 have hb2:bigB 2 p.da.length=[QDc (p.da.length/256),QDc p.da.length]:=rfl
 have e1:QDh ((p.da.length:Int)/256)=QDc (p.da.length/256):=by
  rw[show ((p.da.length:Int)/256)=((p.da.length/256:Nat):Int) by omega,Qfq]
 have e2:QDh ((p.da.length:Int)%256)=QDc p.da.length:=by
  rw[show ((p.da.length:Int)%256)=((p.da.length%256:Nat):Int) by omega,Qfq]
  apply QDr.1
  rw[QDH,QDH,QD4]
 have hk:frK p 8=putB (fr3 p) 20 (bigB 8 p.id.toNat):=by rw[frK,h8]
 rw[←QwX p h,hk,hb2,e1,e2,QwT 28 (by rw[←hk,Qpr];omega)]
theorem Qz4 (n:Nat) (h:n<65536):(QDy (n:Int)).toNat=n:=by
 show ((n:Int)%(2:Int)^64).toNat%2^64=n
 omega
set_option maxRecDepth 100000 in
set_option maxHeartbeats 4000000 in
theorem Qqp (p:Prt) (A:Option Addr) (n c:Nat) (w:World) (hr:RdB w A n p.da) (hn:n≤1048576):
 Calls Tryz.prog 50 #[.agg (PaC p (.slice A n c)).toArray] w fun e w'=>∃A' c',e= .returned (.tuple #[.slice A' (frmR p).length c',.int .i64 (prtE p:Nat)])∧OwnB w' w.heap.size A' (frmR p).length c' (frmR p)∧Later w w':=by
 have hl:=hr.len
 have hCk:=hid (fun w=>Qjl p A n c hl w)
 have hz:=hid (fun h=>Qff (p:=p) h)
 have hR:Hid (frmR p=if prtE p=0 then Qbr p else []):=hid rfl
 have C1:=Qba w 25 (PaC p (.slice A n c))
 have hP8:=hid (fun w=>QhK 8 (by omega) (by omega) p.id (.inl rfl) w)
 generalize frmR p=R at *
 generalize prtE p=E at *
 go_enter Tryz.func50,Tryz.ntmps50
 go_wp2_with (first
  | (refine go_l rfl ?_;refine QdK rfl _ rfl (C1.nth 0 rfl) rfl ?_)
  | fail)
 (refine (hCk.out _).mono ?_);rintro e w2 ⟨rfl,j2⟩
 have C2:=C1.later j2
 clear C1 j2 hCk
 by_cases h0:E=0
 case neg=>
  have hne:((E:Int) != 0)=true:=by simp;omega
  have hR':=hid (hR.out.trans (if_neg h0))
  go_wp2_with fail
  go_ret2
  exact⟨none,0,by rw[hR'.out];rfl,by rw[hR'.out];exact Qcn _ _ _,C2.lat⟩
 subst h0
 have hz':=hid (hz.out (by trivial))
 have hR':=hid (hR.out.trans (if_pos (by trivial)))
 have hn450:n≤450:=by have:=hz'.out.2.1;omega
 have hend:=hid (Qt7 p (by omega))
 have hlb:=QdW p (by omega)
 clear hz hR hz'
 obtain⟨c0,c1,c2,c3,c4⟩:=Qa5 (C2.nth 0 rfl)
 go_wp2_with fail
 refine (hP8.out _).mono ?_
 rintro e w3 ⟨g3,rfl,hg3,hb3,j3⟩
 have C3:=C2.later j3
 obtain⟨c0,c1,c2,c3,c4⟩:=Qa5 (C3.nth 0 rfl)
 go_wp2_with fail
 have hP2:=QhK 2 (by omega) (by omega) (QDy (n:Int)) (.inr (by rw[Qz4 n (by omega)];omega)) w3
 rw[Qz4 n (by omega)]at hP2
 refine hP2.mono ?_
 rintro e w4 ⟨g4,rfl,hg4,hb4,j4⟩
 clear hP2
 have C4:=C3.later j4
 have hb3':=hb3.later j4
 have hfs:=hid (Qub p)
 rw[QoZ]at hfs
 have l0:(QCC 480 (Value.int .u8 0)).length=480:=by rw[QCO]
 have hf3:=Qg5 p
 obtain⟨c0,c1,c2,c3,c4⟩:=Qa5 (C4.nth 0 rfl)
 go_wp2_with (first
  | (refine Qax rfl _ _ _ rfl 5 _ 1 Tryz.underlying22 QcR rfl _ _ _ _ 480 rfl rfl rfl rfl (by omega) (by omega) ?_;intro w5 hb5 hl5
     have C5:=C4.fresh hl5 (QCN _) hb5
     obtain⟨c0,c1,c2,c3,c4⟩:=Qa5 (C5.nth 1 rfl))
  | (refine Qbg rfl ?_;refine Qad rfl rfl _ _ _ rfl w4.heap.size 16 _ _ (C5.nth 0 rfl) rfl (by rw[l0];omega) rfl (by kernel_rfl) ?_;intro v6 w6 hv6 hb6 ho6;simp[go_sem]at hv6;subst hv6
     have C6:=C5.write 0 rfl ho6 hb6
     obtain⟨c0,c1,c2,c3,c4⟩:=Qa5 (C6.nth 1 rfl))
  | (refine Qbg rfl ?_;refine Qad rfl rfl _ _ _ rfl w4.heap.size 17 _ _ (C6.nth 0 rfl) rfl (by rw[QDl,l0];omega) rfl (by kernel_rfl) ?_;intro v7 w7 hv7 hb7 ho7;simp[go_sem]at hv7;subst hv7
     have C7:=C6.write 0 rfl ho7 hb7
     obtain⟨c0,c1,c2,c3,c4⟩:=Qa5 (C7.nth 1 rfl))
  | (refine Qbg rfl ?_;refine Qad rfl rfl _ _ _ rfl w4.heap.size 18 _ _ (C7.nth 0 rfl) rfl (by rw[QDl,QDl,l0];omega) rfl (by kernel_rfl) ?_;intro v8 w8 hv8 hb8 ho8;simp[go_sem]at hv8;subst hv8
     rw[hfs.out]at hb8
     have C8:=C7.write 0 rfl ho8 hb8
     have l8:=((hl5.only ho6 (QCN _)).only ho7 (QCN _)).only ho8 (QCN _))
  | (refine QaC rfl _ _ _ _ rfl 5 Tryz.underlying22 QbY w4.heap.size 20 460 460 _ _ (C8.nth 0 rfl) (some ⟨g3,0,none⟩) 8 8 ((bigB 8 p.id.toNat).map W8) ((hb3'.later l8).rd (by rw[QCG,Qap])) (QaW _) rfl rfl (by rw[QCG,hf3];omega) ?_;intro w9 hb9 ho9
     rw[QCT (by rw[QCG,Qap];omega),Qdu]at hb9
     have C9:=C8.write 0 rfl ho9 hb9
     have l9:=l8.only ho9 (QCN _))
  | (refine QaC rfl _ _ _ _ rfl 5 Tryz.underlying22 QbY w4.heap.size 28 452 452 _ _ (C9.nth 0 rfl) (some ⟨g4,0,none⟩) 2 2 ((bigB 2 n).map W8) ((hb4.later l9).rd (by rw[QCG,Qap])) (QaW _) rfl rfl (by rw[QCG,QbJ (by rw[hf3,Qap];omega),hf3];omega) ?_;intro wa hba hoa
     rw[QCT (by rw[QCG,Qap];omega),Qdu]at hba
     have Ca:=(C9.write 0 rfl hoa hba).drew
     obtain⟨c0,c1,c2,c3,c4⟩:=Qa5 (Ca.nth 1 rfl)
     have hlg:=(Ca.nth 1 rfl).lt)
  | fail)
 simp only[Act.put,QCL,QCQ,QCP]
 refine Qag [] [0,1,2,3] [4] (by as_aux_lemma=>kernel_rfl) (by as_aux_lemma=>kernel_rfl) (by intro _ _ d _ _ h;cases d<;>exact h) ?_
 simp only[Qai,pick,QCD,QCE,QCF,QCJ,QCI]
 repeat (go_big_quiet_step (fail))
 refine wpQuiet_nil ?_
 go_wp2_with (first
  | (refine QaC rfl _ _ _ _ rfl 5 Tryz.underlying22 QbY w4.heap.size 30 450 450 _ _ (Ca.nth 0 rfl) A n c (p.da.map W8) (Rd.later hr Ca.lat) (QaW _) rfl rfl (by rw[QCG,QbJ (by rw[QbJ (by rw[hf3,Qap];omega),hf3,Qap];omega),QbJ (by rw[hf3,Qap];omega),hf3];omega) ?_;intro wb hbb hob
     have Cb:=Ca.write 0 rfl hob hbb)
  | fail)
 rw[←hl]at hbb
 rw[QCT (by rw[QCG];omega),Qdu,hend.out]at hbb
 go_ret2
 have ho:=Qdy hbb (Ca.at_low 0 rfl) (by rw[QCG,hlb];omega)
 rw[QCG,hlb]at ho
 exact⟨some ⟨w4.heap.size,0,none⟩,480,by rw[hR'.out,hlb];rfl,by rw[hR'.out,hlb];exact ho,Cb.lat⟩
theorem QpA {ops:Array Oper} {o:Oper} {a:Act} (hw:Region.wanted o (yielded ops a.tmps)=true) (x y:Operand) (ho:o.op= .buildSlice 22 2 #[(0,x),(1,y)]) {u v:UInt8} (hx:a.eval x=W8 u) (hy:a.eval y=W8 v):
 Makes Tryz.prog ops o (fun g=>.slice (some ⟨g,0,none⟩) 2 2) (.cells #[W8 u,W8 v] 5) a:=
 ⟨hw,fun w=>by
   unfold execOp
   rw[ho]
   simp only[QCS,QDa,QC2,hx,hy]
   simp[go_sem,W8]⟩
set_option maxRecDepth 100000 in
set_option maxHeartbeats 4000000 in
theorem QmK (c:Cmd) (h:cmdE c=0) (w:World):Calls Tryz.prog 115 #[.agg (CC c).toArray] w fun e w'=>∃A' c',e= .returned (.tuple #[.slice A' 32 c',.int .i64 0])∧OwnB w' w.heap.size A' 32 c' (encB c)∧Later w w':=by
 have C1:=Qba w 64 (CC c)
 have hCk:=hid (fun w=>QgV c w)
 rw[h]at hCk
 have hP4:=hid (fun w=>QhK 4 (by omega) (by omega) c.dl.toUInt64 (.inr (by have:=c.dl.toNat_lt;simpa using this)) w)
 have hP8:=hid (fun w=>QhK 8 (by omega) (by omega) c.nx (.inl rfl) w)
 go_enter Tryz.func115,Tryz.ntmps115
 go_wp2_with (first
  | (refine go_l rfl ?_;refine QcL rfl _ rfl (C1.nth 0 rfl) rfl ?_)
  | fail)
 refine (hCk.out _).mono ?_
 rintro e w2 ⟨rfl,j2⟩
 have C2:=C1.later j2
 obtain⟨k0,k1,k2,k3,k4⟩:=Qen (C2.nth 0 rfl)
 go_wp2_with fail
 refine (hP4.out w2).mono ?_
 rintro e w3 ⟨g3,rfl,hg3,hb3,j3⟩
 have C3:=C2.later j3
 obtain⟨k0,k1,k2,k3,k4⟩:=Qen (C3.nth 0 rfl)
 go_wp2_with fail
 refine (hP8.out w3).mono ?_
 rintro e w4 ⟨g4,rfl,hg4,hb4,j4⟩
 have C4:=(C3.later j4).drew
 have hB3:=(hb3.later j4).drew
 have hB4:=hb4.drew
 obtain⟨k0,k1,k2,k3,k4⟩:=Qen (C4.nth 0 rfl)
 have hlw:=(C4.nth 0 rfl).lt
 have r16:RdB w4.drew (some ⟨w.heap.size,4,none⟩) 16 c.ma.val:=QhV hlw (fun j v hv=>k4 j v hv) c.ma.2
 go_wp2_with fail
 refine Qaz [0,1,2,3,5,6,7,8] [([],1,9),([],2,4),([],1,10),([],1,11)] [12,13] [] [4] (fun _=>(fun g=>.slice (some ⟨g,0,none⟩) 2 2,.cells #[W8 c.kd,W8 c.fl] 5)) (by as_aux_lemma=>kernel_rfl) (by as_aux_lemma=>kernel_rfl) (by intro _ _ d _ _ h;cases d<;>exact h) (by intro _ _ d _ _ h;cases d<;>exact h) ?_
 simp only[pick,QCD,QCE,QCF,QCJ,QCI]
 repeat (go_big_quiet_step (fail))
 refine wpQuiet_nil ?_
 refine⟨?mk,?_⟩
 case mk=>
  refine⟨fun o ho=>?_,trivial⟩
  simp only[QCD,QCE,Option.some.injEq]at ho
  subst ho
  exact QpA rfl _ _ rfl rfl rfl
 simp only[Qbn,pick,QCD,QCE,QCF,QCJ,QCI]
 refine wpQuiet_nil ?_
 intro p1 q1
 go_wp2_with (first
  | (refine Qax rfl _ _ _ rfl 5 _ 1 Tryz.underlying22 QcR rfl _ _ _ _ 2 rfl rfl rfl rfl (by omega) (by omega) ?_;intro p2 hz2 q2)
  | fail)
 try refine⟨by first|assumption|exact Qab _|exact Qaa _ _|exact Later.refl _,?_⟩
 try simp only[Qai,pick,QCD,QCE,QCF,QCJ,QCI]
 repeat (go_big_quiet_step (fail))
 refine wpQuiet_nil ?_
 intro p3 g5 q3 hg5 _ hb5
 refine wpQuiet_nil ?_
 intro p4 q4
 go_wp2_with fail
 have q5:=Qaa p4 (.cells #[.slice (some ⟨g5,0,none⟩) 2 2,.slice (some ⟨g3,0,none⟩) 4 4,.slice (some ⟨g4,0,none⟩) 8 8,.slice (some ⟨w.heap.size,4,none⟩) 16 16,.slice (some ⟨p1.heap.size,0,none⟩) 2 2] 22)
 try refine⟨by first|assumption|exact Qab _|exact Qaa _ _|exact Later.refl _,?_⟩
 try simp only[Qai,pick,QCD,QCE,QCF,QCJ,QCI]
 repeat (go_big_quiet_step (fail))
 refine wpQuiet_nil ?_
 intro p6 q6
 go_wp2_with fail
 have L6:=q1.trans (q2.trans (q3.trans (q4.trans (q5.trans q6))))
 have h4:(bigB 4 c.dl.toUInt64.toNat).length=4:=Qap _ _
 have h8:(bigB 8 c.nx.toNat).length=8:=Qap _ _
 have hz:Blk p6 p1.heap.size 5 (([0,0]:List UInt8).map W8):=Blk.later (show Blk p2 p1.heap.size 5 (([0,0]:List UInt8).map W8) from hz2) (q3.trans (q4.trans (q5.trans q6)))
 have hP:=Qd7 (((Blk.new p4 22 [.slice (some ⟨g5,0,none⟩) 2 2,.slice (some ⟨g3,0,none⟩) 4 4,.slice (some ⟨g4,0,none⟩) 8 8,.slice (some ⟨w.heap.size,4,none⟩) 16 16,.slice (some ⟨p1.heap.size,0,none⟩) 2 2]).later q6).rd rfl) (ps:=[[c.kd,c.fl],bigB 4 c.dl.toUInt64.toNat,bigB 8 c.nx.toNat,c.ma.val,[0,0]])
  ⟨QaX (Qb9 (Blk.later (show Blk p3 g5 5 (([c.kd,c.fl]:List UInt8).map W8) from hb5) (q4.trans (q5.trans q6))) rfl) (QCN _),QaX (Qb9 (hB3.later L6) h4) (QCN _),QaX (Qb9 (hB4.later L6) h8) (QCN _),QaX (r16.later L6) (QCN _),QaX (Qb9 hz rfl) (QCN _),trivial⟩
 have hfl:([[c.kd,c.fl],bigB 4 c.dl.toUInt64.toNat,bigB 8 c.nx.toNat,c.ma.val,[0,0]]:List (List UInt8)).flatten=encB c:=by
  simp only[QDT,QEQ,QDg]
  rfl
 have hJ:=QcW (some ⟨p4.heap.size,0,none⟩) 5 5 _ p6 hP (by omega) (by rw[hfl,QcH];omega)
 rw[hfl,QcH]at hJ
 refine hJ.mono ?_
 rintro e p7 ⟨A7,c7,rfl,o7,q7⟩
 clear hJ hP
 go_wp2_with fail
 try refine⟨by first|assumption|exact Qab _|exact Qaa _ _|exact Later.refl _,?_⟩
 try simp only[Qai,pick,QCD,QCE,QCF,QCJ,QCI]
 repeat (go_big_quiet_step (fail))
 refine wpQuiet_nil ?_
 intro p8 q8
 go_wp2_with fail
 go_ret2
 exact⟨A7,c7,rfl,Qcu (QaB o7 q8) (QDk C4.lat.size L6.size),C4.lat.trans (L6.trans (q7.trans q8))⟩
def hdrS (n:Nat) (sl st:Nat→List UInt8):Nat→List UInt8
 | 0=>QCC 288 0
 | j+1=>hdrA n sl st j
theorem QCe {H al be:List UInt8} (hH:H.length=288) (ha:al.length=32) (hb:be.length=240):∃Y:List UInt8,Y.length=16∧putB (putB H 0 al) 48 be=al++(Y++be):=by
 obtain⟨X,Y,Z,rfl,hX,hY,hZ⟩:∃X Y Z:List UInt8,H=X++(Y++Z)∧X.length=32∧Y.length=16∧Z.length=240:=⟨H.take 32,(H.drop 32).take 16,(H.drop 32).drop 16,by rw[QC9,QC9],by rw[QC5];omega,by rw[QC5,QC7];omega,by rw[QC7,QC7];omega⟩
 have s1:putB (X++(Y++Z)) 0 al=al++(Y++Z):=by
  have:=Qcg [] X (Y++Z) al 0 rfl (by omega)
  simpa using this
 have s2:putB (al++(Y++Z)) 48 be=al++(Y++be):=by
  have:=Qcg (al++Y) Z [] be 48 (by rw[QCM];omega) (by omega)
  simpa using this
 exact⟨Y,hY,by rw[s1,s2]⟩
theorem Qxx {al Y be:List UInt8} (ha:al.length=32) (hY:Y.length=16) (hb:be.length=240):subB (al++(Y++be)) 0 32=al∧subB (al++(Y++be)) 48 240=be:=by
 constructor
 ·rw[subB,QD8,QDV ha]
 ·rw[subB,←QCU,QDp (by rw[QCM];omega),QCT (by omega)]
theorem Qjh {w:World} {b p n:Nat} {r:List UInt8} (hb:b<w.heap.size) (hc:∀j v,(r.map W8)[j]?=some v→w.cell? ⟨b,p+j,none⟩=some v) (hn:r.length=n):RdB w (some ⟨b,p,none⟩) n r:=QhV hb hc hn
set_option maxRecDepth 100000 in
set_option maxHeartbeats 8000000 in
theorem Qqt (A B:Option Addr) (n c d:Nat) (cs:List Cmd) (xs:List (List UInt8)) (w:World) (hcr:RdF CC 20 cmd0 w A n cs) (hr:RdK 192 w B n xs) (hxl:∀x∈xs,x.length=192) (h1:1≤n) (h5:n≤5) (hnd:n≤d)
 (hok:∀i,i<n→cmdE (cs.getD i cmd0)=0∧((cs.getD i cmd0).kd=1↔i+1<n))
 (sl st:Nat→List UInt8) (hsa:∀k,(sl k).length=32) (hsl:∀i,i<n→encB (cs.getD i cmd0)=sl i) (hst:∀i,i<n→xs.getD i []=st i):
 Calls Tryz.prog 76 #[.slice A n c,.slice B n d] w fun e w'=>e= .returned (.tuple #[.agg ((hdrA n sl st (n-1)).map W8).toArray,.int .i64 0])∧Later w w':=by
 have hok':=hid hok
 obtain⟨F,hF⟩:∃F,F=48*(n-1):=⟨_,rfl⟩
 obtain⟨Z,hZ⟩:∃Z,Z=208-F:=⟨_,rfl⟩
 have hEr:=hid (fun w h=>Qt1 A n c cs w h h1 h5 hok)
 have hFi:=hid (fun w h=>QmN B n d xs st hst w h hxl h1 h5 hnd)
 rw[←hF]at hFi
 have hb0:Hid (betA n sl st 0=xorB (sl (n-1)++QCC Z 0) (chaS (subB (st (n-1)) 32 32) (32+Z))++Qe7 st (n-1)):=hid (by
  rw[betA,←hF,←hZ,show 240-F=32+Z by omega]
  rfl)
 have hsll:=hid hsa
 have hstl:Hid (∀ i,i<n→(st i).length=192):=hid (fun i hi=>by rw[←hst i hi];exact hxl _ (QdL xs i (by have:=hr.1;omega)))
 obtain⟨bS,oS,rfl,hbS,hcS⟩:∃b o,B=some ⟨b,o,none⟩∧b<w.heap.size∧∀k,k<n→∀(w':World),Later w w'→∀(off q:Nat) (r:List UInt8),subB (st k) off q=r→∀j v,(r.map W8)[j]?=some v→w'.cell? ⟨b,o+k*192+off+j,none⟩=some v:=by
  obtain⟨b,o,hA,hb,_⟩:=hr.sub (k:=0) (by omega)
  refine⟨b,o,hA,hb,fun k hk=>?_⟩
  obtain⟨b',o',hA',_,h⟩:=hr.sub (k:=k) hk
  rw[hA]at hA'
  cases hA'
  rw[←hst k hk]
  exact h
 replace hcS:=hid hcS
 have hcM:Hid (∀ k,k<n→∀(w':World),Later w w'→∀j v,((subB (st k) 0 32).map W8)[j]?=some v→w'.cell? ⟨bS,oS+k*192+j,none⟩=some v):=hid (fun k hk w' h j v hv=>by
  have:=hcS.out k hk w' h 0 32 _ rfl j v hv
  rwa [QEm]at this)
 have hkl:Hid (∀ k off,k<n→off+32≤192→(subB (st k) off 32).length=32):=hid (fun k off hk ho=>Qam (by rw[hstl.out k hk];omega))
 have hbl:=hid (fun j=>Qbw (st:=st) h1 h5 hsa j)
 have hsl':=hid hsl
 have hZ1:(240:Int)-(F:Int)-32=(Z:Int):=by omega
 have hZF:32+Z+F=240:=by omega
 clear hst hsl hF hZ hok hxl
 have B0:Bag w (w.alloc (.cells Tryz.zeroCells34 34)) [(w.heap.size,34,(QCC 288 (0:UInt8)).map W8)]:=(Bag.none w).add (Qaa _ _) (by simp) (QCN _) ((Blk.new w _ Tryz.zeroCells34.toList).cast zcH)
 go_enter Tryz.func76,Tryz.ntmps76
 go_wp2_with fail
 refine (hEr.out _ (hcr.later B0.lat)).mono ?_
 rintro e w1 ⟨rfl,j1⟩
 have B1:=B0.later j1
 go_wp2_with fail
 refine (hFi.out w1 (hr.later B1.lat)).mono ?_
 rintro e w2 ⟨A2,c2,rfl,o2,j2⟩
 have B2:=B1.later j2
 have rF:=OwnB.rd o2
 have cF:=OwnB.cap o2
 clear hEr hFi B0 B1 o2
 have hB3:Blk (w2.alloc (.cells Tryz.zeroCells34 34)) w2.heap.size 34 ((hdrS n sl st 0).map W8):=(Blk.new w2 _ Tryz.zeroCells34.toList).cast zcH
 go_wp2_with fail
 have l3:Later w2 (w2.alloc (.cells Tryz.zeroCells34 34)):=Qaa _ _
 generalize w2.alloc (.cells Tryz.zeroCells34 34)=w3 at *
 generalize hgH:w2.heap.size=gH at *
 go_loopw [10] (fun iv wr=>∃j:Nat,j≤n∧iv= .int .i64 ((n:Int)-1-(j:Int))∧Blk wr gH 34 ((hdrS n sl st j).map W8)∧Later w2 wr) (fun iv _=>(intOf iv+1).toNat)
 case atStart=>exact⟨0,by omega,by simp,hB3,l3⟩
 case round=>
  clear hB3 l3
  obtain⟨j,hj,rfl,hB,L⟩:=hrel
  have hLw:=(B2.lat.trans L)
  by_cases hjn:j<n
  ·obtain⟨i,hi⟩:∃i,i=n-1-j:=⟨_,rfl⟩
   have hcast:(n:Int)-1-(j:Int)=(i:Int):=by omega
   rw[hcast]
   have hin:i<n:=by omega
   have hHl:(hdrS n sl st j).length=288:=by
    cases j with
    | zero=>exact QCO
    | succ j=>
      show (hdrA n sl st j).length=288
      rw[hdrA,QCM,QCM,Qda (hstl.out _ (by omega)),hbl.out,tagA,Qbx]
   obtain⟨b,o,rfl,hbb,hc⟩:=(hcr.later hLw).at_ hin
   obtain⟨hE0,_⟩:=hok'.out i hin
   have hEn:=hid (fun w=>QmK (cs.getD i cmd0) hE0 w)
   rw[hsl'.out i hin]at hEn
   have hml:=hkl.out i 0 hin (by omega)
   have hsl3:=hkl.out i 32 hin (by omega)
   have hal:=hkl.out i 128 hin (by omega)
   have hmM:=hid (fun w' h=>hcM.out i hin w' h)
   have hmS:=hid (fun w' h=>hcS.out i hin w' h 32 32 _ rfl)
   have hmA:=hid (fun w' h=>hcS.out i hin w' h 128 32 _ rfl)
   have hge:(0:Int)≤(i:Int):=by omega
   have hbr:=hbl.out j
   have hst':Hid (hdrS n sl st (j+1)=subB (st i) 128 32++(tagB (subB (st i) 0 32) (subB (st i) 128 32) (betA n sl st j)++betA n sl st j)):=hid (by
    show hdrA n sl st j=_
    rw[hdrA,tagA,←hi]
    rfl)
   have hbe:Hid (betA n sl st j=if j=0 then xorB (sl i++QCC Z 0) (chaS (subB (st i) 32 32) (32+Z))++Qe7 st (n-1) else xorB (sl i++(subB (hdrS n sl st j) 32 16++(subB (hdrS n sl st j) 48 240).take 192)) (chaS (subB (st i) 32 32) 240)):=hid (by
    cases j with
    | zero=>
      rw[if_pos rfl,hb0.out,show i=n-1 by omega]
    | succ j=>
      obtain⟨_,h2,h3⟩:=Qkg h1 h5 hsll.out (st:=st) j (Qda (hstl.out _ (by omega)))
      rw[if_neg (by omega)]
      show _=xorB (sl i++(subB (hdrA n sl st j) 32 16++(subB (hdrA n sl st j) 48 240).take 192)) _
      rw[h2,h3,betA,show n-2-j=i by omega]
      rfl)
   generalize betA n sl st j=BJ at *
   generalize hdrS n sl st j=H at *
   generalize subB (st i) 0 32=M at *
   generalize subB (st i) 128 32=AL at *
   generalize subB (st i) 32 32=S at *
   have hslil:=hsll.out i
   replace hcast:=hid hcast
   replace hi:=hid hi
   generalize sl i=SL at *
   clear hE0
   go_wp2_with (first
    | (refine go_l rfl ?_;refine Qay rfl 64 _ rfl b (o+i*20) (CC (cs.getD i cmd0)) hc rfl _ Tryz.underlying64 rfl (by rw[Qan];exact Qep) ?_)
    | fail)
   refine (hEn.out wr).mono ?_
   rintro e w4 ⟨A4,c4,rfl,o4,j4⟩
   have r4:=OwnB.rd o4
   have cp4:=OwnB.cap o4
   clear o4 hEn
   have J4:=hLw.trans j4
   have hb4:=hB.later j4
   have hbS4:bS<w4.heap.size:=QC3 hbS J4.size
   have rS4:=Qjh hbS4 (hmS.out w4 J4) hsl3
   have rF4:=RdB.later rF (L.trans j4)
   by_cases hj0:j=0
   case' pos=>
    have e0:((i:Int)==(n:Int)-1)=true:=by have:=hi.out;simp;omega
    have hbe':=hid (hbe.out.trans (if_pos hj0))
    clear hbe
    go_wp2_with (first
     | (refine Qax rfl _ _ _ rfl 5 _ 1 Tryz.underlying22 QcR rfl _ _ _ _ Z rfl rfl rfl rfl (by omega) (by omega) ?_;intro w5 hb5 hl5)
     | fail)
    have hzZ:QCC Z (Value.int .u8 0)=(QCC Z (0:UInt8)).map W8:=by rw[QDi];rfl
    rw[hzZ]at hb5
    have r4':=RdB.later r4 hl5
    have P5:=Qer (Blk.new w5 22 [.slice A4 32 c4,.slice (some ⟨w4.heap.size,0,none⟩) Z Z]) (QaX (RdB.later r4' (Qaa _ _)) cp4) (QaX (Qb9 (hb5.later (Qaa _ _)) (by rw[QCO])) (QCN _))
    have hflt:([SL,QCC Z (0:UInt8)]:List (List UInt8)).flatten=SL++QCC Z 0:=by simp
    have hfll:(SL++QCC Z (0:UInt8)).length=32+Z:=by rw[QCM,QCO,hslil]
    have hTu:=QiN (some ⟨bS,oS+i*192+32,none⟩) 32 2 2 _ S _ _ (RdB.later rS4 (hl5.trans (Qaa _ _))) P5 (by omega) (by rw[hflt,hfll];omega)
    rw[hflt,hfll]at hTu
    clear hb5
    go_wp2_with fail
    refine hTu.mono ?_
    rintro e w6 ⟨A6,c6,rfl,o6,j6⟩
    clear hTu P5
    have J6:=hl5.trans ((Qaa w5 (.cells #[.slice A4 32 c4,.slice (some ⟨w4.heap.size,0,none⟩) Z Z] 22)).trans j6)
    have P7:=Qer (Blk.new w6 22 [.slice A6 (32+Z) c6,.slice A2 F c2]) (QaX (OwnB.rd (QaB o6 (Qaa _ _))) (OwnB.cap o6)) (QaX (RdB.later rF4 (J6.trans (Qaa _ _))) cF)
    have hfl7:([xorB (SL++QCC Z 0) (chaS S (32+Z)),Qe7 st (n-1)]:List (List UInt8)).flatten=BJ:=by rw[hbe'.out];simp
    have hJn:=QcW (some ⟨w6.heap.size,0,none⟩) 2 2 _ _ P7 (by omega) (by rw[hfl7,hbr];omega)
    rw[hfl7,hbr]at hJn
    go_wp2_with fail
    refine hJn.mono ?_
    rintro e w9 ⟨A9,c9,rfl,o9,j9⟩
    clear hJn P7
    have L9:Later w4 w9:=J6.trans ((Qaa _ _).trans j9)
    clear o6 j9 j6 J6 hbe'
   case' neg=>
    have e0:((i:Int)==(n:Int)-1)=false:=by have:=hi.out;simp;omega
    have hbe':=hid (hbe.out.trans (if_neg hj0))
    clear hbe
    have hbd:=hb4.drew
    have hlH:=hbd.lt
    have h3:(subB H 32 16).length=16:=Qam (by omega)
    have h4:(subB H 48 240).length=240:=Qam (by omega)
    have hbS4d:=QC3 hbS4 (Qab w4).size
    go_wp2_with fail
    refine Qag [([0,1,2,3,4,5,6,7,8,9,10],11),([],12)] [13,14,15,16,17] [] (by as_aux_lemma=>kernel_rfl) (by as_aux_lemma=>kernel_rfl) (by intro _ _ d _ _ h;cases d<;>exact h) ?_
    simp only[Qai,pick,QCD,QCE,QCF,QCJ,QCI]
    repeat (go_big_quiet_step (fail))
    refine wpQuiet_nil ?_
    go_wp2_with fail
    try refine⟨by first|assumption|exact Qab _|exact Qaa _ _|exact Later.refl _,?_⟩
    try simp only[Qai,pick,QCD,QCE,QCF,QCJ,QCI]
    repeat (go_big_quiet_step (fail))
    refine wpQuiet_nil ?_
    go_wp2_with fail
    have JW:Later w4 (w4.alloc (.cells #[.slice A4 32 c4,.slice (some ⟨gH,32,none⟩) 16 16,.slice (some ⟨gH,48,none⟩) 192 240] 22)).drew:=(Qaa _ _).trans (Qab _)
    have hP:=Qd7 ((Blk.new w4 22 [.slice A4 32 c4,.slice (some ⟨gH,32,none⟩) 16 16,.slice (some ⟨gH,48,none⟩) 192 240]).drew.rd rfl) (ps:=[SL,subB H 32 16,(subB H 48 240).take 192]) ⟨QaX (RdB.later r4 JW) cp4,QaX (QbK (hb4.later JW) rfl h3) (QCN _),QaX (RdB.take (QbK (hb4.later JW) rfl h4) (by omega)) (by omega),trivial⟩
    have hfl:([SL,subB H 32 16,(subB H 48 240).take 192]:List (List UInt8)).flatten=SL++(subB H 32 16++(subB H 48 240).take 192):=by simp
    have hfll:(SL++(subB H 32 16++(subB H 48 240).take 192)).length=240:=by rw[QCM,QCM,QC5];omega
    have hTu:=QiN (some ⟨bS,oS+i*192+32,none⟩) 32 3 3 _ S _ _ (RdB.later rS4 JW) hP (by omega) (by rw[hfl,hfll];omega)
    rw[hfl,hfll,←hbe'.out]at hTu
    refine hTu.mono ?_
    rintro e w9 ⟨A9,c9,rfl,o9,j9⟩
    have L9:Later w4 w9:=JW.trans j9
    go_wp2_with fail
    try refine⟨by first|assumption|exact Qab _|exact Qaa _ _|exact Later.refl _,?_⟩
    try simp only[Qai,pick,QCD,QCE,QCF,QCJ,QCI]
    repeat (go_big_quiet_step (fail))
    refine wpQuiet_nil ?_
    clear hTu hP hfl hfll hbd hlH h3 h4 hbS4d hbe'
   all_goals
    have hb9:=hb4.later L9
    have J9:=J4.trans L9
    have hbS9:=QC3 hbS4 L9.size
    have dA:=hmA.out w9 J9
    obtain⟨Y,hY,hH2⟩:=QCe (be:=BJ) hHl hal hbr
    obtain⟨hsA,hsB⟩:=Qxx hal hY hbr
    replace hH2:=hid hH2
    have hH1:(putB H 0 AL).length=288:=by rw[QbJ (by omega),hHl]
    go_wp2_with (first
     | (refine go_l rfl ?_;refine Qfi rfl _ rfl dA hal rfl ?_)
     | (refine Qbg rfl ?_;refine Qm9 0 32 rfl rfl _ _ rfl hb9 rfl rfl Qbe hal (by omega) ?_;intro wa hba hoa
        have la:Later w2 wa:=(L.trans (j4.trans L9)).only hoa (by rw[←hgH];exact QCN _)
        have r9b:=OwnB.rd (QaH o9 hb9 (by decide) hoa))
     | (refine QjI 48 240 rfl _ _ _ _ rfl 5 Tryz.underlying22 QbY hba r9b rfl rfl (by omega) ?_;intro wb hbb hob)
     | fail)
    rw[hH2.out]at hbb
    simp only[Act.put,QCL,QCQ,QCP]
    have lb:Later w2 wb:=la.only hob (by rw[←hgH];exact QCN _)
    have hbd:=hbb.drew
    have hlH:=hbd.lt
    have Jb:=B2.lat.trans lb
    have hbSb:bS<wb.drew.heap.size:=QC3 hbS (Jb.trans (Qab _)).size
    clear hba hoa hob la hb9 o9 dA
    refine Qag [([0,1,2,3,4,5,6,7,8,9,10,11],12),([],13)] [] [14] (by as_aux_lemma=>kernel_rfl) (by as_aux_lemma=>kernel_rfl) (by intro _ _ d _ _ h;cases d<;>exact h) ?_
    simp only[Qai,pick,QCD,QCE,QCF,QCJ,QCI]
    repeat (go_big_quiet_step (fail))
    refine wpQuiet_nil ?_
    go_wp2_with fail
    try refine⟨by first|assumption|exact Qab _|exact Qaa _ _|exact Later.refl _,?_⟩
    try simp only[Qai,pick,QCD,QCE,QCF,QCJ,QCI]
    repeat (go_big_quiet_step (fail))
    refine wpQuiet_nil ?_
    go_wp2_with fail
    have JW:Later wb (wb.alloc (.cells #[.slice (some ⟨gH,0,none⟩) 32 32,.slice (some ⟨gH,48,none⟩) 240 240] 22)).drew:=(Qaa _ _).trans (Qab _)
    have hbW:=hbb.later JW
    have hP:=Qd7 ((Blk.new wb 22 [.slice (some ⟨gH,0,none⟩) 32 32,.slice (some ⟨gH,48,none⟩) 240 240]).drew.rd rfl) (ps:=[AL,BJ]) ⟨QaX (QbK hbW hsA hal) (QCN _),QaX (QbK hbW hsB hbr) (QCN _),trivial⟩
    have hfl:([AL,BJ]:List (List UInt8)).flatten=AL++BJ:=by simp
    have rM:=Qjh (QC3 (QC3 hbS Jb.size) JW.size) (hmM.out _ (Jb.trans JW)) hml
    have hSh:=QlV (some ⟨bS,oS+i*192,none⟩) (some ⟨wb.heap.size,0,none⟩) 32 32 2 2 M [AL,BJ] _ rM (QCN _) (by omega) hP (by omega) (by rw[hfl,QCM];omega)
    rw[hfl]at hSh
    have hTg:Hid ((QbH M (AL++BJ)).take 16=tagB M AL BJ):=hid rfl
    rw[hTg.out]at hSh
    have hTl:=Qbx M AL BJ
    generalize tagB M AL BJ=TG at *
    refine hSh.mono ?_
    rintro e wc ⟨Ac,cc,rfl,oc,jc⟩
    go_wp2_with fail
    try refine⟨by first|assumption|exact Qab _|exact Qaa _ _|exact Later.refl _,?_⟩
    try simp only[Qai,pick,QCD,QCE,QCF,QCJ,QCI]
    repeat (go_big_quiet_step (fail))
    refine wpQuiet_nil ?_
    have hbc:=hbW.later jc
    go_wp2_with (first
     | (refine QjI 32 16 rfl _ _ _ _ rfl 5 Tryz.underlying22 QbY hbc (OwnB.rd oc) rfl rfl (by rw[QCM,QCM];omega) ?_;intro wd hbd2 hod)
     | fail)
    rw[Qcg AL Y BJ TG 32 hal (by omega),←hst'.out]at hbd2
    exact⟨⟨j+1,by omega,by rw[show (n:Int)-1-((j+1:Nat):Int)=(i:Int)-1 by have:=hcast.out;omega],hbd2,(lb.trans (JW.trans jc)).only hod (by rw[←hgH];exact QCN _)⟩,by simp only[intOf];omega⟩
  ·have hjn':j=n:=by omega
   have fge:decide ((0:Int)≤(n:Int)-1-(j:Int))=false:=decide_eq_false (by omega)
   obtain⟨m,rfl⟩:∃m,n=m+1:=⟨n-1,by omega⟩
   have hH:Hid (hdrS (m+1) sl st j=hdrA (m+1) sl st m):=hid (by rw[hjn'];rfl)
   have hHl:(hdrS (m+1) sl st j).length=288:=by
    rw[hH.out,hdrA,QCM,QCM,Qda (hstl.out _ (by omega)),hbl.out,tagA,Qbx]
   have hB0:=(B2.later L).nth 0 rfl
   have hz:((QCC 288 (0:UInt8)).map W8).length=288:=by rw[QCG,QCO]
   replace hjn':=hid hjn'
   generalize hdrS (m+1) sl st j=H at *
   go_wp2_with (first
    | (refine go_l rfl ?_;refine Qof rfl _ rfl hB hHl rfl ?_)
    | (refine Qbg rfl ?_;refine QeK rfl rfl _ _ rfl hB0 rfl rfl hHl hz ?_;intro w5 hb5 ho5)
    | fail)
   exact bodyPost_ret (Qaf rfl _ _ _ _ _ _ hb5 rfl Tryz.underlying34 rfl (by rw[QCG,hHl];exact Qc7)) rfl ⟨by rw[hH.out];rfl,hLw.only ho5 (QCN _)⟩
theorem Qqx (kd:UInt8) (hs:List Hp) (n i:Nat) (h:i<n):(QeY kd hs n).getD i cmd0=QbS (lcK kd) hs i:=by
 rw[QeY,QCK,QCY,QEC h]
 rfl
theorem Qnm (x:List UInt8) (ps:List (List UInt8)) (n i:Nat) (h:i<n):(Qch x ps n).getD i []=Qcj x ps i:=by
 rw[Qch,QCK,QCY,QEC h]
 rfl
theorem Qqh (b c:Nat):QbZ [1,b,c]=1:=by
 have h1:∀e:Nat,(if e≠0∧((1:Nat)=0∨e<1) then e else 1)=1:=fun e=>if_neg (by omega)
 show (if c≠0∧((if b≠0∧((1:Nat)=0∨b<1) then b else 1)=0∨c<(if b≠0∧((1:Nat)=0∨b<1) then b else 1)) then c else (if b≠0∧((1:Nat)=0∨b<1) then b else 1))=1
 rw[h1,h1]
theorem Qjg (ks:List (List UInt8)) (j:Nat) (h:j<ks.length):ks.reverse.take (j+1)=ks.reverse.take j++[ks.getD (ks.length-1-j) []]:=by
 have hj:j<ks.reverse.length:=by rw[QED];exact h
 rw[QDd hj,List.getElem_reverse,QCK,QCH (show ks.length-1-j<ks.length by omega)]
 rfl
theorem QpX (rs:List Int) (p b:List UInt8):Qf1 rs [p] b=Qdx p rs b:=rfl
theorem Qlu {n:Nat} {st:Nat→List UInt8} {body:List UInt8} {ps:List (List UInt8)} (hn:ps.length=n) (hk:∀k,k<n→ps.getD k []=kPay (st k)) (hst:∀k,(st k).length=192) (hb:body.length=480):∀j,j≤n→Qf1 rsS (ps.reverse.take j) body=seaA n st body j
 | 0,_=>rfl
 | j+1,hj=>by
   have ih:=Qlu hn hk hst hb j (by omega)
   have hl:=Qc1 (n:=n) hst hb j
   have hkl:(kPay (st (n-1-j))).length=32:=Qam (by rw[hst];omega)
   rw[Qjg _ _ (by omega),Qhb,ih,hn,hk _ (by omega),QpX,seaA]
   generalize seaA n st body j=X at *
   generalize kPay (st (n-1-j))=K at *
   exact (QsS okS hkl (by omega) (by omega)).2.symm
theorem Qu3 {n:Nat} {st:Nat→List UInt8} {body:List UInt8} {ps:List (List UInt8)} (hn:ps.length=n) (hk:∀k,k<n→ps.getD k []=kPay (st k)) (hst:∀k,(st k).length=192) (hb:body.length=480):allB rsS ps.reverse body=seaA n st body n∧allE ps.reverse body=0:=by
 have hok:QlO body∧okK ps.reverse:=⟨⟨by omega,by omega⟩,fun p hp=>by
  obtain⟨k,hk',rfl⟩:=QEO (List.mem_reverse.1 hp)
  have:=hk k (by omega)
  rw[QCK,QCH hk']at this
  show ps[k].length=32
  have e:ps[k]=kPay (st k):=this
  rw[e]
  exact Qam (by rw[hst];omega)⟩
 obtain⟨h1,h2⟩:= @Qty rsS _ _ hok
 have:=Qlu hn hk hst hb n (QCN _)
 rw[QCT (by rw[QED];omega)]at this
 exact⟨h1.trans this,h2⟩
theorem QpD {w:World} {g n:Nat} {gs:List Nat} {hs:List Hp} (hl:hs.length=n) (hb:Blk w g 22 (gs.map S32)) (hg:gs.length=n) (hgs:∀(j b:Nat),gs[j]?=some b→g<b∧Blk w b 5 ((hs.getD j hp0).nod.pub.val.map W8)):Parts w (fun _=>False) (some ⟨g,0,none⟩) n (pubH hs):=by
 refine⟨gs.map S32,hb.rd (by rw[QCG,hg]),fun _ _ _ h=>h,by rw[QCG,hg,pubH,QCG,hl],fun j v p hv hp=>?_⟩
 rw[QCY,QEb]at hv
 obtain⟨b,hbj,rfl⟩:=hv
 rw[pubH,QCY,QEb]at hp
 obtain⟨x,hx,rfl⟩:=hp
 have:=(hgs j b hbj).2
 rw[QCK,hx]at this
 exact QaX (Qb9 this x.nod.pub.2) (QCN _)
noncomputable def bldP (x:List UInt8) (c:Cmd) (body:List UInt8) (hs:List Hp):List UInt8:=if Qce x c body hs=0 then QjH x c body hs else QCC 768 0
set_option maxRecDepth 100000 in
set_option maxHeartbeats 16000000 in
theorem QpW (kd:UInt8) (hkd:kd=2∨kd=3) (A B H:Option Addr) (nx cx nb cb n ch:Nat) (x body:List UInt8) (hs:List Hp) (w:World) (hx:RdB w A nx x) (hxc:nx≤cx) (hb:RdB w B nb body) (hbc:nb≤cb) (hnb:nb≤1048576) (hh:RdH w H n hs) (hn:n≤1048576):
 Calls Tryz.prog 51 #[.slice A nx cx,.agg (CC (lcK kd)).toArray,.slice B nb cb,.slice H n ch] w fun e w'=>e= .returned (.tuple #[.agg ((bldP x (lcK kd) body hs).map W8).toArray,.int .i64 (Qce x (lcK kd) body hs:Nat)])∧Later w w':=by
 have hl:=hh.1
 have hbl:=hb.len
 have l0:(QCC 768 (0:UInt8)).length=768:=QCO
 have B0:=(Qba w 64 (CC (lcK kd))).fresh (Qaa _ (.cells Tryz.zeroCells37 37)) (QCN _) ((Blk.new (w.alloc (.cells (CC (lcK kd)).toArray 64)) _ Tryz.zeroCells37.toList).cast zcP)
 have HZ:=hid zcP
 have HH:=hid zcH
 have hz0:=hid QgT
 have hb1:=hid (fun h hl=>QpB h hl)
 have hPa:=hid (fun w h=>Qs1 kd hkd H n ch hs w h hn)
 have hPu:=hid (fun w h=>Qk9 H n ch hs w h (by omega))
 have hSc:=hid (fun A2 c2 w h1 h2=>Qke A A2 nx cx n c2 x (pubH hs) w h1 hxc h2 (by omega))
 have hEq:Hid (Qce x (lcK kd) body hs=QbZ [QeL (lcK kd) hs,Qdr x (pubH hs),if nb=480 then 0 else 2]):=hid (by rw[Qce,hbl])
 have hR:Hid (Qce x (lcK kd) body hs≠0→bldP x (lcK kd) body hs=QCC 768 0):=hid (fun h=>by rw[bldP,if_neg h])
 have hR0:Hid (Qce x (lcK kd) body hs=0→bldP x (lcK kd) body hs=pktA n (fun i=>encB (QbS (lcK kd) hs i)) (Qcj x (pubH hs)) body 0):=hid (fun h=>by rw[bldP,if_pos h,QjH,hl])
 have hpok:=hid (fun h i (hi:i<n)=>Qkj (c:=lcK kd) (hs:=hs) h (i:=i) (by omega))
 have hp15:=hid (fun h=>QdB (c:=lcK kd) (hs:=hs) h)
 have hcg:=hid (Qqx kd hs n)
 have hsg:=hid (Qnm x (pubH hs) n)
 have hpl:Hid (Ql7 kd hs=if QeL (lcK kd) hs=0 then QeY kd hs n else []):=hid (by rw[Ql7,hl])
 have hcl:=hid (Qdk kd hs n)
 have hstl:=hid (Qco x (pubH hs))
 have hsal:=hid (QgO x (pubH hs) n)
 have hdp:=hid (fun (w:World) g (gs:List Nat) hb hg hgs=>QpD (w:=w) (g:=g) (n:=n) (gs:=gs) (hs:=hs) hl hb hg hgs)
 generalize Qce x (lcK kd) body hs=E at *
 generalize bldP x (lcK kd) body hs=R at *
 generalize QeL (lcK kd) hs=PE at *
 generalize Qdr x (pubH hs)=SE at *
 generalize Ql7 kd hs=PL at *
 generalize hZ:QCC 768 (0:UInt8)=Z at *
 go_enter Tryz.func51,Tryz.ntmps51
 go_wp2_with (first
  | (refine go_l rfl ?_;refine QcL rfl _ rfl (B0.nth 1 rfl) rfl ?_)
  | fail)
 generalize hW:World.alloc (World.alloc w _) _=wA at *
 replace B0:Bag w wA [(w.heap.size+1,37,Z.map W8),(w.heap.size,64,CC (lcK kd))]:=by
  simpa only[World.alloc,Array.size_push] using B0
 clear hW
 refine (hPa.out _ (hh.later B0.lat)).mono ?_
 rintro e w1 ⟨A1,c1,rfl,o1,j1⟩
 have B1:=B0.later j1
 have l1:(Z.map W8).length=768:=by rw[QCG,l0]
 by_cases hP1:PE=1
 ·subst hP1
  have hE1:E=1:=hEq.out.trans (Qqh _ _)
  have hX:=hid (hR.out (by omega))
  subst hE1
  clear hPa hPu hSc hEq hR hR0 hpok hp15 hcg hsg hpl hcl hstl hsal hdp
  go_wp2_with (first
   | (refine go_b rfl ?_;refine Qah ?hw 37 _ rfl (Z.map W8) (by simp only[QCS,QC2];exact hz0.out) ?_;(case hw=>rfl))
   | (refine Qbg rfl ?_;refine Qa8 rfl rfl _ _ rfl (B1.nth 0 rfl) rfl rfl l0 l1 ?_;intro w2 hb2 ho2)
   | fail)
  exact bodyPost_ret (Qaf rfl _ _ _ _ _ _ hb2 rfl Tryz.underlying37 rfl (by rw[l1];exact Qcb)) rfl ⟨by rw[hX.out];rfl,B1.lat.only ho2 (by omega)⟩
 have hne1:((PE:Int)==1)=false:=by
  rw[beq_eq_false_iff_ne]
  omega
 go_wp2_with fail
 (refine (hPu.out _ (hh.later B1.lat)).mono ?_);rintro e w2 ⟨gp,gs,rfl,_,hbg,hgl,hgs,_,j2⟩
 have hpu:=hdp.out _ _ _ hbg hgl hgs
 have B2:=B1.later j2
 clear hPa hPu hdp hbg hgl hgs B0
 go_wp2_with fail
 (refine (hSc.out _ _ _ (hx.later B2.lat) hpu).mono ?_);rintro e w3 ⟨j3,hor⟩
 have B3:=B2.later j3
 have o1':=o1.later (j2.trans j3)
 clear hSc o1 j1 j2 j3 B2 B1 hx hpu
 obtain⟨vS,hre,hok⟩:∃vS,e= .returned (.tuple #[vS,.int .i64 (SE:Nat)])∧(SE=0→∃A' c',vS= .slice A' n c'∧n≤c'∧RdK 192 w3 A' n (Qch x (pubH hs) n)):=by
  rcases hor with ⟨h,rfl⟩|⟨h,A',c',rfl,h2,h3⟩
  ·exact⟨_,rfl,fun e=>absurd e h⟩
  ·exact⟨_,by rw[h];rfl,fun _=>⟨A',c',rfl,h2,h3⟩⟩
 subst hre
 clear hor
 replace hok:=hid hok
 obtain⟨BE,hBE⟩:∃BE,BE=if nb=480 then 0 else 2:=⟨_,rfl⟩
 rw[←hBE]at hEq
 have hBd:Hid (BE=0→nb=480):=hid (fun h=>by
  by_cases e:nb=480
  ·exact e
  ·rw[hBE,if_neg e]at h
   cases h)
 have hls:=hid (fun g (w:World) h=>Qft (some ⟨g,0,none⟩) 3 3 [PE,SE,BE] w h (by omega))
 rw[←hEq.out]at hls
 have hlz:Hid (E=0→PE=0∧SE=0∧BE=0):=hid (fun h=>by
  rw[hEq.out,QbM]at h
  exact⟨h _ (by simp),h _ (by simp),h _ (by simp)⟩)
 clear hEq
 by_cases hE:E=0
 case neg=>
  have hne:((E:Int) != 0)=true:=bne_iff_ne.2 (by omega)
  have hX:=hid (hR.out hE)
  clear hR hR0 hpok hp15 hcg hsg hpl hcl hstl hsal hok hlz hBd
  by_cases h480:nb=480
  ·have hne4:((nb:Int) != 480)=false:=by simp;omega
   obtain rfl:BE=0:=by rw[hBE,if_pos h480]
   clear h480 hBE
   go_wp2_with fail
   refine (hls.out _ _ ((Blk.new w3 27 [.int .i64 (PE:Int),.int .i64 (SE:Int),.int .i64 0]).rd rfl)).mono ?_;rintro e w4 ⟨rfl,j4⟩
   have B4:=(B3.later (Qaa w3 (.cells #[.int .i64 (PE:Int),.int .i64 (SE:Int),.int .i64 0] 27))).later j4
   go_wp2_with (first
    | (refine go_b rfl ?_;refine Qah ?hw 37 _ rfl (Z.map W8) (by simp only[QCS,QC2];exact hz0.out) ?_;(case hw=>rfl))
    | (refine Qbg rfl ?_;refine Qa8 rfl rfl _ _ rfl (B4.nth 0 rfl) rfl rfl l0 l1 ?_;intro w5 hb5 ho5)
    | fail)
   exact bodyPost_ret (Qaf rfl _ _ _ _ _ _ hb5 rfl Tryz.underlying37 rfl (by rw[l1];exact Qcb)) rfl ⟨by rw[hX.out];rfl,B4.lat.only ho5 (by omega)⟩
  ·have hne4:((nb:Int) != 480)=true:=by simp;omega
   obtain rfl:BE=2:=by rw[hBE,if_neg h480]
   clear h480 hBE
   go_wp2_with fail
   refine (hls.out _ _ ((Blk.new w3 27 [.int .i64 (PE:Int),.int .i64 (SE:Int),.int .i64 2]).rd rfl)).mono ?_;rintro e w4 ⟨rfl,j4⟩
   have B4:=(B3.later (Qaa w3 (.cells #[.int .i64 (PE:Int),.int .i64 (SE:Int),.int .i64 2] 27))).later j4
   go_wp2_with (first
    | (refine go_b rfl ?_;refine Qah ?hw 37 _ rfl (Z.map W8) (by simp only[QCS,QC2];exact hz0.out) ?_;(case hw=>rfl))
    | (refine Qbg rfl ?_;refine Qa8 rfl rfl _ _ rfl (B4.nth 0 rfl) rfl rfl l0 l1 ?_;intro w5 hb5 ho5)
    | fail)
   exact bodyPost_ret (Qaf rfl _ _ _ _ _ _ hb5 rfl Tryz.underlying37 rfl (by rw[l1];exact Qcb)) rfl ⟨by rw[hX.out];rfl,B4.lat.only ho5 (by omega)⟩
 obtain⟨hp0,hs0,hb0⟩:=hlz.out hE
 obtain rfl:=hBd.out hb0
 subst hE hp0 hs0 hb0
 have hR':=hR0.out rfl
 obtain⟨A4,c4,rfl,hc4,hrk⟩:=hok.out rfl
 rw[if_pos rfl]at hpl
 obtain⟨_,_,hn1,hn5,_,_⟩:=hp15.out rfl
 rw[hl]at hn1 hn5
 have hPL:PL=QeY kd hs n:=hpl.out
 subst hPL
 rw[hcl.out]at o1' ⊢
 have hcok:=hid (fun i (hi:i<n)=>show cmdE ((QeY kd hs n).getD i cmd0)=0∧(((QeY kd hs n).getD i cmd0).kd=1↔i+1<n) from by
  rw[hcg.out i hi]
  have:=hpok.out rfl i hi
  rwa [hl]at this)
 have hcg':=hid (fun i (hi:i<n)=>show encB ((QeY kd hs n).getD i cmd0)=(fun i=>encB (QbS (lcK kd) hs i)) i from by rw[hcg.out i hi])
 have hsa:Hid (∀ k,((fun i=>encB (QbS (lcK kd) hs i)) k).length=32):=hid (fun k=>QcH _)
 generalize QeY kd hs n=CS at *
 generalize (fun i=>encB (QbS (lcK kd) hs i))=sl at *
 obtain⟨hsA,hsZ⟩:=Qu3 (n:=n) (st:=Qcj x (pubH hs)) (body:=body) (ps:=Qd4 (Qch x (pubH hs) n)) (by rw[QcS];exact hrk.1) (fun k hk=>by rw[Qib _ _ (by rw[hrk.1];exact hk),hsg.out k hk];rfl) hstl.out hbl
 have hsl8:=Qc1 (n:=n) (st:=Qcj x (pubH hs)) hstl.out hbl n
 have hpyl:(Qd4 (Qch x (pubH hs) n)).length=n:=by rw[QcS];exact hrk.1
 have hpy3:Hid (∀ p∈Qd4 (Qch x (pubH hs) n),p.length=32):=hid (fun p hp=>by
  obtain⟨s,hs,rfl⟩:=QDu.1 hp
  exact Qam (by rw[hsal.out s hs];omega))
 have hHl:(hdrA n sl (Qcj x (pubH hs)) (n-1)).length=288:=by
  rw[hdrA,QCM,QCM,Qda (hstl.out _),Qbw hn1 hn5 hsa.out,tagA,Qbx]
 have hPy:=hid (fun w h=>QtL A4 n c4 (Qch x (pubH hs) n) w h hsal.out (by omega))
 have hRt:=hid (fun j h=>Qjg (Qd4 (Qch x (pubH hs) n)) j h)
 have hHb:=hid (fun (w:World) h1 h2=>Qqt A1 A4 n c1 c4 CS (Qch x (pubH hs) n) w h1 h2 hsal.out hn1 hn5 hc4 hcok.out sl (Qcj x (pubH hs)) hsa.out hcg'.out hsg.out)
 have hRv:R=hdrA n sl (Qcj x (pubH hs)) (n-1)++seaA n (Qcj x (pubH hs)) body n:=hR'
 have hSa:=hid (fun A B d e0 w h1 h2 h3=>QmB A B 480 d n e0 (Qd4 (Qch x (pubH hs) n)).reverse body w h1 h2 h3 (by omega) (by omega))
 rw[hsA,hsZ,hsl8]at hSa
 clear hsA hsZ hcok hcg' hsa hR hR0 hR' hpok hp15 hcg hpl hcl hok hlz hBd hBE
 generalize hdrA n sl (Qcj x (pubH hs)) (n-1)=HD at *
 generalize seaA n (Qcj x (pubH hs)) body n=SB at *
 clear hsg hstl
 generalize Qd4 (Qch x (pubH hs) n)=PS at *
 generalize Qch x (pubH hs) n=XS at *
 go_wp2_with fail
 refine (hls.out _ _ ((Blk.new w3 27 [.int .i64 0,.int .i64 0,.int .i64 0]).rd rfl)).mono ?_;rintro e w4 ⟨rfl,j4⟩
 have J4:=(Qaa w3 (.cells #[.int .i64 0,.int .i64 0,.int .i64 0] 27)).trans j4
 have B4:=B3.later J4
 clear hls
 go_wp2_with fail
 (refine (hHb.out _ (o1'.later J4) (hrk.later J4)).mono ?_);rintro e w5 ⟨rfl,j5⟩
 have B5:=B4.later j5
 have hrk5:=hrk.later (J4.trans j5)
 clear hHb o1' hrk B4 B3
 go_wp2_with (first
  | (refine Qbg rfl ?_;refine QeK rfl rfl _ _ rfl ((Blk.new w5 _ Tryz.zeroCells34.toList).cast HH.out) rfl rfl hHl (by rw[QCG,QCO]) ?_;intro w6 hb6 ho6)
  | fail)
 have B6:=B5.push (Qaa _ _) (QCN _) ho6 hb6
 have hrk6:=hrk5.later ((Qaa w5 (.cells Tryz.zeroCells34 34)).only ho6 (QCN _))
 clear hrk5 B5 ho6 hb6
 go_wp2_with fail
 (refine (hPy.out _ hrk6).mono ?_);rintro e w7 ⟨gs,rfl,hgs,P7⟩
 have hpp:=Qqe P7 hgs hpyl hpy3.out
 have B7:=B6.later P7.lat
 clear hPy P7 B6 hrk6 hgs
 obtain⟨AP,hAP⟩:∃AP,AP=some (⟨w6.heap.size,0,none⟩:Addr):=⟨_,rfl⟩
 rw[←hAP]at hpp ⊢
 clear hAP
 go_wp2_with (first
  | (refine Qci rfl _ _ _ rfl 22 (.slice none 0 0) 24 Tryz.underlying48 Qq7 rfl _ _ _ _ 0 n rfl rfl ?hL ?hC (by omega) (by omega) (by omega) ?_;(case hL=>rfl);(case hC=>rfl);intro w8 hown8 hl8)
  | fail)
 go_loopw [19,20] (fun v i wr=>∃(j:Nat) (A':Option Addr) (c':Nat) (us:List Value),j≤n∧i= .int .i64 ((n:Int)-1-(j:Int))∧v= .slice A' j c'∧wr.ownsRow w7.heap.size 22 1 (.slice A' j c') j us∧us.length=j∧Hid (∀ (q:Nat) v p,us[q]?=some v→(PS.reverse.take j)[q]?=some p→Part w7 (fun _=>False) v p)∧Later w7 wr) (fun _ i _=>(intOf i+1).toNat)
 case atStart=>exact⟨0,_,_,[],by omega,by simp,rfl,hown8,rfl,hid (fun q v p h=>by simp at h),hl8⟩
 case round=>
  clear hown8 hl8
  obtain⟨j,A9,c9,us,hj,rfl,rfl,hown,hul,hu3,LB⟩:=hrel
  by_cases hjn:j<n
  ·obtain⟨i,hi⟩:∃i,i=n-1-j:=⟨_,rfl⟩
   have hcast:(n:Int)-1-(j:Int)=(i:Int):=by omega
   rw[hcast]
   have hik:i<n:=by omega
   obtain⟨b,o,Ak,nk,ck,rfl,hbb,hck,hcap,hrd,hav⟩:=hpp.at_ hik
   have hck':=(LB.below.cell (p:=⟨b,o+i,none⟩) hbb).trans hck
   have hbr:=QC3 hbb LB.size
   have HS:=hid (hRt.out j (by rw[hpyl];exact hjn))
   rw[hpyl,←hi]at HS
   generalize PS.getD i []=q at *
   replace hcast:=hid hcast
   replace hi:=hid hi
   have hge:(0:Int)≤(i:Int):=by omega
   clear hck
   go_wp2_with (first
    | (refine Qbu rfl _ _ _ rfl 22 _ 24 Tryz.underlying48 Qq7 rfl w7 _ j us (QaB hown (Qaa _ _)) (LB.trans (Qaa _ _)) _ 1 1 [.slice Ak nk ck] (QjK (Qnr wr _ [.slice Ak nk ck] (by simp))) ?h1 rfl rfl (by omega) (by omega) ?_;(case h1=>simp[QsV]);intro A2 c2 w2 hown2 hl2 hg2 _)
    | fail)
   exact⟨⟨j+1,A2,c2,us++[.slice Ak nk ck],by omega,by rw[show (n:Int)-1-((j+1:Nat):Int)=(i:Int)-1 by have:=hcast.out;omega],rfl,hown2,by rw[QCM,hul];rfl,hid (fun q' v p hv hp=>by
    rw[HS.out]at hp
    rcases QDF q' j with h|h
    ·rw[QC0 (by omega)]at hv
     rw[QC0 (by rw[QC5,QED];omega)]at hp
     exact hu3.out q' v p hv hp
    ·have hq:q'=j:=by
      have:=(QCX.1 hv).1
      simp[hul]at this
      omega
     subst hq
     rw[QCR (by omega),hul,QD0]at hv
     rw[QCR (by rw[QC5,QED];omega),QC5,QED,hpyl,QDG (by omega),QD0]at hp
     cases hv
     cases hp
     exact⟨Ak,nk,ck,rfl,hcap,hrd,fun _ _ _ h=>h⟩),hl2⟩,by simp only[intOf];omega⟩
  ·obtain rfl:j=n:=by omega
   have B8:=B7.later LB
   have hge: ¬(0:Int)≤(j:Int)-1-(j:Int):=by omega
   rw[QCT (by rw[QED];omega)]at hu3
   have hpr:Parts wr (fun _=>False) A9 j PS.reverse:=⟨us,QjK hown,fun _ _ _ h=>h,by rw[hul,QED,hpyl],fun q v p hv hp=>(hu3.out q v p hv hp).later LB⟩
   clear hpp hu3 hown B7
   go_wp2_with fail
   (refine (hSa.out _ _ _ _ _ (hb.later B8.lat) hbc hpr).mono ?_);rintro e w9 ⟨j9,A10,c10,rfl,o10⟩
   have B9:=B8.later j9
   have hbu:=hid (hb1.out HD hHl)
   have hSl:=OwnB.len o10
   have lP:(HD++QCC 480 (0:UInt8)).length=768:=by rw[QCM,hHl,QCO]
   have hpt:Hid (putB (HD++QCC 480 (0:UInt8)) 288 SB=R):=hid (by rw[hRv,Qe9 _ _ _ 288 hHl (by rw[QCO,hSl])])
   have hRl:R.length=768:=by rw[hRv,QCM,hHl,hSl]
   clear hSa hpr B8 hRv
   generalize HD++QCC 480 (0:UInt8)=P1 at *
   go_wp2_with (first
    | (refine go_l rfl ?_;refine Qof rfl _ rfl (B9.nth 0 rfl) hHl rfl ?_)
    | (refine go_b rfl ?_;refine Qah ?hw 37 _ rfl (P1.map W8) (by simp only[QCS,QDa,QC2];exact hbu.out) ?_;(case hw=>rfl))
    | (refine Qbg rfl ?_;refine Qa8 rfl rfl _ _ rfl ((Blk.new w9 _ Tryz.zeroCells37.toList).cast HZ.out) rfl rfl lP l1 ?_;intro wa hba hoa
       have Ba:=B9.push (Qaa _ _) (QCN _) hoa hba
       have oa:=o10.later ((Qaa w9 (.cells Tryz.zeroCells37 37)).only hoa (QCN _)))
    | (refine QjI 288 480 rfl _ _ _ _ rfl 5 Tryz.underlying22 QbY (Ba.nth 0 rfl) (OwnB.rd oa) rfl rfl (by omega) ?_;intro wb hbb hob
       rw[hpt.out]at hbb
       have Bb:=Ba.write 0 rfl hob hbb)
    | (refine QeM rfl _ rfl (Bb.nth 0 rfl) hRl rfl ?_)
    | (refine Qa8 rfl rfl _ _ rfl (Bb.nth 2 rfl) rfl rfl hRl l1 ?_;intro wc hbc' hoc)
    | fail)
   exact bodyPost_ret (Qaf rfl _ _ _ _ _ _ hbc' rfl Tryz.underlying37 rfl (by rw[QCG,hRl];exact Qcb)) rfl ⟨rfl,Bb.lat.only hoc (by omega)⟩
end Go.Proofs.YtdhgpkdjdmlphaaGreat
