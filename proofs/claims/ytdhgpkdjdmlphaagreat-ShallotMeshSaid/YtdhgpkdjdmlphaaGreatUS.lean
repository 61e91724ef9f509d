/-
  Lemmas for the last text of this claim (part 19 of 20).
-/
import Derived.ArgAppend
import Derived.BigQuiet
import Derived.BigRegion
import Derived.ChangeOld
import Derived.Deep.RegionWith
import Derived.DeepKeys4
import Derived.JoinedCond
import Derived.LaidMore
import Derived.Laws.BytesArg
import Derived.Laws.CopyOwn
import Derived.Laws.Externs
import Derived.Laws.IdiomStrings
import Derived.Laws.Tables
import Derived.Lib.AppendStr
import Derived.Lib.AppendZerosOnto
import Derived.Lib.Mul64
import Derived.Lib.SlBytesConst
import Derived.LoopN
import Derived.Maps.OwnSet
import Derived.OpenShut
import Derived.OrdersHeld
import Derived.ProofKit
import Derived.Shelf.Spec.BitsCarry
import Derived.ShutString
import Derived.Test.YtdhgpkdjdmlphaaGreatProg
import Derived.Test.YtdhgpkdjdmlphaaGreatRows
import Derived.WalkKit
import Derived.WalkLawsBesides
import Derived.WalkSpells
import Derived.Test.YtdhgpkdjdmlphaaGreatUM
import Derived.Test.YtdhgpkdjdmlphaaGreatUO
import Derived.Test.YtdhgpkdjdmlphaaGreatUP
import Derived.Test.YtdhgpkdjdmlphaaGreatUQ
import Derived.Test.YtdhgpkdjdmlphaaGreatUR
open BitVec renaming toNat_ushiftRight → QHz
open List renaming replicate → QGn, getElem?_cons_succ → QGo, getElem?_cons_zero → QGp, getD_eq_getElem?_getD → QGq, length_map → QGr, getElem?_eq_getElem → QGt, cons_append → QGu, nil_append → QGv, setIfInBounds_toArray → QGw, length_append → QGy, set_cons_zero → QGz, length_replicate → QGA, set_cons_succ → QGB, map_toArray → QGC, take_of_length_le → QGD, getElem?_append_right → QGE, getElem?_map → QGF, getElem?_append_left → QGG, map_nil → QGH, append_assoc → QGI, getElem?_eq_some_iff → QGL, length_take → QGP, length_drop → QGQ, map_cons → QGR, length_set → QGV, append_nil → QGW, take_append_drop → QGX, take_succ_eq_append_getElem → QGY, set_append_right → QG1, mem_map → QG2, map_append → QG6, map_replicate → QG8, drop_left' → QHc, drop_eq_getElem_cons → QHw, getElem?_drop → QHA, getElem?_range → QHD, flatten_cons → QHH, getElem?_take → QHJ, take_left' → QHK, getElem_of_mem → QHQ, getElem?_set_self → QHS, getElem?_set_ne → QHU, replicate_succ → QH2, range_succ → QH5, drop_eq_nil_of_le → QIh, drop_zero → QIk, length_reverse → QIC, flatten_nil → QIH
open Nat renaming le_refl → QGx, lt_of_lt_of_le → QGN, le_trans → QG9, lt_or_ge → QHb, div_eq_of_lt → QHm, shiftRight_eq_div_pow → QHv, min_eq_left → QHx, sub_self → QHG, mod_mod → QHX, pow_mul → QId, add_zero → QIf, le_of_eq → QIs, add_sub_cancel_left → QIt
open Option renaming toList_some → QGs, map_eq_some_iff → QIg
open UInt32 renaming ofInt → QIe
open UInt64 renaming ofInt → QHo, toNat_inj → QIx
open UInt8 renaming ofNat → QG3, ofInt → QG4, toNat_inj → QHl, toNat_ofNat' → QHy
set_option linter.all false
namespace Go.Proofs.YtdhgpkdjdmlphaaGreat
open Go.RowKit
open Go.BigFrame
def putL (k n j:Nat):List UInt8:=QGn (k-j) 0++(bigB k n).drop (k-j)
theorem Qtu (k n:Nat):putL k n 0=QGn k 0:=by
 rw[putL,Nat.sub_zero,QIh (by rw[Qat];omega),QGW]
theorem QyP (k n:Nat):putL k n k=bigB k n:=by rw[putL,QHG,List.replicate_zero,QGv,QIk]
theorem QoH (k n j:Nat) (h:j≤k):(putL k n j).length=k:=by
 rw[putL,QGy,QGA,QGQ,Qat]
 omega
theorem QuA (k n j:Nat) (h:j<k):(putL k n j).set (k-1-j) (QG3 (n/256^j))=putL k n (j+1):=by
 have hg:=Qqt k n (k-1-j) (by omega)
 rw[show k-1-(k-1-j)=j by omega]at hg
 have hd:(bigB k n).drop (k-(j+1))=QG3 (n/256^j) :: (bigB k n).drop (k-j):=by
  rw[show k-(j+1)=k-1-j by omega,QHw (by rw[Qat];omega),show k-1-j+1=k-j by omega]
  rw[QGt (by rw[Qat];omega)]at hg
  rw[Option.some.inj hg]
 rw[putL,putL,hd,show k-j=(k-(j+1))+1 by omega,List.replicate_succ',QGI,QG1 _ _ (by rw[QGA];omega),QGA,show k-1-j-(k-(j+1))=0 by omega]
 rfl
theorem QwM (n:UInt64) (j:Nat):(QhT n (8*j)).toUInt8=QG3 (n.toNat/256^j):=by
 apply QHl.1
 have e:(QhT n (8*j)).toNat=n.toNat/2^(8*j):=by
  show (n.toBitVec >>> (8*j)).toNat=_
  rw[QHz,QHv]
  rfl
 rw[UInt64.toNat_toUInt8,e,QHy,show (2:Nat)^(8*j)=256^j by rw[show (256:Nat)=2^8 from rfl,←QId]]
theorem QwT (n:UInt64) (k:Nat) (h:n.toNat<256^k):QhT n (8*k)=0:=by
 apply QIx.1
 show (n.toBitVec >>> (8*k)).toNat=_
 rw[QHz,QHv,show (2:Nat)^(8*k)=256^k by rw[show (256:Nat)=2^8 from rfl,←QId]]
 exact QHm h
theorem cnt8 (k:Nat) (h:k≤8):cnt (8*QHo (k:Int))=8*k:=(by decide:∀k:Fin 9,cnt (8*QHo (k.val:Int))=8*k.val) ⟨k,by omega⟩
set_option maxRecDepth 100000 in
set_option maxHeartbeats 4000000 in
theorem Qiw (k:Nat) (hk:1≤k) (h8:k≤8) (n:UInt64) (hn:k=8∨n.toNat<256^k) (w:World):
 Calls Tryz.prog 90 #[.int .i64 2,.int .i64 (k:Int),W64 n] w fun e w'=>∃g,e= .returned (.tuple #[.slice (some ⟨g,0,none⟩) k k,.int .i64 0])∧w.heap.size≤g∧Blk w' g 5 ((bigB k n.toNat).map W8)∧Later w w':=by
 have hv:=hid (Qku k hk h8)
 have hf:=hid (fun h=>QwT n k h)
 have hst:=hid (QuA k n.toNat)
 have hpl:=hid (QoH k n.toNat)
 have hp0:=hid (Qtu k n.toNat)
 have hpk:=hid (QyP k n.toNat)
 have hpb:=hid (QwM n)
 go_enter Tryz.func90,Tryz.ntmps90
 go_wp2_with fail
 refine (hv.out w).mono ?_
 rintro e w1 ⟨rfl,j1⟩
 have hck:=cnt8 k h8
 have hT:Hid ((decide ((k:Int)<8)=false)∨(decide ((k:Int)<8)=true∧QhT n (8*k)=0)):=hid (by
  by_cases h:k=8
  ·exact .inl (decide_eq_false (by omega))
  ·exact .inr ⟨decide_eq_true (by omega),hf.out (hn.resolve_left h)⟩)
 clear hf hn
 rcases hT.out with hT1|⟨hT1,hT2⟩
 all_goals
  clear hT
  go_wp2_with (first
   | (refine QaA rfl _ _ _ rfl 5 _ 1 Tryz.underlying22 Qc4 rfl _ _ _ _ k rfl rfl rfl rfl (by omega) (by omega) ?_;intro w2 hb2 hl2)
   | fail)
  replace hb2:Blk w2 w1.heap.size 5 ((putL k n.toNat 0).map W8):=by
   rw[hp0.out,QG8]
   exact hb2
  have L2:=j1.trans hl2
  have hg1:=j1.size
  clear hl2 hT1 hck
  generalize w1.heap.size=g at *
  go_loopw [29] (fun i wr=>∃j:Nat,j≤k∧i= .int .i64 j∧Blk wr g 5 ((putL k n.toNat j).map W8)∧Later w wr) (fun i _=>k-(intOf i).toNat)
  case atStart=>exact⟨0,by omega,rfl,hb2,L2⟩
  case round=>
   clear hb2 L2
   obtain⟨j,hj,rfl,hb,L⟩:=hrel
   by_cases hjk:j<k
   ·have hcj:=cnt8 j (by omega)
    have hby:=hid (hpb.out j)
    have hsj:=hid (hst.out j hjk)
    have hlj:=hpl.out j (by omega)
    have e1:((k:Int)-1-(j:Int)).toNat=k-1-j:=by omega
    have e0:(0:Int)≤(k:Int)-1-(j:Int)∧(k:Int)-1-(j:Int)<(k:Int):=by omega
    generalize putL k n.toNat j=PJ at *
    go_wp2_with (first
     | (refine Qa1 rfl ?_;refine Qad rfl rfl _ _ _ rfl g (k-1-j) _ _ hb rfl (by rw[QGr,hlj];omega) rfl (by kernel_rfl) ?_;intro v4 w4 hv4 hb4 ho4;simp[go_sem]at hv4;subst hv4)
     | fail)
    rw[hby.out,Qcx,hsj.out]at hb4
    exact⟨⟨j+1,by omega,by go_num,hb4,L.only ho4 hg1⟩,by simp[intOf];omega⟩
   ·obtain rfl:j=k:=by omega
    rw[hpk.out]at hb
    go_wp2_with fail
    go_ret2
    exact⟨g,rfl,hg1,hb,L⟩
theorem QBd {L:List UInt8} {x y:UInt8} (k:Nat) (h:k+2≤L.length):putB L k [x,y]=(L.set k x).set (k+1) y:=by
 apply List.ext_getElem?
 intro i
 have hl:(L.take k).length=k:=by rw[QGP];omega
 rw[putB,QGI]
 by_cases h1:i<k
 ·rw[QGG (by omega),QHJ,if_pos h1,QHU (by omega),QHU (by omega)]
 ·by_cases h2:i=k
  ·subst h2
   rw[QGE (by omega),hl,QHG,QHU (by omega),QHS (by omega)]
   rfl
  ·by_cases h3:i=k+1
   ·subst h3
    rw[QGE (by omega),hl,QIt,QHS (by rw[QGV];omega)]
    rfl
   ·rw[QGE (by omega),hl,QHU (by omega),QHU (by omega),QGE (by show 2≤_;omega),QHA]
    congr 1
    show k+2+(i-k-2)=i
    omega
theorem Qym (p:Prt) (h:p.da.length≤450):putB (putB (putB (fr3 p) 20 (bigB 8 p.id.toNat)) 28 (bigB 2 p.da.length)) 30 p.da=Qbo p:=by
 have h8:(bigB 8 p.id.toNat).take 8=bigB 8 p.id.toNat:=QGD (by rw[Qat];omega)
 have hb2:bigB 2 p.da.length=[QG3 (p.da.length/256),QG3 p.da.length]:=rfl
 have e1:QG4 ((p.da.length:Int)/256)=QG3 (p.da.length/256):=by
  rw[show ((p.da.length:Int)/256)=((p.da.length/256:Nat):Int) by omega,Qga]
 have e2:QG4 ((p.da.length:Int)%256)=QG3 p.da.length:=by
  rw[show ((p.da.length:Int)%256)=((p.da.length%256:Nat):Int) by omega,Qga]
  apply QHl.1
  rw[QHy,QHy,QHX]
 have hk:frK p 8=putB (fr3 p) 20 (bigB 8 p.id.toNat):=by rw[frK,h8]
 rw[←QBK p h,hk,hb2,e1,e2,QBd 28 (by rw[←hk,Qrp];omega)]
theorem QDi (n:Nat) (h:n<65536):(QHo (n:Int)).toNat=n:=by
 show ((n:Int)%(2:Int)^64).toNat%2^64=n
 omega
set_option maxRecDepth 100000 in
set_option maxHeartbeats 4000000 in
theorem Qs0 (p:Prt) (A:Option Addr) (n c:Nat) (w:World) (hr:RdB w A n p.da) (hn:n≤1048576):
 Calls Tryz.prog 50 #[.agg (PaC p (.slice A n c)).toArray] w fun e w'=>∃A' c',e= .returned (.tuple #[.slice A' (frmR p).length c',.int .i64 (prtE p:Nat)])∧OwnB w' w.heap.size A' (frmR p).length c' (frmR p)∧Later w w':=by
 have hl:=hr.len
 have hCk:=hid (fun w=>Qhy p A n c hl w)
 have hz:=hid (fun h=>QfY (p:=p) h)
 have hR:Hid (frmR p=if prtE p=0 then Qbo p else []):=hid rfl
 have C1:=Qbk w 25 (PaC p (.slice A n c))
 have hP8:=hid (fun w=>Qiw 8 (by omega) (by omega) p.id (.inl rfl) w)
 generalize frmR p=R at *
 generalize prtE p=E at *
 go_enter Tryz.func50,Tryz.ntmps50
 go_wp2_with (first
  | (refine go_l rfl ?_;refine QdP rfl _ rfl (C1.nth 0 rfl) rfl ?_)
  | fail)
 (refine (hCk.out _).mono ?_);rintro e w2 ⟨rfl,j2⟩
 have C2:=C1.later j2
 clear C1 j2 hCk
 by_cases h0:E=0
 case neg=>
  have hne:((E:Int) != 0)=true:=by simp;omega
  have hR':=hid (hR.out.trans (if_neg h0))
  go_wp2_with fail
  go_ret2
  exact⟨none,0,by rw[hR'.out];rfl,by rw[hR'.out];exact Qbi _ _ _,C2.lat⟩
 subst h0
 have hz':=hid (hz.out (by trivial))
 have hR':=hid (hR.out.trans (if_pos (by trivial)))
 have hn450:n≤450:=by have:=hz'.out.2.1;omega
 have hend:=hid (Qym p (by omega))
 have hlb:=QdK p (by omega)
 clear hz hR hz'
 obtain⟨c0,c1,c2,c3,c4⟩:=Qbx (C2.nth 0 rfl)
 go_wp2_with fail
 refine (hP8.out _).mono ?_
 rintro e w3 ⟨g3,rfl,hg3,hb3,j3⟩
 have C3:=C2.later j3
 obtain⟨c0,c1,c2,c3,c4⟩:=Qbx (C3.nth 0 rfl)
 go_wp2_with fail
 have hP2:=Qiw 2 (by omega) (by omega) (QHo (n:Int)) (.inr (by rw[QDi n (by omega)];omega)) w3
 rw[QDi n (by omega)]at hP2
 refine hP2.mono ?_
 rintro e w4 ⟨g4,rfl,hg4,hb4,j4⟩
 clear hP2
 have C4:=C3.later j4
 have hb3':=hb3.later j4
 have hfs:=hid (QyH p)
 rw[QpV]at hfs
 have l0:(QGn 480 (Value.int .u8 0)).length=480:=by rw[QGA]
 have hf3:=QhQ p
 obtain⟨c0,c1,c2,c3,c4⟩:=Qbx (C4.nth 0 rfl)
 go_wp2_with (first
  | (refine QaA rfl _ _ _ rfl 5 _ 1 Tryz.underlying22 Qc4 rfl _ _ _ _ 480 rfl rfl rfl rfl (by omega) (by omega) ?_;intro w5 hb5 hl5
     have C5:=C4.fresh hl5 (QGx _) hb5
     obtain⟨c0,c1,c2,c3,c4⟩:=Qbx (C5.nth 1 rfl))
  | (refine Qa1 rfl ?_;refine Qad rfl rfl _ _ _ rfl w4.heap.size 16 _ _ (C5.nth 0 rfl) rfl (by rw[l0];omega) rfl (by kernel_rfl) ?_;intro v6 w6 hv6 hb6 ho6;simp[go_sem]at hv6;subst hv6
     have C6:=C5.write 0 rfl ho6 hb6
     obtain⟨c0,c1,c2,c3,c4⟩:=Qbx (C6.nth 1 rfl))
  | (refine Qa1 rfl ?_;refine Qad rfl rfl _ _ _ rfl w4.heap.size 17 _ _ (C6.nth 0 rfl) rfl (by rw[QGV,l0];omega) rfl (by kernel_rfl) ?_;intro v7 w7 hv7 hb7 ho7;simp[go_sem]at hv7;subst hv7
     have C7:=C6.write 0 rfl ho7 hb7
     obtain⟨c0,c1,c2,c3,c4⟩:=Qbx (C7.nth 1 rfl))
  | (refine Qa1 rfl ?_;refine Qad rfl rfl _ _ _ rfl w4.heap.size 18 _ _ (C7.nth 0 rfl) rfl (by rw[QGV,QGV,l0];omega) rfl (by kernel_rfl) ?_;intro v8 w8 hv8 hb8 ho8;simp[go_sem]at hv8;subst hv8
     rw[hfs.out]at hb8
     have C8:=C7.write 0 rfl ho8 hb8
     have l8:=((hl5.only ho6 (QGx _)).only ho7 (QGx _)).only ho8 (QGx _))
  | (refine Qax rfl _ _ _ _ rfl 5 Tryz.underlying22 Qb2 w4.heap.size 20 460 460 _ _ (C8.nth 0 rfl) (some ⟨g3,0,none⟩) 8 8 ((bigB 8 p.id.toNat).map W8) ((hb3'.later l8).rd (by rw[QGr,Qat])) (QaX _) rfl rfl (by rw[QGr,hf3];omega) ?_;intro w9 hb9 ho9
     rw[QGD (by rw[QGr,Qat];omega),QcK]at hb9
     have C9:=C8.write 0 rfl ho9 hb9
     have l9:=l8.only ho9 (QGx _))
  | (refine Qax rfl _ _ _ _ rfl 5 Tryz.underlying22 Qb2 w4.heap.size 28 452 452 _ _ (C9.nth 0 rfl) (some ⟨g4,0,none⟩) 2 2 ((bigB 2 n).map W8) ((hb4.later l9).rd (by rw[QGr,Qat])) (QaX _) rfl rfl (by rw[QGr,QbE (by rw[hf3,Qat];omega),hf3];omega) ?_;intro wa hba hoa
     rw[QGD (by rw[QGr,Qat];omega),QcK]at hba
     have Ca:=(C9.write 0 rfl hoa hba).drew
     obtain⟨c0,c1,c2,c3,c4⟩:=Qbx (Ca.nth 1 rfl)
     have hlg:=(Ca.nth 1 rfl).lt)
  | fail)
 simp only[Act.put,QGw,QGB,QGz]
 refine Qaf [] [0,1,2,3] [4] (by as_aux_lemma=>kernel_rfl) (by as_aux_lemma=>kernel_rfl) (by intro _ _ d _ _ h;cases d<;>exact h) ?_
 simp only[Qaj,pick,QGo,QGp,QGs,QGu,QGv]
 repeat (go_big_quiet_step (fail))
 refine wpQuiet_nil ?_
 go_wp2_with (first
  | (refine Qax rfl _ _ _ _ rfl 5 Tryz.underlying22 Qb2 w4.heap.size 30 450 450 _ _ (Ca.nth 0 rfl) A n c (p.da.map W8) (Rd.later hr Ca.lat) (QaX _) rfl rfl (by rw[QGr,QbE (by rw[QbE (by rw[hf3,Qat];omega),hf3,Qat];omega),QbE (by rw[hf3,Qat];omega),hf3];omega) ?_;intro wb hbb hob
     have Cb:=Ca.write 0 rfl hob hbb)
  | fail)
 rw[←hl]at hbb
 rw[QGD (by rw[QGr];omega),QcK,hend.out]at hbb
 go_ret2
 have ho:=Qdj hbb (Ca.at_low 0 rfl) (by rw[QGr,hlb];omega)
 rw[QGr,hlb]at ho
 exact⟨some ⟨w4.heap.size,0,none⟩,480,by rw[hR'.out,hlb];rfl,by rw[hR'.out,hlb];exact ho,Cb.lat⟩
theorem Qsj {ops:Array Oper} {o:Oper} {a:Act} (hw:Region.wanted o (yielded ops a.tmps)=true) (x y:Operand) (ho:o.op= .buildSlice 22 2 #[(0,x),(1,y)]) {u v:UInt8} (hx:a.eval x=W8 u) (hy:a.eval y=W8 v):
 Makes Tryz.prog ops o (fun g=>.slice (some ⟨g,0,none⟩) 2 2) (.cells #[W8 u,W8 v] 5) a:=
 ⟨hw,fun w=>by
   unfold execOp
   rw[ho]
   simp only[QGC,QGR,QGH,hx,hy]
   simp[go_sem,W8]⟩
set_option maxRecDepth 100000 in
set_option maxHeartbeats 4000000 in
theorem QoC (c:Cmd) (h:cmdE c=0) (w:World):Calls Tryz.prog 115 #[.agg (CC c).toArray] w fun e w'=>∃A' c',e= .returned (.tuple #[.slice A' 32 c',.int .i64 0])∧OwnB w' w.heap.size A' 32 c' (encB c)∧Later w w':=by
 have C1:=Qbk w 64 (CC c)
 have hCk:=hid (fun w=>Qhx c w)
 rw[h]at hCk
 have hP4:=hid (fun w=>Qiw 4 (by omega) (by omega) c.dl.toUInt64 (.inr (by have:=c.dl.toNat_lt;simpa using this)) w)
 have hP8:=hid (fun w=>Qiw 8 (by omega) (by omega) c.nx (.inl rfl) w)
 go_enter Tryz.func115,Tryz.ntmps115
 go_wp2_with (first
  | (refine go_l rfl ?_;refine Qc3 rfl _ rfl (C1.nth 0 rfl) rfl ?_)
  | fail)
 refine (hCk.out _).mono ?_
 rintro e w2 ⟨rfl,j2⟩
 have C2:=C1.later j2
 obtain⟨k0,k1,k2,k3,k4⟩:=Qe3 (C2.nth 0 rfl)
 go_wp2_with fail
 refine (hP4.out w2).mono ?_
 rintro e w3 ⟨g3,rfl,hg3,hb3,j3⟩
 have C3:=C2.later j3
 obtain⟨k0,k1,k2,k3,k4⟩:=Qe3 (C3.nth 0 rfl)
 go_wp2_with fail
 refine (hP8.out w3).mono ?_
 rintro e w4 ⟨g4,rfl,hg4,hb4,j4⟩
 have C4:=(C3.later j4).drew
 have hB3:=(hb3.later j4).drew
 have hB4:=hb4.drew
 obtain⟨k0,k1,k2,k3,k4⟩:=Qe3 (C4.nth 0 rfl)
 have hlw:=(C4.nth 0 rfl).lt
 have r16:RdB w4.drew (some ⟨w.heap.size,4,none⟩) 16 c.ma.val:=QjG hlw (fun j v hv=>k4 j v hv) c.ma.2
 go_wp2_with fail
 refine QaC [0,1,2,3,5,6,7,8] [([],1,9),([],2,4),([],1,10),([],1,11)] [12,13] [] [4] (fun _=>(fun g=>.slice (some ⟨g,0,none⟩) 2 2,.cells #[W8 c.kd,W8 c.fl] 5)) (by as_aux_lemma=>kernel_rfl) (by as_aux_lemma=>kernel_rfl) (by intro _ _ d _ _ h;cases d<;>exact h) (by intro _ _ d _ _ h;cases d<;>exact h) ?_
 simp only[pick,QGo,QGp,QGs,QGu,QGv]
 repeat (go_big_quiet_step (fail))
 refine wpQuiet_nil ?_
 refine⟨?mk,?_⟩
 case mk=>
  refine⟨fun o ho=>?_,trivial⟩
  simp only[QGo,QGp,Option.some.injEq]at ho
  subst ho
  exact Qsj rfl _ _ rfl rfl rfl
 simp only[Qbu,pick,QGo,QGp,QGs,QGu,QGv]
 refine wpQuiet_nil ?_
 intro p1 q1
 go_wp2_with (first
  | (refine QaA rfl _ _ _ rfl 5 _ 1 Tryz.underlying22 Qc4 rfl _ _ _ _ 2 rfl rfl rfl rfl (by omega) (by omega) ?_;intro p2 hz2 q2)
  | fail)
 try refine⟨by first|assumption|exact Qab _|exact Qaa _ _|exact Later.refl _,?_⟩
 try simp only[Qaj,pick,QGo,QGp,QGs,QGu,QGv]
 repeat (go_big_quiet_step (fail))
 refine wpQuiet_nil ?_
 intro p3 g5 q3 hg5 _ hb5
 refine wpQuiet_nil ?_
 intro p4 q4
 go_wp2_with fail
 have q5:=Qaa p4 (.cells #[.slice (some ⟨g5,0,none⟩) 2 2,.slice (some ⟨g3,0,none⟩) 4 4,.slice (some ⟨g4,0,none⟩) 8 8,.slice (some ⟨w.heap.size,4,none⟩) 16 16,.slice (some ⟨p1.heap.size,0,none⟩) 2 2] 22)
 try refine⟨by first|assumption|exact Qab _|exact Qaa _ _|exact Later.refl _,?_⟩
 try simp only[Qaj,pick,QGo,QGp,QGs,QGu,QGv]
 repeat (go_big_quiet_step (fail))
 refine wpQuiet_nil ?_
 intro p6 q6
 go_wp2_with fail
 have L6:=q1.trans (q2.trans (q3.trans (q4.trans (q5.trans q6))))
 have h4:(bigB 4 c.dl.toUInt64.toNat).length=4:=Qat _ _
 have h8:(bigB 8 c.nx.toNat).length=8:=Qat _ _
 have hz:Blk p6 p1.heap.size 5 (([0,0]:List UInt8).map W8):=Blk.later (show Blk p2 p1.heap.size 5 (([0,0]:List UInt8).map W8) from hz2) (q3.trans (q4.trans (q5.trans q6)))
 have hP:=Qep (((Blk.new p4 22 [.slice (some ⟨g5,0,none⟩) 2 2,.slice (some ⟨g3,0,none⟩) 4 4,.slice (some ⟨g4,0,none⟩) 8 8,.slice (some ⟨w.heap.size,4,none⟩) 16 16,.slice (some ⟨p1.heap.size,0,none⟩) 2 2]).later q6).rd rfl) (ps:=[[c.kd,c.fl],bigB 4 c.dl.toUInt64.toNat,bigB 8 c.nx.toNat,c.ma.val,[0,0]])
  ⟨Qba (Qcv (Blk.later (show Blk p3 g5 5 (([c.kd,c.fl]:List UInt8).map W8) from hb5) (q4.trans (q5.trans q6))) rfl) (QGx _),Qba (Qcv (hB3.later L6) h4) (QGx _),Qba (Qcv (hB4.later L6) h8) (QGx _),Qba (r16.later L6) (QGx _),Qba (Qcv hz rfl) (QGx _),trivial⟩
 have hfl:([[c.kd,c.fl],bigB 4 c.dl.toUInt64.toNat,bigB 8 c.nx.toNat,c.ma.val,[0,0]]:List (List UInt8)).flatten=encB c:=by
  simp only[QHH,QIH,QGW]
  rfl
 have hJ:=QcT (some ⟨p4.heap.size,0,none⟩) 5 5 _ p6 hP (by omega) (by rw[hfl,QcW];omega)
 rw[hfl,QcW]at hJ
 refine hJ.mono ?_
 rintro e p7 ⟨A7,c7,rfl,o7,q7⟩
 clear hJ hP
 go_wp2_with fail
 try refine⟨by first|assumption|exact Qab _|exact Qaa _ _|exact Later.refl _,?_⟩
 try simp only[Qaj,pick,QGo,QGp,QGs,QGu,QGv]
 repeat (go_big_quiet_step (fail))
 refine wpQuiet_nil ?_
 intro p8 q8
 go_wp2_with fail
 go_ret2
 exact⟨A7,c7,rfl,Qcq (QaF o7 q8) (QG9 C4.lat.size L6.size),C4.lat.trans (L6.trans (q7.trans q8))⟩
def QjA (kd:UInt8) (hs:List Hp) (j:Nat):List Cmd:=QfA kd hs j++QGn (hs.length-j) cmd0
theorem Qsa (kd:UInt8) (hs:List Hp):QjA kd hs 0=QGn hs.length cmd0:=by
 rw[QjA,Nat.sub_zero]
 rfl
theorem QwG (kd:UInt8) (hs:List Hp):QjA kd hs hs.length=QfA kd hs hs.length:=by rw[QjA,QHG,List.replicate_zero,QGW]
theorem QnB (kd:UInt8) (hs:List Hp) (j:Nat) (h:j≤hs.length):(QjA kd hs j).length=hs.length:=by
 rw[QjA,QGy,QdM,QGA]
 omega
theorem Qry (kd:UInt8) (hs:List Hp) (j:Nat) (h:j<hs.length):(QjA kd hs j).set j (QbS (lcK kd) hs j)=QjA kd hs (j+1):=by
 have hc:QfA kd hs (j+1)=QfA kd hs j++[QbS (lcK kd) hs j]:=by rw[QfA,QH5,QG6];rfl
 rw[QjA,QjA,hc,QG1 _ _ (by rw[QdM];omega),QdM,QHG,show hs.length-j=hs.length-(j+1)+1 by omega,QH2,QGz,QGI]
 rfl
theorem Qrn (k:UInt8):Tryz.prog.built 64 [(0,W8 k)]=some (CC ⟨k,0,0,0,QaH⟩).toArray:=by kernel_rfl
theorem Quc (kd:UInt8) (h:kd=2∨kd=3):QdT (lcK kd)=true:=by rcases h with rfl|rfl<;>decide
set_option maxRecDepth 100000 in
set_option maxHeartbeats 4000000 in
theorem QsM (kd:UInt8) (hkd:kd=2∨kd=3) (A:Option Addr) (n cc:Nat) (hs:List Hp) (w:World) (hh:RdH w A n hs) (hn:n≤1048576):
 Calls Tryz.prog 112 #[.agg (CC (lcK kd)).toArray,.slice A n cc] w fun e w'=>e= .returned (.int .i64 (QeI (lcK kd) hs:Nat))∧Later w w':=by
 have hl:=hh.1
 have hE:=hid (QwJ kd hkd hs)
 have k2: ¬kd<2:=by rcases hkd with rfl|rfl<;>decide
 have k4: ¬ 4<kd:=by rcases hkd with rfl|rfl<;>decide
 have hSh:=hid (fun w=>Qkp (lcK kd) w)
 rw[Quc kd hkd]at hSh
 clear hkd
 have B0:=Qbk w 64 (CC (lcK kd))
 rw[hl]at hE
 generalize QeI (lcK kd) hs=E at *
 obtain⟨c0,c1,c2,c3,c4⟩:=Qe3 (B0.nth 0 rfl)
 change _=some (W8 kd)at c0
 go_enter Tryz.func112,Tryz.ntmps112
 go_wp2_with fail
 generalize hW:w.alloc _=w1
 replace B0:Bag w w1 [(w.heap.size,64,CC (lcK kd))]:=by rw[←hW];exact B0
 clear hW c0 c1 c2 c3 c4
 go_loopw [18] (fun i wr=>∃k:Nat,k≤n∧i= .int .i64 k∧Hid (∀ j,j<k→badH (hs.getD j hp0)=false)∧Later w1 wr) (fun i _=>n-(intOf i).toNat)
 case atStart=>exact⟨0,by omega,rfl,hid (fun j hj=>absurd hj (by omega)),Later.refl _⟩
 case round=>
  obtain⟨k,hk,rfl,hz,L⟩:=hrel
  by_cases hlt:k<n
  ·obtain⟨b,o,rfl,hbb,hc⟩:=(hh.later (B0.lat.trans L)).at_ hlt
   have c66:wr.cell? ⟨b,o+k*68+66,none⟩=some (.int .i64 (hs.getD k hp0).delay):=hc 66 _ (QlD _)
   have c67:wr.cell? ⟨b,o+k*68+67,none⟩=some (.int .i64 (hs.getD k hp0).flags):=hc 67 _ (Qmk _)
   have hno:=hid (fun h=>Qq0 (hs:=hs) (p:=badH) (k:=k) (by omega) h)
   have hgo:=hid (fun h:badH (hs.getD k hp0)=false=>Qbn (p:=fun j=>badH (hs.getD j hp0)=false) hz.out h)
   have hbd:Hid (badH (hs.getD k hp0)=(decide ((hs.getD k hp0).delay<0)||decide (1000000<(hs.getD k hp0).delay)||decide ((hs.getD k hp0).flags<0)||decide (255<(hs.getD k hp0).flags))):=hid rfl
   clear hc
   generalize badH (hs.getD k hp0)=bb at *
   generalize (hs.getD k hp0).delay=dl at *
   generalize (hs.getD k hp0).flags=fl at *
   have hbad:=hid (fun h:bb=true=>show E=1 from hE.out.trans (if_pos (hno.out h)))
   clear hno
   by_cases a1:dl<0
   ·have hX:=hid (hbad.out (by rw[hbd.out];simp[a1]))
    go_wp2_with fail
    go_ret
    exact⟨by rw[hX.out];rfl,B0.lat.trans L⟩
   by_cases a2:1000000<dl
   ·have hX:=hid (hbad.out (by rw[hbd.out];simp[a2]))
    go_wp2_with fail
    go_ret
    exact⟨by rw[hX.out];rfl,B0.lat.trans L⟩
   by_cases a3:fl<0
   ·have hX:=hid (hbad.out (by rw[hbd.out];simp[a3]))
    go_wp2_with fail
    go_ret
    exact⟨by rw[hX.out];rfl,B0.lat.trans L⟩
   by_cases a4:255<fl
   ·have hX:=hid (hbad.out (by rw[hbd.out];simp[a4]))
    go_wp2_with fail
    go_ret
    exact⟨by rw[hX.out];rfl,B0.lat.trans L⟩
   have hG:=hid (hgo.out (by rw[hbd.out];simp[a1,a2,a3,a4]))
   clear hgo hbd hbad
   go_wp2_with fail
   exact⟨⟨k+1,by omega,by go_num,hG,L⟩,by simp[intOf];omega⟩
  ·obtain rfl:k=n:=by omega
   replace hE:=hid (hE.out.trans (if_neg (by rw[QuW (by rw[hl];exact hz.out)];decide)))
   by_cases h5:k<1∨5<k
   ·have e:=hid (hE.out.trans (if_pos h5))
    by_cases h1:k<1
    ·have f1:decide ((k:Int)<1)=true:=decide_eq_true (by omega)
     clear h1 h5
     go_wp2_with fail
     go_ret
     exact⟨by rw[e.out];rfl,B0.lat.trans L⟩
    ·have f1:decide ((k:Int)<1)=false:=decide_eq_false (by omega)
     have f2:decide ((5:Int)<(k:Int))=true:=decide_eq_true (by omega)
     clear h5
     go_wp2_with fail
     go_ret
     exact⟨by rw[e.out];rfl,B0.lat.trans L⟩
   ·have f1:decide ((k:Int)<1)=false:=decide_eq_false (by omega)
    have f2:decide ((5:Int)<(k:Int))=false:=decide_eq_false (by omega)
    replace hE:=hid (hE.out.trans (if_neg h5))
    have B1:=B0.later L
    go_wp2_with (first
     | (refine go_l rfl ?_;refine Qc3 rfl _ rfl (B1.nth 0 rfl) rfl ?_)
     | fail)
    refine (hSh.out wr).mono ?_
    rintro e w4 ⟨rfl,j4⟩
    have B4:=B1.later j4
    go_wp2_with fail
    go_loopw [64] (fun i wq=>∃j:Nat,j≤k∧i= .int .i64 j∧Hid (∀ i,i+1<j→((hs.getD (i+1) hp0).nod.id==0)=false)∧Later w4 wq) (fun i _=>k-(intOf i).toNat)
    case atStart=>exact⟨0,by omega,rfl,hid (fun i h=>by omega),Later.refl _⟩
    case round=>
     obtain⟨j,hj,rfl,hg,L4⟩:=hrel
     by_cases hjk:j<k
     ·obtain⟨b,o,rfl,hbb,hc⟩:=(hh.later (B4.lat.trans L4)).at_ hjk
      have d1:wr.cell? ⟨b,o+j*68+1,none⟩=some (W64 (hs.getD j hp0).nod.id):=hc 1 _ (QDm _)
      clear hc
      by_cases h0:0<j
      ·obtain⟨i,rfl⟩:∃i,j=i+1:=⟨j-1,by omega⟩
       have hno:=hid (fun h=>Qto (hs:=hs) (p:=fun h=>h.nod.id==0) (k:=i) (by omega) h)
       have hgo:Hid (((hs.getD (i+1) hp0).nod.id==0)=false→∀t,t+1<i+1+1→((hs.getD (t+1) hp0).nod.id==0)=false):=hid (fun h t h1=>by
        by_cases e:t=i
        ·rw[e];exact h
        ·exact hg.out t (by omega))
       generalize (hs.getD (i+1) hp0).nod.id=z at *
       have f0:decide ((0:Int)<(i:Int)+1)=true:=decide_eq_true (by omega)
       cases hzz:(z==0)
       ·have hG:=hid (hgo.out hzz)
        go_wp2_with fail
        exact⟨⟨i+1+1,by omega,by go_num,hG,L4⟩,by simp[intOf];omega⟩
       ·have e:=hid (hE.out.trans (if_pos (hno.out hzz)))
        go_wp2_with fail
        go_ret
        exact⟨by rw[e.out];rfl,B4.lat.trans L4⟩
      ·obtain rfl:j=0:=by omega
       go_wp2_with fail
       exact⟨⟨1,by omega,by go_num,hid (fun i h=>by omega),L4⟩,by simp[intOf];omega⟩
     ·obtain rfl:j=k:=by omega
      have e:=hid (hE.out.trans (if_neg (by rw[QxH (hs:=hs) (p:=fun h=>h.nod.id==0) (fun t ht=>hg.out t (by omega))];decide)))
      go_wp2_with fail
      go_ret
      exact⟨by rw[e.out];rfl,B4.lat.trans L4⟩
set_option maxRecDepth 100000 in
set_option maxHeartbeats 8000000 in
theorem Qti (kd:UInt8) (hkd:kd=2∨kd=3) (A:Option Addr) (n cc:Nat) (hs:List Hp) (w:World) (hh:RdH w A n hs) (hn:n≤1048576):
 Calls Tryz.prog 75 #[.agg (CC (lcK kd)).toArray,.slice A n cc] w fun e w'=>∃A' c',e= .returned (.tuple #[.slice A' (QnM kd hs).length c',.int .i64 (QeI (lcK kd) hs:Nat)])∧
  RdF CC 20 cmd0 w' A' (QnM kd hs).length (QnM kd hs)∧Later w w':=by
 have hl:=hh.1
 have hPe:=hid (fun w h=>QsM kd hkd A n cc hs w h hn)
 have hR:Hid (QnM kd hs=if QeI (lcK kd) hs=0 then QfA kd hs hs.length else []):=hid rfl
 have B0:=Qbk w 64 (CC (lcK kd))
 have hst:=hid (Qry kd hs)
 have hp0':=hid (Qsa kd hs)
 have hpa:=hid (QwG kd hs)
 have hpl:=hid (QnB kd hs)
 have hml:=hid (Qs3 kd hs)
 have hmm:=hid (Qtx kd hs)
 have hbk:=hid Qrn
 have hcl:=hid (QdM kd hs hs.length)
 generalize QeI (lcK kd) hs=E at *
 generalize QnM kd hs=R at *
 generalize QjA kd hs=CP at *
 generalize QfA kd hs hs.length=CA at *
 generalize QbS (lcK kd) hs=PC0 at *
 clear hkd
 rw[hl]at hst hp0' hpa hpl hml hmm hcl
 go_enter Tryz.func75,Tryz.ntmps75
 go_wp2_with (first
  | (refine go_l rfl ?_;refine Qc3 rfl _ rfl (B0.nth 0 rfl) rfl ?_)
  | fail)
 refine (hPe.out _ (hh.later B0.lat)).mono ?_
 rintro e w1 ⟨rfl,j1⟩
 have B1:=B0.later j1
 by_cases hE:E=0
 case neg=>
  have fE:((E:Int) != 0)=true:=bne_iff_ne.2 (by omega)
  have hX:=hid (hR.out.trans (if_neg hE))
  go_wp2_with fail
  go_ret2
  exact⟨none,0,by rw[hX.out];rfl,by rw[hX.out];exact Qfo _,B1.lat⟩
 subst hE
 have hX:=hid (hR.out.trans (if_pos (by trivial)))
 clear hR B0 hPe
 go_wp2_with (first
  | (refine Qg1 Qao (by omega) cmd0 rfl _ _ _ rfl 64 32 Tryz.underlying179 QDw _ _ _ _ n rfl rfl rfl rfl (by omega) (by omega) ?_;intro w2 hb2 hl2)
  | fail)
 have own2:w2.ownsRow w1.heap.size 64 20 (.slice (some ⟨w1.heap.size,0,none⟩) n n) n ((CP 0).flatMap CC):=by
  rw[hp0'.out]
  exact QqV hb2 (QGx _) (by rw[Qb4 Qao,QGA]) (by unfold maxLen;omega)
 clear hb2
 generalize hg1:w1.heap.size=g1 at own2 ⊢
 go_loopw [21] (fun i wr=>∃j:Nat,j≤n∧i= .int .i64 j∧wr.ownsRow g1 64 20 (.slice (some ⟨g1,0,none⟩) n n) n ((CP j).flatMap CC)∧Later w1 wr) (fun i _=>n-(intOf i).toNat)
 case atStart=>exact⟨0,by omega,rfl,own2,hl2⟩
 case round=>
  clear own2
  obtain⟨j,hj,rfl,own,L⟩:=hrel
  have B:=B1.later L
  by_cases hjn:j<n
  ·obtain⟨b,o,rfl,hbb,hc⟩:=(hh.later B.lat).at_ hjn
   have hCl:=hpl.out j (by omega)
   have hsj:=hid (hst.out j hjn)
   have c66:wr.cell? ⟨b,o+j*68+66,none⟩=some (.int .i64 (hs.getD j hp0).delay):=hc 66 _ (QlD _)
   have c67:wr.cell? ⟨b,o+j*68+67,none⟩=some (.int .i64 (hs.getD j hp0).flags):=hc 67 _ (Qmk _)
   clear hc
   replace c66:=hid c66
   replace c67:=hid c67
   have tr:Hid (∀ (w':World),Later wr w'→w'.cell? ⟨b,o+j*68+66,none⟩=some (.int .i64 (hs.getD j hp0).delay)∧w'.cell? ⟨b,o+j*68+67,none⟩=some (.int .i64 (hs.getD j hp0).flags)∧b<w'.heap.size):=hid (fun w' l=>⟨(l.below.cell (p:=⟨b,o+j*68+66,none⟩) hbb).trans c66.out,(l.below.cell (p:=⟨b,o+j*68+67,none⟩) hbb).trans c67.out,QGN hbb l.size⟩)
   have hne:∀x,(Value.slice (some ⟨g1,0,none⟩) n n).ownBlock=some x→x≠wr.heap.size:=fun x hx=>by have:=(World.ownsRow.lt own x hx).2;omega
   by_cases hlast:j+1<n
   ·have f1:decide ((j:Int)+1<(n:Int))=true:=decide_eq_true (by omega)
    obtain⟨b2,o2,hbo,hbb2,hc2⟩:=(hh.later B.lat).at_ hlast
    obtain⟨rfl,rfl⟩:b=b2∧o=o2:=by simpa using hbo
    have d1:wr.cell? ⟨b,o+(j+1)*68+1,none⟩=some (W64 (hs.getD (j+1) hp0).nod.id):=hc2 1 _ (QDm _)
    have hpc:=hid (hmm.out j (by omega))
    have e2:((j:Int)+1).toNat=j+1:=by omega
    clear hc2 hbo hml hmm
    generalize (hs.getD (j+1) hp0).nod.id=nx at *
    generalize (hs.getD j hp0).delay=dl at *
    generalize (hs.getD j hp0).flags=fl at *
    replace d1:=hid d1
    go_wp2_with (first
     | (refine go_b rfl ?_;refine Qah ?hw 64 _ rfl (CC ⟨1,0,0,0,QaH⟩) (by simp only[QGC,QGR,QGH];exact hbk.out 1) ?_;(case hw=>rfl))
     | (refine Qa1 rfl ?_;refine Qct rfl rfl _ _ rfl (Blk.new wr _ cz0) rfl rfl rfl ?_;intro w3 hb3 ho3
        have l3:Later wr w3:=(Qaa wr _).only ho3 (QGx _)
        have own3:=Qde (QaB own (Qaa wr (.cells cz0.toArray 64))) ho3 hne
        have d3:=(l3.below.cell (p:=⟨b,o+(j+1)*68+1,none⟩) hbb).trans d1.out
        have hbl:=QGN hbb l3.size)
     | (refine Qa1 rfl ?_;refine Qad rfl rfl _ _ _ rfl wr.heap.size 3 _ _ hb3 rfl (by rw[Qao];omega) rfl (by kernel_rfl) ?_;intro v4 w4 hv4 hb4 ho4;simp[go_sem]at hv4;subst hv4
        have l4:=l3.only ho4 (QGx _)
        have own4:=Qde own3 ho4 hne
        obtain⟨f66,f67,hbl4⟩:=tr.out w4 l4)
     | (refine Qa1 rfl ?_;refine Qad rfl rfl _ _ _ rfl wr.heap.size 2 _ _ hb4 rfl (by rw[QGV,Qao];omega) rfl (by kernel_rfl) ?_;intro v5 w5 hv5 hb5 ho5;simp[go_sem]at hv5;subst hv5
        have l5:=l4.only ho5 (QGx _)
        have own5:=Qde own4 ho5 hne
        obtain⟨f66',f67',hbl5⟩:=tr.out w5 l5)
     | (refine Qa1 rfl ?_;refine Qad rfl rfl _ _ _ rfl wr.heap.size 1 _ _ hb5 rfl (by rw[QGV,QGV,Qao];omega) rfl (by kernel_rfl) ?_;intro v6 w6 hv6 hb6 ho6;simp[go_sem]at hv6;subst hv6
        have l6:=l5.only ho6 (QGx _)
        have own6:=Qde own5 ho6 hne
        replace hb6:Blk w6 wr.heap.size 64 (CC ⟨1,QG4 fl,QIe dl,nx,QaH⟩):=hb6)
     | (refine go_l rfl ?_;refine Qc3 rfl _ rfl hb6 rfl ?_)
     | (refine Qa1 rfl ?_;refine Qbs Qao QqX cmd0 rfl rfl _ _ _ rfl own6 hCl j hjn ⟨1,QG4 fl,QIe dl,nx,QaH⟩ rfl rfl QeX ?_;intro w7 own7 ho7)
     | fail)
    rw[←hpc.out,hsj.out]at own7
    exact⟨⟨j+1,by omega,by go_num,own7,(L.trans l6).only ho7 (QIs hg1)⟩,by simp[intOf];omega⟩
   ·have f1:decide ((j:Int)+1<(n:Int))=false:=decide_eq_false (by omega)
    have hpc:=hid (hml.out j (by omega))
    clear hml hmm
    generalize (hs.getD j hp0).delay=dl at *
    generalize (hs.getD j hp0).flags=fl at *
    have tb:Hid (∀ (w':World),Later wr w'→w'.cell? ⟨w.heap.size,0,none⟩=some (W8 kd)∧(∀ q v,(QaH.val.map W8)[q]?=some v→w'.cell? ⟨w.heap.size,4+q,none⟩=some v)∧w.heap.size<w'.heap.size):=hid (fun w' l=>by
     have h:=(B.later l).nth 0 rfl
     obtain⟨c0,_,_,_,c4⟩:=Qe3 h
     exact⟨c0,c4,h.lt⟩)
    go_wp2_with (first
     | (refine go_b rfl ?_;refine Qah ?hw 64 _ rfl (CC ⟨1,0,0,0,QaH⟩) (by simp only[QGC,QGR,QGH];exact hbk.out 1) ?_;(case hw=>rfl))
     | (refine Qa1 rfl ?_;refine Qct rfl rfl _ _ rfl (Blk.new wr _ cz0) rfl rfl rfl ?_;intro w3 hb3 ho3
        have l3:Later wr w3:=(Qaa wr _).only ho3 (QGx _)
        have own3:=Qde (QaB own (Qaa wr (.cells cz0.toArray 64))) ho3 hne
        obtain⟨c0,c4,hlw⟩:=tb.out w3 l3)
     | (refine Qa1 rfl ?_;refine Qad rfl rfl _ _ _ rfl wr.heap.size 0 _ _ hb3 rfl (by rw[Qao];omega) rfl (by kernel_rfl) ?_;intro v4 w4 hv4 hb4 ho4;simp[go_sem]at hv4;subst hv4
        have l4:=l3.only ho4 (QGx _)
        have own4:=Qde own3 ho4 hne
        replace hb4:Blk w4 wr.heap.size 64 (CC ⟨kd,0,0,0,QaH⟩):=hb4
        obtain⟨c0',c4',hlw'⟩:=tb.out w4 l4)
     | (refine go_l rfl ?_;refine Qan rfl 31 _ rfl w.heap.size 4 (QaH.val.map W8) c4' rfl _ Tryz.underlying31 rfl Qtg ?_)
     | (refine Qa1 rfl ?_;refine Qal rfl rfl _ _ _ rfl wr.heap.size 4 _ _ (QaH.val.map W8) hb4 rfl rfl Qtg (by rw[Qao,QGr,QaH.2];omega) (QaX _) ?_;intro w8 hb8 ho8
        rw[QyR]at hb8
        have l8:=l4.only ho8 (QGx _)
        have own8:=Qde own4 ho8 hne
        obtain⟨f66,f67,hbl4⟩:=tr.out w8 l8)
     | (refine Qa1 rfl ?_;refine Qad rfl rfl _ _ _ rfl wr.heap.size 2 _ _ hb8 rfl (by rw[Qao];omega) rfl (by kernel_rfl) ?_;intro v5 w5 hv5 hb5 ho5;simp[go_sem]at hv5;subst hv5
        have l5:=l8.only ho5 (QGx _)
        have own5:=Qde own8 ho5 hne
        obtain⟨f66',f67',hbl5⟩:=tr.out w5 l5)
     | (refine Qa1 rfl ?_;refine Qad rfl rfl _ _ _ rfl wr.heap.size 1 _ _ hb5 rfl (by rw[QGV,Qao];omega) rfl (by kernel_rfl) ?_;intro v6 w6 hv6 hb6 ho6;simp[go_sem]at hv6;subst hv6
        have l6:=l5.only ho6 (QGx _)
        have own6:=Qde own5 ho6 hne
        replace hb6:Blk w6 wr.heap.size 64 (CC ⟨kd,QG4 fl,QIe dl,0,QaH⟩):=hb6)
     | (refine go_l rfl ?_;refine Qc3 rfl _ rfl hb6 rfl ?_)
     | (refine Qa1 rfl ?_;refine Qbs Qao QqX cmd0 rfl rfl _ _ _ rfl own6 hCl j hjn ⟨kd,QG4 fl,QIe dl,0,QaH⟩ rfl rfl QeX ?_;intro w7 own7 ho7)
     | fail)
    rw[←hpc.out,hsj.out]at own7
    exact⟨⟨j+1,by omega,by go_num,own7,(L.trans l6).only ho7 (QIs hg1)⟩,by simp[intOf];omega⟩
  ·obtain rfl:j=n:=by omega
   rw[hpa.out]at own
   go_wp2_with fail
   go_ret2
   exact⟨some ⟨g1,0,none⟩,j,by rw[hX.out,hcl.out];rfl,by rw[hX.out,hcl.out];exact QdO (d:=cmd0) Qao own hcl.out,B.lat⟩
def hdrS (n:Nat) (sl st:Nat→List UInt8):Nat→List UInt8
 | 0=>QGn 288 0
 | j+1=>hdrA n sl st j
theorem QFF {H al be:List UInt8} (hH:H.length=288) (ha:al.length=32) (hb:be.length=240):∃Y:List UInt8,Y.length=16∧putB (putB H 0 al) 48 be=al++(Y++be):=by
 obtain⟨X,Y,Z,rfl,hX,hY,hZ⟩:∃X Y Z:List UInt8,H=X++(Y++Z)∧X.length=32∧Y.length=16∧Z.length=240:=⟨H.take 32,(H.drop 32).take 16,(H.drop 32).drop 16,by rw[QGX,QGX],by rw[QGP];omega,by rw[QGP,QGQ];omega,by rw[QGQ,QGQ];omega⟩
 have s1:putB (X++(Y++Z)) 0 al=al++(Y++Z):=by
  have:=QcC [] X (Y++Z) al 0 rfl (by omega)
  simpa using this
 have s2:putB (al++(Y++Z)) 48 be=al++(Y++be):=by
  have:=QcC (al++Y) Z [] be 48 (by rw[QGy];omega) (by omega)
  simpa using this
 exact⟨Y,hY,by rw[s1,s2]⟩
theorem QA2 {al Y be:List UInt8} (ha:al.length=32) (hY:Y.length=16) (hb:be.length=240):subB (al++(Y++be)) 0 32=al∧subB (al++(Y++be)) 48 240=be:=by
 constructor
 ·rw[subB,QIk,QHK ha]
 ·rw[subB,←QGI,QHc (by rw[QGy];omega),QGD (by omega)]
theorem Qk9 {w:World} {b p n:Nat} {r:List UInt8} (hb:b<w.heap.size) (hc:∀j v,(r.map W8)[j]?=some v→w.cell? ⟨b,p+j,none⟩=some v) (hn:r.length=n):RdB w (some ⟨b,p,none⟩) n r:=QjG hb hc hn
set_option maxRecDepth 100000 in
set_option maxHeartbeats 8000000 in
theorem QrG (A B:Option Addr) (n c d:Nat) (cs:List Cmd) (xs:List (List UInt8)) (w:World) (hcr:RdF CC 20 cmd0 w A n cs) (hr:RdK 192 w B n xs) (hxl:∀x∈xs,x.length=192) (h1:1≤n) (h5:n≤5) (hnd:n≤d)
 (hok:∀i,i<n→cmdE (cs.getD i cmd0)=0∧((cs.getD i cmd0).kd=1↔i+1<n))
 (sl st:Nat→List UInt8) (hsa:∀k,(sl k).length=32) (hsl:∀i,i<n→encB (cs.getD i cmd0)=sl i) (hst:∀i,i<n→xs.getD i []=st i):
 Calls Tryz.prog 76 #[.slice A n c,.slice B n d] w fun e w'=>e= .returned (.tuple #[.agg ((hdrA n sl st (n-1)).map W8).toArray,.int .i64 0])∧Later w w':=by
 have hok':=hid hok
 obtain⟨F,hF⟩:∃F,F=48*(n-1):=⟨_,rfl⟩
 obtain⟨Z,hZ⟩:∃Z,Z=208-F:=⟨_,rfl⟩
 have hEr:=hid (fun w h=>Qxg A n c cs w h h1 h5 hok)
 have hFi:=hid (fun w h=>Qpu B n d xs st hst w h hxl h1 h5 hnd)
 rw[←hF]at hFi
 have hb0:Hid (betA n sl st 0=xorB (sl (n-1)++QGn Z 0) (chaS (subB (st (n-1)) 32 32) (32+Z))++QfV st (n-1)):=hid (by
  rw[betA,←hF,←hZ,show 240-F=32+Z by omega]
  rfl)
 have hsll:=hid hsa
 have hstl:Hid (∀ i,i<n→(st i).length=192):=hid (fun i hi=>by rw[←hst i hi];exact hxl _ (Qd8 xs i (by have:=hr.1;omega)))
 obtain⟨bS,oS,rfl,hbS,hcS⟩:∃b o,B=some ⟨b,o,none⟩∧b<w.heap.size∧∀k,k<n→∀(w':World),Later w w'→∀(off q:Nat) (r:List UInt8),subB (st k) off q=r→∀j v,(r.map W8)[j]?=some v→w'.cell? ⟨b,o+k*192+off+j,none⟩=some v:=by
  obtain⟨b,o,hA,hb,_⟩:=hr.sub (k:=0) (by omega)
  refine⟨b,o,hA,hb,fun k hk=>?_⟩
  obtain⟨b',o',hA',_,h⟩:=hr.sub (k:=k) hk
  rw[hA]at hA'
  cases hA'
  rw[←hst k hk]
  exact h
 replace hcS:=hid hcS
 have hcM:Hid (∀ k,k<n→∀(w':World),Later w w'→∀j v,((subB (st k) 0 32).map W8)[j]?=some v→w'.cell? ⟨bS,oS+k*192+j,none⟩=some v):=hid (fun k hk w' h j v hv=>by
  have:=hcS.out k hk w' h 0 32 _ rfl j v hv
  rwa [QIf]at this)
 have hkl:Hid (∀ k off,k<n→off+32≤192→(subB (st k) off 32).length=32):=hid (fun k off hk ho=>Qaq (by rw[hstl.out k hk];omega))
 have hbl:=hid (fun j=>QbL (st:=st) h1 h5 hsa j)
 have hsl':=hid hsl
 have hZ1:(240:Int)-(F:Int)-32=(Z:Int):=by omega
 have hZF:32+Z+F=240:=by omega
 clear hst hsl hF hZ hok hxl
 have B0:Bag w (w.alloc (.cells Tryz.zeroCells34 34)) [(w.heap.size,34,(QGn 288 (0:UInt8)).map W8)]:=(Bag.none w).add (Qaa _ _) (by simp) (QGx _) ((Blk.new w _ Tryz.zeroCells34.toList).cast zcH)
 go_enter Tryz.func76,Tryz.ntmps76
 go_wp2_with fail
 refine (hEr.out _ (hcr.later B0.lat)).mono ?_
 rintro e w1 ⟨rfl,j1⟩
 have B1:=B0.later j1
 go_wp2_with fail
 refine (hFi.out w1 (hr.later B1.lat)).mono ?_
 rintro e w2 ⟨A2,c2,rfl,o2,j2⟩
 have B2:=B1.later j2
 have rF:=OwnB.rd o2
 have cF:=OwnB.cap o2
 clear hEr hFi B0 B1 o2
 have hB3:Blk (w2.alloc (.cells Tryz.zeroCells34 34)) w2.heap.size 34 ((hdrS n sl st 0).map W8):=(Blk.new w2 _ Tryz.zeroCells34.toList).cast zcH
 go_wp2_with fail
 have l3:Later w2 (w2.alloc (.cells Tryz.zeroCells34 34)):=Qaa _ _
 generalize w2.alloc (.cells Tryz.zeroCells34 34)=w3 at *
 generalize hgH:w2.heap.size=gH at *
 go_loopw [10] (fun iv wr=>∃j:Nat,j≤n∧iv= .int .i64 ((n:Int)-1-(j:Int))∧Blk wr gH 34 ((hdrS n sl st j).map W8)∧Later w2 wr) (fun iv _=>(intOf iv+1).toNat)
 case atStart=>exact⟨0,by omega,by simp,hB3,l3⟩
 case round=>
  clear hB3 l3
  obtain⟨j,hj,rfl,hB,L⟩:=hrel
  have hLw:=(B2.lat.trans L)
  by_cases hjn:j<n
  ·obtain⟨i,hi⟩:∃i,i=n-1-j:=⟨_,rfl⟩
   have hcast:(n:Int)-1-(j:Int)=(i:Int):=by omega
   rw[hcast]
   have hin:i<n:=by omega
   have hHl:(hdrS n sl st j).length=288:=by
    cases j with
    | zero=>exact QGA
    | succ j=>
      show (hdrA n sl st j).length=288
      rw[hdrA,QGy,QGy,Qdu (hstl.out _ (by omega)),hbl.out,tagA,QbJ]
   obtain⟨b,o,rfl,hbb,hc⟩:=(hcr.later hLw).at_ hin
   obtain⟨hE0,_⟩:=hok'.out i hin
   have hEn:=hid (fun w=>QoC (cs.getD i cmd0) hE0 w)
   rw[hsl'.out i hin]at hEn
   have hml:=hkl.out i 0 hin (by omega)
   have hsl3:=hkl.out i 32 hin (by omega)
   have hal:=hkl.out i 128 hin (by omega)
   have hmM:=hid (fun w' h=>hcM.out i hin w' h)
   have hmS:=hid (fun w' h=>hcS.out i hin w' h 32 32 _ rfl)
   have hmA:=hid (fun w' h=>hcS.out i hin w' h 128 32 _ rfl)
   have hge:(0:Int)≤(i:Int):=by omega
   have hbr:=hbl.out j
   have hst':Hid (hdrS n sl st (j+1)=subB (st i) 128 32++(tagB (subB (st i) 0 32) (subB (st i) 128 32) (betA n sl st j)++betA n sl st j)):=hid (by
    show hdrA n sl st j=_
    rw[hdrA,tagA,←hi]
    rfl)
   have hbe:Hid (betA n sl st j=if j=0 then xorB (sl i++QGn Z 0) (chaS (subB (st i) 32 32) (32+Z))++QfV st (n-1) else xorB (sl i++(subB (hdrS n sl st j) 32 16++(subB (hdrS n sl st j) 48 240).take 192)) (chaS (subB (st i) 32 32) 240)):=hid (by
    cases j with
    | zero=>
      rw[if_pos rfl,hb0.out,show i=n-1 by omega]
    | succ j=>
      obtain⟨_,h2,h3⟩:=Qln h1 h5 hsll.out (st:=st) j (Qdu (hstl.out _ (by omega)))
      rw[if_neg (by omega)]
      show _=xorB (sl i++(subB (hdrA n sl st j) 32 16++(subB (hdrA n sl st j) 48 240).take 192)) _
      rw[h2,h3,betA,show n-2-j=i by omega]
      rfl)
   generalize betA n sl st j=BJ at *
   generalize hdrS n sl st j=H at *
   generalize subB (st i) 0 32=M at *
   generalize subB (st i) 128 32=AL at *
   generalize subB (st i) 32 32=S at *
   have hslil:=hsll.out i
   replace hcast:=hid hcast
   replace hi:=hid hi
   generalize sl i=SL at *
   clear hE0
   go_wp2_with (first
    | (refine go_l rfl ?_;refine Qan rfl 64 _ rfl b (o+i*20) (CC (cs.getD i cmd0)) hc rfl _ Tryz.underlying64 rfl (by rw[Qao];exact QeX) ?_)
    | fail)
   refine (hEn.out wr).mono ?_
   rintro e w4 ⟨A4,c4,rfl,o4,j4⟩
   have r4:=OwnB.rd o4
   have cp4:=OwnB.cap o4
   clear o4 hEn
   have J4:=hLw.trans j4
   have hb4:=hB.later j4
   have hbS4:bS<w4.heap.size:=QGN hbS J4.size
   have rS4:=Qk9 hbS4 (hmS.out w4 J4) hsl3
   have rF4:=RdB.later rF (L.trans j4)
   by_cases hj0:j=0
   case' pos=>
    have e0:((i:Int)==(n:Int)-1)=true:=by have:=hi.out;simp;omega
    have hbe':=hid (hbe.out.trans (if_pos hj0))
    clear hbe
    go_wp2_with (first
     | (refine QaA rfl _ _ _ rfl 5 _ 1 Tryz.underlying22 Qc4 rfl _ _ _ _ Z rfl rfl rfl rfl (by omega) (by omega) ?_;intro w5 hb5 hl5)
     | fail)
    have hzZ:QGn Z (Value.int .u8 0)=(QGn Z (0:UInt8)).map W8:=by rw[QG8];rfl
    rw[hzZ]at hb5
    have r4':=RdB.later r4 hl5
    have P5:=Qe4 (Blk.new w5 22 [.slice A4 32 c4,.slice (some ⟨w4.heap.size,0,none⟩) Z Z]) (Qba (RdB.later r4' (Qaa _ _)) cp4) (Qba (Qcv (hb5.later (Qaa _ _)) (by rw[QGA])) (QGx _))
    have hflt:([SL,QGn Z (0:UInt8)]:List (List UInt8)).flatten=SL++QGn Z 0:=by simp
    have hfll:(SL++QGn Z (0:UInt8)).length=32+Z:=by rw[QGy,QGA,hslil]
    have hTu:=Qi4 (some ⟨bS,oS+i*192+32,none⟩) 32 2 2 _ S _ _ (RdB.later rS4 (hl5.trans (Qaa _ _))) P5 (by omega) (by rw[hflt,hfll];omega)
    rw[hflt,hfll]at hTu
    clear hb5
    go_wp2_with fail
    refine hTu.mono ?_
    rintro e w6 ⟨A6,c6,rfl,o6,j6⟩
    clear hTu P5
    have J6:=hl5.trans ((Qaa w5 (.cells #[.slice A4 32 c4,.slice (some ⟨w4.heap.size,0,none⟩) Z Z] 22)).trans j6)
    have P7:=Qe4 (Blk.new w6 22 [.slice A6 (32+Z) c6,.slice A2 F c2]) (Qba (OwnB.rd (QaF o6 (Qaa _ _))) (OwnB.cap o6)) (Qba (RdB.later rF4 (J6.trans (Qaa _ _))) cF)
    have hfl7:([xorB (SL++QGn Z 0) (chaS S (32+Z)),QfV st (n-1)]:List (List UInt8)).flatten=BJ:=by rw[hbe'.out];simp
    have hJn:=QcT (some ⟨w6.heap.size,0,none⟩) 2 2 _ _ P7 (by omega) (by rw[hfl7,hbr];omega)
    rw[hfl7,hbr]at hJn
    go_wp2_with fail
    refine hJn.mono ?_
    rintro e w9 ⟨A9,c9,rfl,o9,j9⟩
    clear hJn P7
    have L9:Later w4 w9:=J6.trans ((Qaa _ _).trans j9)
    clear o6 j9 j6 J6 hbe'
   case' neg=>
    have e0:((i:Int)==(n:Int)-1)=false:=by have:=hi.out;simp;omega
    have hbe':=hid (hbe.out.trans (if_neg hj0))
    clear hbe
    have hbd:=hb4.drew
    have hlH:=hbd.lt
    have h3:(subB H 32 16).length=16:=Qaq (by omega)
    have h4:(subB H 48 240).length=240:=Qaq (by omega)
    have hbS4d:=QGN hbS4 (Qab w4).size
    go_wp2_with fail
    refine Qaf [([0,1,2,3,4,5,6,7,8,9,10],11),([],12)] [13,14,15,16,17] [] (by as_aux_lemma=>kernel_rfl) (by as_aux_lemma=>kernel_rfl) (by intro _ _ d _ _ h;cases d<;>exact h) ?_
    simp only[Qaj,pick,QGo,QGp,QGs,QGu,QGv]
    repeat (go_big_quiet_step (fail))
    refine wpQuiet_nil ?_
    go_wp2_with fail
    try refine⟨by first|assumption|exact Qab _|exact Qaa _ _|exact Later.refl _,?_⟩
    try simp only[Qaj,pick,QGo,QGp,QGs,QGu,QGv]
    repeat (go_big_quiet_step (fail))
    refine wpQuiet_nil ?_
    go_wp2_with fail
    have JW:Later w4 (w4.alloc (.cells #[.slice A4 32 c4,.slice (some ⟨gH,32,none⟩) 16 16,.slice (some ⟨gH,48,none⟩) 192 240] 22)).drew:=(Qaa _ _).trans (Qab _)
    have hP:=Qep ((Blk.new w4 22 [.slice A4 32 c4,.slice (some ⟨gH,32,none⟩) 16 16,.slice (some ⟨gH,48,none⟩) 192 240]).drew.rd rfl) (ps:=[SL,subB H 32 16,(subB H 48 240).take 192]) ⟨Qba (RdB.later r4 JW) cp4,Qba (Qcc (hb4.later JW) rfl h3) (QGx _),Qba (RdB.take (Qcc (hb4.later JW) rfl h4) (by omega)) (by omega),trivial⟩
    have hfl:([SL,subB H 32 16,(subB H 48 240).take 192]:List (List UInt8)).flatten=SL++(subB H 32 16++(subB H 48 240).take 192):=by simp
    have hfll:(SL++(subB H 32 16++(subB H 48 240).take 192)).length=240:=by rw[QGy,QGy,QGP];omega
    have hTu:=Qi4 (some ⟨bS,oS+i*192+32,none⟩) 32 3 3 _ S _ _ (RdB.later rS4 JW) hP (by omega) (by rw[hfl,hfll];omega)
    rw[hfl,hfll,←hbe'.out]at hTu
    refine hTu.mono ?_
    rintro e w9 ⟨A9,c9,rfl,o9,j9⟩
    have L9:Later w4 w9:=JW.trans j9
    go_wp2_with fail
    try refine⟨by first|assumption|exact Qab _|exact Qaa _ _|exact Later.refl _,?_⟩
    try simp only[Qaj,pick,QGo,QGp,QGs,QGu,QGv]
    repeat (go_big_quiet_step (fail))
    refine wpQuiet_nil ?_
    clear hTu hP hfl hfll hbd hlH h3 h4 hbS4d hbe'
   all_goals
    have hb9:=hb4.later L9
    have J9:=J4.trans L9
    have hbS9:=QGN hbS4 L9.size
    have dA:=hmA.out w9 J9
    obtain⟨Y,hY,hH2⟩:=QFF (be:=BJ) hHl hal hbr
    obtain⟨hsA,hsB⟩:=QA2 hal hY hbr
    replace hH2:=hid hH2
    have hH1:(putB H 0 AL).length=288:=by rw[QbE (by omega),hHl]
    go_wp2_with (first
     | (refine go_l rfl ?_;refine QpD rfl _ rfl dA hal rfl ?_)
     | (refine Qa1 rfl ?_;refine QoP 0 32 rfl rfl _ _ rfl hb9 rfl rfl Qbf hal (by omega) ?_;intro wa hba hoa
        have la:Later w2 wa:=(L.trans (j4.trans L9)).only hoa (by rw[←hgH];exact QGx _)
        have r9b:=OwnB.rd (QaV o9 hb9 (by decide) hoa))
     | (refine Qli 48 240 rfl _ _ _ _ rfl 5 Tryz.underlying22 Qb2 hba r9b rfl rfl (by omega) ?_;intro wb hbb hob)
     | fail)
    rw[hH2.out]at hbb
    simp only[Act.put,QGw,QGB,QGz]
    have lb:Later w2 wb:=la.only hob (by rw[←hgH];exact QGx _)
    have hbd:=hbb.drew
    have hlH:=hbd.lt
    have Jb:=B2.lat.trans lb
    have hbSb:bS<wb.drew.heap.size:=QGN hbS (Jb.trans (Qab _)).size
    clear hba hoa hob la hb9 o9 dA
    refine Qaf [([0,1,2,3,4,5,6,7,8,9,10,11],12),([],13)] [] [14] (by as_aux_lemma=>kernel_rfl) (by as_aux_lemma=>kernel_rfl) (by intro _ _ d _ _ h;cases d<;>exact h) ?_
    simp only[Qaj,pick,QGo,QGp,QGs,QGu,QGv]
    repeat (go_big_quiet_step (fail))
    refine wpQuiet_nil ?_
    go_wp2_with fail
    try refine⟨by first|assumption|exact Qab _|exact Qaa _ _|exact Later.refl _,?_⟩
    try simp only[Qaj,pick,QGo,QGp,QGs,QGu,QGv]
    repeat (go_big_quiet_step (fail))
    refine wpQuiet_nil ?_
    go_wp2_with fail
    have JW:Later wb (wb.alloc (.cells #[.slice (some ⟨gH,0,none⟩) 32 32,.slice (some ⟨gH,48,none⟩) 240 240] 22)).drew:=(Qaa _ _).trans (Qab _)
    have hbW:=hbb.later JW
    have hP:=Qep ((Blk.new wb 22 [.slice (some ⟨gH,0,none⟩) 32 32,.slice (some ⟨gH,48,none⟩) 240 240]).drew.rd rfl) (ps:=[AL,BJ]) ⟨Qba (Qcc hbW hsA hal) (QGx _),Qba (Qcc hbW hsB hbr) (QGx _),trivial⟩
    have hfl:([AL,BJ]:List (List UInt8)).flatten=AL++BJ:=by simp
    have rM:=Qk9 (QGN (QGN hbS Jb.size) JW.size) (hmM.out _ (Jb.trans JW)) hml
    have hSh:=Qnw (some ⟨bS,oS+i*192,none⟩) (some ⟨wb.heap.size,0,none⟩) 32 32 2 2 M [AL,BJ] _ rM (QGx _) (by omega) hP (by omega) (by rw[hfl,QGy];omega)
    rw[hfl]at hSh
    have hTg:Hid ((QbY M (AL++BJ)).take 16=tagB M AL BJ):=hid rfl
    rw[hTg.out]at hSh
    have hTl:=QbJ M AL BJ
    generalize tagB M AL BJ=TG at *
    refine hSh.mono ?_
    rintro e wc ⟨Ac,cc,rfl,oc,jc⟩
    go_wp2_with fail
    try refine⟨by first|assumption|exact Qab _|exact Qaa _ _|exact Later.refl _,?_⟩
    try simp only[Qaj,pick,QGo,QGp,QGs,QGu,QGv]
    repeat (go_big_quiet_step (fail))
    refine wpQuiet_nil ?_
    have hbc:=hbW.later jc
    go_wp2_with (first
     | (refine Qli 32 16 rfl _ _ _ _ rfl 5 Tryz.underlying22 Qb2 hbc (OwnB.rd oc) rfl rfl (by rw[QGy,QGy];omega) ?_;intro wd hbd2 hod)
     | fail)
    rw[QcC AL Y BJ TG 32 hal (by omega),←hst'.out]at hbd2
    exact⟨⟨j+1,by omega,by rw[show (n:Int)-1-((j+1:Nat):Int)=(i:Int)-1 by have:=hcast.out;omega],hbd2,(lb.trans (JW.trans jc)).only hod (by rw[←hgH];exact QGx _)⟩,by simp only[intOf];omega⟩
  ·have hjn':j=n:=by omega
   have fge:decide ((0:Int)≤(n:Int)-1-(j:Int))=false:=decide_eq_false (by omega)
   obtain⟨m,rfl⟩:∃m,n=m+1:=⟨n-1,by omega⟩
   have hH:Hid (hdrS (m+1) sl st j=hdrA (m+1) sl st m):=hid (by rw[hjn'];rfl)
   have hHl:(hdrS (m+1) sl st j).length=288:=by
    rw[hH.out,hdrA,QGy,QGy,Qdu (hstl.out _ (by omega)),hbl.out,tagA,QbJ]
   have hB0:=(B2.later L).nth 0 rfl
   have hz:((QGn 288 (0:UInt8)).map W8).length=288:=by rw[QGr,QGA]
   replace hjn':=hid hjn'
   generalize hdrS (m+1) sl st j=H at *
   go_wp2_with (first
    | (refine go_l rfl ?_;refine QkZ rfl _ rfl hB hHl rfl ?_)
    | (refine Qa1 rfl ?_;refine Qee rfl rfl _ _ rfl hB0 rfl rfl hHl hz ?_;intro w5 hb5 ho5)
    | fail)
   exact bodyPost_ret (Qac rfl _ _ _ _ _ _ hb5 rfl Tryz.underlying34 rfl (by rw[QGr,hHl];exact Qc5)) rfl ⟨by rw[hH.out];rfl,hLw.only ho5 (QGx _)⟩
theorem QrU (kd:UInt8) (hs:List Hp) (n i:Nat) (h:i<n):(QfA kd hs n).getD i cmd0=QbS (lcK kd) hs i:=by
 rw[QfA,QGq,QGF,QHD h]
 rfl
theorem Qpk (x:List UInt8) (ps:List (List UInt8)) (n i:Nat) (h:i<n):(QcD x ps n).getD i []=Qcz x ps i:=by
 rw[QcD,QGq,QGF,QHD h]
 rfl
theorem QsE (b c:Nat):QbH [1,b,c]=1:=by
 have h1:∀e:Nat,(if e≠0∧((1:Nat)=0∨e<1) then e else 1)=1:=fun e=>if_neg (by omega)
 show (if c≠0∧((if b≠0∧((1:Nat)=0∨b<1) then b else 1)=0∨c<(if b≠0∧((1:Nat)=0∨b<1) then b else 1)) then c else (if b≠0∧((1:Nat)=0∨b<1) then b else 1))=1
 rw[h1,h1]
theorem QkG (ks:List (List UInt8)) (j:Nat) (h:j<ks.length):ks.reverse.take (j+1)=ks.reverse.take j++[ks.getD (ks.length-1-j) []]:=by
 have hj:j<ks.reverse.length:=by rw[QIC];exact h
 rw[QGY hj,List.getElem_reverse,QGq,QGt (show ks.length-1-j<ks.length by omega)]
 rfl
theorem Qrx (rs:List Int) (p b:List UInt8):QgB rs [p] b=QdZ p rs b:=rfl
theorem QnE {n:Nat} {st:Nat→List UInt8} {body:List UInt8} {ps:List (List UInt8)} (hn:ps.length=n) (hk:∀k,k<n→ps.getD k []=kPay (st k)) (hst:∀k,(st k).length=192) (hb:body.length=480):∀j,j≤n→QgB rsS (ps.reverse.take j) body=seaA n st body j
 | 0,_=>rfl
 | j+1,hj=>by
   have ih:=QnE hn hk hst hb j (by omega)
   have hl:=Qds (n:=n) hst hb j
   have hkl:(kPay (st (n-1-j))).length=32:=Qaq (by rw[hst];omega)
   rw[QkG _ _ (by omega),Qif,ih,hn,hk _ (by omega),Qrx,seaA]
   generalize seaA n st body j=X at *
   generalize kPay (st (n-1-j))=K at *
   exact (Qwe okS hkl (by omega) (by omega)).2.symm
theorem QwZ {n:Nat} {st:Nat→List UInt8} {body:List UInt8} {ps:List (List UInt8)} (hn:ps.length=n) (hk:∀k,k<n→ps.getD k []=kPay (st k)) (hst:∀k,(st k).length=192) (hb:body.length=480):allB rsS ps.reverse body=seaA n st body n∧allE ps.reverse body=0:=by
 have hok:QnL body∧okK ps.reverse:=⟨⟨by omega,by omega⟩,fun p hp=>by
  obtain⟨k,hk',rfl⟩:=QHQ (List.mem_reverse.1 hp)
  have:=hk k (by omega)
  rw[QGq,QGt hk']at this
  show ps[k].length=32
  have e:ps[k]=kPay (st k):=this
  rw[e]
  exact Qaq (by rw[hst];omega)⟩
 obtain⟨h1,h2⟩:= @Qvo rsS _ _ hok
 have:=QnE hn hk hst hb n (QGx _)
 rw[QGD (by rw[QIC];omega)]at this
 exact⟨h1.trans this,h2⟩
theorem Qrt {w:World} {g n:Nat} {gs:List Nat} {hs:List Hp} (hl:hs.length=n) (hb:Blk w g 22 (gs.map S32)) (hg:gs.length=n) (hgs:∀(j b:Nat),gs[j]?=some b→g<b∧Blk w b 5 ((hs.getD j hp0).nod.pub.val.map W8)):Parts w (fun _=>False) (some ⟨g,0,none⟩) n (pubH hs):=by
 refine⟨gs.map S32,hb.rd (by rw[QGr,hg]),fun _ _ _ h=>h,by rw[QGr,hg,pubH,QGr,hl],fun j v p hv hp=>?_⟩
 rw[QGF,QIg]at hv
 obtain⟨b,hbj,rfl⟩:=hv
 rw[pubH,QGF,QIg]at hp
 obtain⟨x,hx,rfl⟩:=hp
 have:=(hgs j b hbj).2
 rw[QGq,hx]at this
 exact Qba (Qcv this x.nod.pub.2) (QGx _)
noncomputable def bldP (x:List UInt8) (c:Cmd) (body:List UInt8) (hs:List Hp):List UInt8:=if Qcm x c body hs=0 then Qk8 x c body hs else QGn 768 0
set_option maxRecDepth 100000 in
set_option maxHeartbeats 16000000 in
theorem QrL (kd:UInt8) (hkd:kd=2∨kd=3) (A B H:Option Addr) (nx cx nb cb n ch:Nat) (x body:List UInt8) (hs:List Hp) (w:World) (hx:RdB w A nx x) (hxc:nx≤cx) (hb:RdB w B nb body) (hbc:nb≤cb) (hnb:nb≤1048576) (hh:RdH w H n hs) (hn:n≤1048576):
 Calls Tryz.prog 51 #[.slice A nx cx,.agg (CC (lcK kd)).toArray,.slice B nb cb,.slice H n ch] w fun e w'=>e= .returned (.tuple #[.agg ((bldP x (lcK kd) body hs).map W8).toArray,.int .i64 (Qcm x (lcK kd) body hs:Nat)])∧Later w w':=by
 have hl:=hh.1
 have hbl:=hb.len
 have l0:(QGn 768 (0:UInt8)).length=768:=QGA
 have B0:=(Qbk w 64 (CC (lcK kd))).fresh (Qaa _ (.cells Tryz.zeroCells37 37)) (QGx _) ((Blk.new (w.alloc (.cells (CC (lcK kd)).toArray 64)) _ Tryz.zeroCells37.toList).cast zcP)
 have HZ:=hid zcP
 have HH:=hid zcH
 have hz0:=hid QhE
 have hb1:=hid (fun h hl=>QkU h hl)
 have hPa:=hid (fun w h=>Qti kd hkd H n ch hs w h hn)
 have hPu:=hid (fun w h=>Qm5 H n ch hs w h (by omega))
 have hSc:=hid (fun A2 c2 w h1 h2=>Qlq A A2 nx cx n c2 x (pubH hs) w h1 hxc h2 (by omega))
 have hEq:Hid (Qcm x (lcK kd) body hs=QbH [QeI (lcK kd) hs,Qdg x (pubH hs),if nb=480 then 0 else 2]):=hid (by rw[Qcm,hbl])
 have hR:Hid (Qcm x (lcK kd) body hs≠0→bldP x (lcK kd) body hs=QGn 768 0):=hid (fun h=>by rw[bldP,if_neg h])
 have hR0:Hid (Qcm x (lcK kd) body hs=0→bldP x (lcK kd) body hs=pktA n (fun i=>encB (QbS (lcK kd) hs i)) (Qcz x (pubH hs)) body 0):=hid (fun h=>by rw[bldP,if_pos h,Qk8,hl])
 have hpok:=hid (fun h i (hi:i<n)=>Qml (c:=lcK kd) (hs:=hs) h (i:=i) (by omega))
 have hp15:=hid (fun h=>Qd3 (c:=lcK kd) (hs:=hs) h)
 have hcg:=hid (QrU kd hs n)
 have hsg:=hid (Qpk x (pubH hs) n)
 have hpl:Hid (QnM kd hs=if QeI (lcK kd) hs=0 then QfA kd hs n else []):=hid (by rw[QnM,hl])
 have hcl:=hid (QdM kd hs n)
 have hstl:=hid (QcE x (pubH hs))
 have hsal:=hid (Qhz x (pubH hs) n)
 have hdp:=hid (fun (w:World) g (gs:List Nat) hb hg hgs=>Qrt (w:=w) (g:=g) (n:=n) (gs:=gs) (hs:=hs) hl hb hg hgs)
 generalize Qcm x (lcK kd) body hs=E at *
 generalize bldP x (lcK kd) body hs=R at *
 generalize QeI (lcK kd) hs=PE at *
 generalize Qdg x (pubH hs)=SE at *
 generalize QnM kd hs=PL at *
 generalize hZ:QGn 768 (0:UInt8)=Z at *
 go_enter Tryz.func51,Tryz.ntmps51
 go_wp2_with (first
  | (refine go_l rfl ?_;refine Qc3 rfl _ rfl (B0.nth 1 rfl) rfl ?_)
  | fail)
 generalize hW:World.alloc (World.alloc w _) _=wA at *
 replace B0:Bag w wA [(w.heap.size+1,37,Z.map W8),(w.heap.size,64,CC (lcK kd))]:=by
  simpa only[World.alloc,Array.size_push] using B0
 clear hW
 refine (hPa.out _ (hh.later B0.lat)).mono ?_
 rintro e w1 ⟨A1,c1,rfl,o1,j1⟩
 have B1:=B0.later j1
 have l1:(Z.map W8).length=768:=by rw[QGr,l0]
 by_cases hP1:PE=1
 ·subst hP1
  have hE1:E=1:=hEq.out.trans (QsE _ _)
  have hX:=hid (hR.out (by omega))
  subst hE1
  clear hPa hPu hSc hEq hR hR0 hpok hp15 hcg hsg hpl hcl hstl hsal hdp
  go_wp2_with (first
   | (refine go_b rfl ?_;refine Qah ?hw 37 _ rfl (Z.map W8) (by simp only[QGC,QGH];exact hz0.out) ?_;(case hw=>rfl))
   | (refine Qa1 rfl ?_;refine Qbd rfl rfl _ _ rfl (B1.nth 0 rfl) rfl rfl l0 l1 ?_;intro w2 hb2 ho2)
   | fail)
  exact bodyPost_ret (Qac rfl _ _ _ _ _ _ hb2 rfl Tryz.underlying37 rfl (by rw[l1];exact Qcb)) rfl ⟨by rw[hX.out];rfl,B1.lat.only ho2 (by omega)⟩
 have hne1:((PE:Int)==1)=false:=by
  rw[beq_eq_false_iff_ne]
  omega
 go_wp2_with fail
 (refine (hPu.out _ (hh.later B1.lat)).mono ?_);rintro e w2 ⟨gp,gs,rfl,_,hbg,hgl,hgs,_,j2⟩
 have hpu:=hdp.out _ _ _ hbg hgl hgs
 have B2:=B1.later j2
 clear hPa hPu hdp hbg hgl hgs B0
 go_wp2_with fail
 (refine (hSc.out _ _ _ (hx.later B2.lat) hpu).mono ?_);rintro e w3 ⟨j3,hor⟩
 have B3:=B2.later j3
 have o1':=o1.later (j2.trans j3)
 clear hSc o1 j1 j2 j3 B2 B1 hx hpu
 obtain⟨vS,hre,hok⟩:∃vS,e= .returned (.tuple #[vS,.int .i64 (SE:Nat)])∧(SE=0→∃A' c',vS= .slice A' n c'∧n≤c'∧RdK 192 w3 A' n (QcD x (pubH hs) n)):=by
  rcases hor with ⟨h,rfl⟩|⟨h,A',c',rfl,h2,h3⟩
  ·exact⟨_,rfl,fun e=>absurd e h⟩
  ·exact⟨_,by rw[h];rfl,fun _=>⟨A',c',rfl,h2,h3⟩⟩
 subst hre
 clear hor
 replace hok:=hid hok
 obtain⟨BE,hBE⟩:∃BE,BE=if nb=480 then 0 else 2:=⟨_,rfl⟩
 rw[←hBE]at hEq
 have hBd:Hid (BE=0→nb=480):=hid (fun h=>by
  by_cases e:nb=480
  ·exact e
  ·rw[hBE,if_neg e]at h
   cases h)
 have hls:=hid (fun g (w:World) h=>Qe5 (some ⟨g,0,none⟩) 3 3 [PE,SE,BE] w h (by omega))
 rw[←hEq.out]at hls
 have hlz:Hid (E=0→PE=0∧SE=0∧BE=0):=hid (fun h=>by
  rw[hEq.out,QbG]at h
  exact⟨h _ (by simp),h _ (by simp),h _ (by simp)⟩)
 clear hEq
 by_cases hE:E=0
 case neg=>
  have hne:((E:Int) != 0)=true:=bne_iff_ne.2 (by omega)
  have hX:=hid (hR.out hE)
  clear hR hR0 hpok hp15 hcg hsg hpl hcl hstl hsal hok hlz hBd
  by_cases h480:nb=480
  ·have hne4:((nb:Int) != 480)=false:=by simp;omega
   obtain rfl:BE=0:=by rw[hBE,if_pos h480]
   clear h480 hBE
   go_wp2_with fail
   refine (hls.out _ _ ((Blk.new w3 27 [.int .i64 (PE:Int),.int .i64 (SE:Int),.int .i64 0]).rd rfl)).mono ?_;rintro e w4 ⟨rfl,j4⟩
   have B4:=(B3.later (Qaa w3 (.cells #[.int .i64 (PE:Int),.int .i64 (SE:Int),.int .i64 0] 27))).later j4
   go_wp2_with (first
    | (refine go_b rfl ?_;refine Qah ?hw 37 _ rfl (Z.map W8) (by simp only[QGC,QGH];exact hz0.out) ?_;(case hw=>rfl))
    | (refine Qa1 rfl ?_;refine Qbd rfl rfl _ _ rfl (B4.nth 0 rfl) rfl rfl l0 l1 ?_;intro w5 hb5 ho5)
    | fail)
   exact bodyPost_ret (Qac rfl _ _ _ _ _ _ hb5 rfl Tryz.underlying37 rfl (by rw[l1];exact Qcb)) rfl ⟨by rw[hX.out];rfl,B4.lat.only ho5 (by omega)⟩
  ·have hne4:((nb:Int) != 480)=true:=by simp;omega
   obtain rfl:BE=2:=by rw[hBE,if_neg h480]
   clear h480 hBE
   go_wp2_with fail
   refine (hls.out _ _ ((Blk.new w3 27 [.int .i64 (PE:Int),.int .i64 (SE:Int),.int .i64 2]).rd rfl)).mono ?_;rintro e w4 ⟨rfl,j4⟩
   have B4:=(B3.later (Qaa w3 (.cells #[.int .i64 (PE:Int),.int .i64 (SE:Int),.int .i64 2] 27))).later j4
   go_wp2_with (first
    | (refine go_b rfl ?_;refine Qah ?hw 37 _ rfl (Z.map W8) (by simp only[QGC,QGH];exact hz0.out) ?_;(case hw=>rfl))
    | (refine Qa1 rfl ?_;refine Qbd rfl rfl _ _ rfl (B4.nth 0 rfl) rfl rfl l0 l1 ?_;intro w5 hb5 ho5)
    | fail)
   exact bodyPost_ret (Qac rfl _ _ _ _ _ _ hb5 rfl Tryz.underlying37 rfl (by rw[l1];exact Qcb)) rfl ⟨by rw[hX.out];rfl,B4.lat.only ho5 (by omega)⟩
 obtain⟨hp0,hs0,hb0⟩:=hlz.out hE
 obtain rfl:=hBd.out hb0
 subst hE hp0 hs0 hb0
 have hR':=hR0.out rfl
 obtain⟨A4,c4,rfl,hc4,hrk⟩:=hok.out rfl
 rw[if_pos rfl]at hpl
 obtain⟨_,_,hn1,hn5,_,_⟩:=hp15.out rfl
 rw[hl]at hn1 hn5
 have hPL:PL=QfA kd hs n:=hpl.out
 subst hPL
 rw[hcl.out]at o1' ⊢
 have hcok:=hid (fun i (hi:i<n)=>show cmdE ((QfA kd hs n).getD i cmd0)=0∧(((QfA kd hs n).getD i cmd0).kd=1↔i+1<n) from by
  rw[hcg.out i hi]
  have:=hpok.out rfl i hi
  rwa [hl]at this)
 have hcg':=hid (fun i (hi:i<n)=>show encB ((QfA kd hs n).getD i cmd0)=(fun i=>encB (QbS (lcK kd) hs i)) i from by rw[hcg.out i hi])
 have hsa:Hid (∀ k,((fun i=>encB (QbS (lcK kd) hs i)) k).length=32):=hid (fun k=>QcW _)
 generalize QfA kd hs n=CS at *
 generalize (fun i=>encB (QbS (lcK kd) hs i))=sl at *
 obtain⟨hsA,hsZ⟩:=QwZ (n:=n) (st:=Qcz x (pubH hs)) (body:=body) (ps:=Qev (QcD x (pubH hs) n)) (by rw[Qc6];exact hrk.1) (fun k hk=>by rw[Qi8 _ _ (by rw[hrk.1];exact hk),hsg.out k hk];rfl) hstl.out hbl
 have hsl8:=Qds (n:=n) (st:=Qcz x (pubH hs)) hstl.out hbl n
 have hpyl:(Qev (QcD x (pubH hs) n)).length=n:=by rw[Qc6];exact hrk.1
 have hpy3:Hid (∀ p∈Qev (QcD x (pubH hs) n),p.length=32):=hid (fun p hp=>by
  obtain⟨s,hs,rfl⟩:=QG2.1 hp
  exact Qaq (by rw[hsal.out s hs];omega))
 have hHl:(hdrA n sl (Qcz x (pubH hs)) (n-1)).length=288:=by
  rw[hdrA,QGy,QGy,Qdu (hstl.out _),QbL hn1 hn5 hsa.out,tagA,QbJ]
 have hPy:=hid (fun w h=>QwQ A4 n c4 (QcD x (pubH hs) n) w h hsal.out (by omega))
 have hRt:=hid (fun j h=>QkG (Qev (QcD x (pubH hs) n)) j h)
 have hHb:=hid (fun (w:World) h1 h2=>QrG A1 A4 n c1 c4 CS (QcD x (pubH hs) n) w h1 h2 hsal.out hn1 hn5 hc4 hcok.out sl (Qcz x (pubH hs)) hsa.out hcg'.out hsg.out)
 have hRv:R=hdrA n sl (Qcz x (pubH hs)) (n-1)++seaA n (Qcz x (pubH hs)) body n:=hR'
 have hSa:=hid (fun A B d e0 w h1 h2 h3=>Qpe A B 480 d n e0 (Qev (QcD x (pubH hs) n)).reverse body w h1 h2 h3 (by omega) (by omega))
 rw[hsA,hsZ,hsl8]at hSa
 clear hsA hsZ hcok hcg' hsa hR hR0 hR' hpok hp15 hcg hpl hcl hok hlz hBd hBE
 generalize hdrA n sl (Qcz x (pubH hs)) (n-1)=HD at *
 generalize seaA n (Qcz x (pubH hs)) body n=SB at *
 clear hsg hstl
 generalize Qev (QcD x (pubH hs) n)=PS at *
 generalize QcD x (pubH hs) n=XS at *
 go_wp2_with fail
 refine (hls.out _ _ ((Blk.new w3 27 [.int .i64 0,.int .i64 0,.int .i64 0]).rd rfl)).mono ?_;rintro e w4 ⟨rfl,j4⟩
 have J4:=(Qaa w3 (.cells #[.int .i64 0,.int .i64 0,.int .i64 0] 27)).trans j4
 have B4:=B3.later J4
 clear hls
 go_wp2_with fail
 (refine (hHb.out _ (o1'.later J4) (hrk.later J4)).mono ?_);rintro e w5 ⟨rfl,j5⟩
 have B5:=B4.later j5
 have hrk5:=hrk.later (J4.trans j5)
 clear hHb o1' hrk B4 B3
 go_wp2_with (first
  | (refine Qa1 rfl ?_;refine Qee rfl rfl _ _ rfl ((Blk.new w5 _ Tryz.zeroCells34.toList).cast HH.out) rfl rfl hHl (by rw[QGr,QGA]) ?_;intro w6 hb6 ho6)
  | fail)
 have B6:=B5.push (Qaa _ _) (QGx _) ho6 hb6
 have hrk6:=hrk5.later ((Qaa w5 (.cells Tryz.zeroCells34 34)).only ho6 (QGx _))
 clear hrk5 B5 ho6 hb6
 go_wp2_with fail
 (refine (hPy.out _ hrk6).mono ?_);rintro e w7 ⟨gs,rfl,hgs,P7⟩
 have hpp:=Qsy P7 hgs hpyl hpy3.out
 have B7:=B6.later P7.lat
 clear hPy P7 B6 hrk6 hgs
 obtain⟨AP,hAP⟩:∃AP,AP=some (⟨w6.heap.size,0,none⟩:Addr):=⟨_,rfl⟩
 rw[←hAP]at hpp ⊢
 clear hAP
 go_wp2_with (first
  | (refine QcF rfl _ _ _ rfl 22 (.slice none 0 0) 24 Tryz.underlying48 Qt3 rfl _ _ _ _ 0 n rfl rfl ?hL ?hC (by omega) (by omega) (by omega) ?_;(case hL=>rfl);(case hC=>rfl);intro w8 hown8 hl8)
  | fail)
 go_loopw [19,20] (fun v i wr=>∃(j:Nat) (A':Option Addr) (c':Nat) (us:List Value),j≤n∧i= .int .i64 ((n:Int)-1-(j:Int))∧v= .slice A' j c'∧wr.ownsRow w7.heap.size 22 1 (.slice A' j c') j us∧us.length=j∧Hid (∀ (q:Nat) v p,us[q]?=some v→(PS.reverse.take j)[q]?=some p→Part w7 (fun _=>False) v p)∧Later w7 wr) (fun _ i _=>(intOf i+1).toNat)
 case atStart=>exact⟨0,_,_,[],by omega,by simp,rfl,hown8,rfl,hid (fun q v p h=>by simp at h),hl8⟩
 case round=>
  clear hown8 hl8
  obtain⟨j,A9,c9,us,hj,rfl,rfl,hown,hul,hu3,LB⟩:=hrel
  by_cases hjn:j<n
  ·obtain⟨i,hi⟩:∃i,i=n-1-j:=⟨_,rfl⟩
   have hcast:(n:Int)-1-(j:Int)=(i:Int):=by omega
   rw[hcast]
   have hik:i<n:=by omega
   obtain⟨b,o,Ak,nk,ck,rfl,hbb,hck,hcap,hrd,hav⟩:=hpp.at_ hik
   have hck':=(LB.below.cell (p:=⟨b,o+i,none⟩) hbb).trans hck
   have hbr:=QGN hbb LB.size
   have HS:=hid (hRt.out j (by rw[hpyl];exact hjn))
   rw[hpyl,←hi]at HS
   generalize PS.getD i []=q at *
   replace hcast:=hid hcast
   replace hi:=hid hi
   have hge:(0:Int)≤(i:Int):=by omega
   clear hck
   go_wp2_with (first
    | (refine QbU rfl _ _ _ rfl 22 _ 24 Tryz.underlying48 Qt3 rfl w7 _ j us (QaF hown (Qaa _ _)) (LB.trans (Qaa _ _)) _ 1 1 [.slice Ak nk ck] (Qnn (Qvl wr _ [.slice Ak nk ck] (by simp))) ?h1 rfl rfl (by omega) (by omega) ?_;(case h1=>simp[QvR]);intro A2 c2 w2 hown2 hl2 hg2 _)
    | fail)
   exact⟨⟨j+1,A2,c2,us++[.slice Ak nk ck],by omega,by rw[show (n:Int)-1-((j+1:Nat):Int)=(i:Int)-1 by have:=hcast.out;omega],rfl,hown2,by rw[QGy,hul];rfl,hid (fun q' v p hv hp=>by
    rw[HS.out]at hp
    rcases QHb q' j with h|h
    ·rw[QGG (by omega)]at hv
     rw[QGG (by rw[QGP,QIC];omega)]at hp
     exact hu3.out q' v p hv hp
    ·have hq:q'=j:=by
      have:=(QGL.1 hv).1
      simp[hul]at this
      omega
     subst hq
     rw[QGE (by omega),hul,QHG]at hv
     rw[QGE (by rw[QGP,QIC];omega),QGP,QIC,hpyl,QHx (by omega),QHG]at hp
     cases hv
     cases hp
     exact⟨Ak,nk,ck,rfl,hcap,hrd,fun _ _ _ h=>h⟩),hl2⟩,by simp only[intOf];omega⟩
  ·obtain rfl:j=n:=by omega
   have B8:=B7.later LB
   have hge: ¬(0:Int)≤(j:Int)-1-(j:Int):=by omega
   rw[QGD (by rw[QIC];omega)]at hu3
   have hpr:Parts wr (fun _=>False) A9 j PS.reverse:=⟨us,Qnn hown,fun _ _ _ h=>h,by rw[hul,QIC,hpyl],fun q v p hv hp=>(hu3.out q v p hv hp).later LB⟩
   clear hpp hu3 hown B7
   go_wp2_with fail
   (refine (hSa.out _ _ _ _ _ (hb.later B8.lat) hbc hpr).mono ?_);rintro e w9 ⟨j9,A10,c10,rfl,o10⟩
   have B9:=B8.later j9
   have hbu:=hid (hb1.out HD hHl)
   have hSl:=OwnB.len o10
   have lP:(HD++QGn 480 (0:UInt8)).length=768:=by rw[QGy,hHl,QGA]
   have hpt:Hid (putB (HD++QGn 480 (0:UInt8)) 288 SB=R):=hid (by rw[hRv,QeT _ _ _ 288 hHl (by rw[QGA,hSl])])
   have hRl:R.length=768:=by rw[hRv,QGy,hHl,hSl]
   clear hSa hpr B8 hRv
   generalize HD++QGn 480 (0:UInt8)=P1 at *
   go_wp2_with (first
    | (refine go_l rfl ?_;refine QkZ rfl _ rfl (B9.nth 0 rfl) hHl rfl ?_)
    | (refine go_b rfl ?_;refine Qah ?hw 37 _ rfl (P1.map W8) (by simp only[QGC,QGR,QGH];exact hbu.out) ?_;(case hw=>rfl))
    | (refine Qa1 rfl ?_;refine Qbd rfl rfl _ _ rfl ((Blk.new w9 _ Tryz.zeroCells37.toList).cast HZ.out) rfl rfl lP l1 ?_;intro wa hba hoa
       have Ba:=B9.push (Qaa _ _) (QGx _) hoa hba
       have oa:=o10.later ((Qaa w9 (.cells Tryz.zeroCells37 37)).only hoa (QGx _)))
    | (refine Qli 288 480 rfl _ _ _ _ rfl 5 Tryz.underlying22 Qb2 (Ba.nth 0 rfl) (OwnB.rd oa) rfl rfl (by omega) ?_;intro wb hbb hob
       rw[hpt.out]at hbb
       have Bb:=Ba.write 0 rfl hob hbb)
    | (refine QhV rfl _ rfl (Bb.nth 0 rfl) hRl rfl ?_)
    | (refine Qbd rfl rfl _ _ rfl (Bb.nth 2 rfl) rfl rfl hRl l1 ?_;intro wc hbc' hoc)
    | fail)
   exact bodyPost_ret (Qac rfl _ _ _ _ _ _ hbc' rfl Tryz.underlying37 rfl (by rw[QGr,hRl];exact Qcb)) rfl ⟨rfl,Bb.lat.only hoc (by omega)⟩
theorem Qz7 (p:Prt):prtE p≤3:=by
 unfold prtE
 split
 ·omega
 ·split
  ·omega
  ·split
   ·omega
   ·split
    ·omega
    ·split<;>omega
def Qg0 (p:Prt):List UInt8:=if prtE p=0 then Qbo p else QGn 480 0
theorem QfL (p:Prt):(Qg0 p).length=480:=by
 unfold Qg0
 split
 ·rename_i h
  exact QdK p (QfY h).2.1
 ·exact QGA
theorem Qja (p:Prt):(Qdw p).length=480:=by
 unfold Qdw
 split
 ·rename_i h
  have h0:prtE p=0:=by
   unfold frmE at h
   split at h
   ·cases h
   ·exact h
  exact QdK p (QfY h0).2.1
 ·exact QGA
theorem Qr3 (e b:Nat):QbH [0,e,b]=QbH [e,b]:=rfl
theorem QoZ (b:Nat):QbH [3,0,b]=QbH [3,b]:=rfl
theorem QpO (e b:Nat) (h0:e≠0) (h:e≤3):QbH [3,e,b]=QbH [e,b]:=by
 have h1:(if e≠0∧((3:Nat)=0∨e<3) then e else 3)=(if e≠0∧((0:Nat)=0∨e<0) then e else 0):=by
  rw[if_pos (show e≠0∧((0:Nat)=0∨e<0) from ⟨h0,.inl rfl⟩)]
  split<;>omega
 show (if b≠0∧((if e≠0∧((3:Nat)=0∨e<3) then e else 3)=0∨b<(if e≠0∧((3:Nat)=0∨e<3) then e else 3)) then b else (if e≠0∧((3:Nat)=0∨e<3) then e else 3))=(if b≠0∧((if e≠0∧((0:Nat)=0∨e<0) then e else 0)=0∨b<(if e≠0∧((0:Nat)=0∨e<0) then e else 0)) then b else (if e≠0∧((0:Nat)=0∨e<0) then e else 0))
 rw[h1]
theorem QvB (p:Prt) (b:Nat):QbH [if p.kd=3 then 3 else 0,prtE p,b]=QbH [frmE p,b]:=by
 unfold frmE
 by_cases h3:p.kd=3
 ·rw[if_pos h3]
  by_cases h0:prtE p=0
  ·rw[if_pos ⟨h0,h3⟩,h0,QoZ]
  ·rw[if_neg (fun h=>h0 h.1),QpO _ _ h0 (Qz7 p)]
 ·rw[if_neg h3,if_neg (fun h=>h3 h.2),Qr3]
theorem QrB (x:List UInt8) (c:Cmd) {b1 b2:List UInt8} (hs:List Hp) (h:b1.length=b2.length):Qcm x c b1 hs=Qcm x c b2 hs:=by rw[Qcm,Qcm,h]
noncomputable def sndP (x:List UInt8) (p:Prt) (hs:List Hp):List UInt8:=if Qgy x p hs=0 then Qhb x p hs else QGn 768 0
theorem QjV (x:List UInt8) (p:Prt) (hs:List Hp):Qgy x p hs=QbH [if p.kd=3 then 3 else 0,prtE p,Qcm x (Qca p) (Qg0 p) hs]∧(Qgy x p hs=0→sndP x p hs=bldP x (Qca p) (Qg0 p) hs):=by
 have hb:=QrB x (Qca p) hs ((Qja p).trans (QfL p).symm)
 have h1:Qgy x p hs=QbH [frmE p,Qcm x (Qca p) (Qg0 p) hs]:=by rw[Qgy,hb]
 refine⟨by rw[QvB,h1],fun h=>?_⟩
 have h2:=h
 rw[h1,QbG]at h2
 have f0:frmE p=0:=h2 _ (by simp)
 have b0:Qcm x (Qca p) (Qg0 p) hs=0:=h2 _ (by simp)
 have p0:prtE p=0:=by
  unfold frmE at f0
  split at f0
  ·cases f0
  ·exact f0
 rw[sndP,if_pos h,bldP,if_pos b0,Qhb,Qdw,if_pos f0,Qg0,if_pos p0]
theorem Qua (p:Prt):∃(KD:UInt8) (KE:Nat),(KD=2∨KD=3)∧Qca p=lcK KD∧(if p.kd=3 then 3 else 0)=KE∧(((p.kd==2)=true∧(p.kd==3)=false∧KD=3∧KE=0)∨((p.kd==2)=false∧(p.kd==3)=true∧KD=2∧KE=3)∨((p.kd==2)=false∧(p.kd==3)=false∧KD=2∧KE=0)):=by
 by_cases h2:p.kd=2
 ·exact⟨3,0,.inr rfl,by rw[Qca,if_pos h2];rfl,by rw[h2];rfl,.inl ⟨by rw[h2];rfl,by rw[h2];rfl,rfl,rfl⟩⟩
 ·by_cases h3:p.kd=3
  ·exact⟨2,3,.inl rfl,by rw[Qca,if_neg h2];rfl,if_pos h3,.inr (.inl ⟨by rw[h3];rfl,by rw[h3];rfl,rfl,rfl⟩)⟩
  ·exact⟨2,0,.inl rfl,by rw[Qca,if_neg h2];rfl,if_neg h3,.inr (.inr ⟨beq_eq_false_iff_ne.2 h2,beq_eq_false_iff_ne.2 h3,rfl,rfl⟩)⟩
theorem QjT (x:List UInt8) (c:Cmd) {body:List UInt8} (hs:List Hp) (hb:body.length=480):(bldP x c body hs).length=768:=by
 unfold bldP
 split
 ·rename_i h
  rw[Qcm,QbG]at h
  obtain⟨_,_,hn1,hn5,_,_⟩:=Qd3 (h (QeI c hs) (by simp))
  rw[Qk8,pktA,QGy,Qds (QcE x (pubH hs)) hb,hdrA,QGy,QGy,Qdu (QcE x (pubH hs) _),QbL hn1 hn5 (fun k=>QcW _),tagA,QbJ]
 ·exact QGA
theorem QsA (k:UInt8):Tryz.prog.built 64 [(0,W8 k)]=some (CC (lcK k)).toArray:=by
 rw[QaQ (pl:=[(0,1),(1,1),(2,1),(3,1),(4,16)]) Tryz.underlying64 QAQ (by kernel_rfl),QaR (vs:=[W8 k]) (off:=0) rfl rfl (by rw[Qao];simp),Qb0]
 rfl
set_option maxRecDepth 100000 in
set_option maxHeartbeats 16000000 in
theorem Qul (A D H:Option Addr) (nx cx nd cd n ch:Nat) (x:List UInt8) (p:Prt) (hs:List Hp) (w:World) (hx:RdB w A nx x) (hxc:nx≤cx) (hd:RdB w D nd p.da) (hnd:nd≤1048576) (hh:RdH w H n hs) (hn:n≤1048576):
 Calls Tryz.prog 10 #[.slice A nx cx,.agg (PaC p (.slice D nd cd)).toArray,.slice H n ch] w fun e w'=>e= .returned (.tuple #[.agg ((sndP x p hs).map W8).toArray,.int .i64 (Qgy x p hs:Nat)])∧Later w w':=by
 have l0:(QGn 768 (0:UInt8)).length=768:=QGA
 have B0:=(Qbk w 25 (PaC p (.slice D nd cd))).fresh (Qaa _ (.cells Tryz.zeroCells37 37)) (QGx _) ((Blk.new (w.alloc (.cells (PaC p (.slice D nd cd)).toArray 25)) _ Tryz.zeroCells37.toList).cast zcP)
 have hsz:(w.alloc (.cells (PaC p (.slice D nd cd)).toArray 25)).heap.size=w.heap.size+1:=by simp only[World.alloc,Array.size_push]
 have hs2:((w.alloc (.cells (PaC p (.slice D nd cd)).toArray 25)).alloc (.cells Tryz.zeroCells37 37)).heap.size=w.heap.size+1+1:=by simp only[World.alloc,Array.size_push]
 have hCb:=Blk.new ((w.alloc (.cells (PaC p (.slice D nd cd)).toArray 25)).alloc (.cells Tryz.zeroCells37 37)) 64 cz0
 rw[hsz]at B0
 rw[hs2]at hCb
 clear hsz
 have HZ:=hid zcP
 have hz0:=hid QhE
 have hbc:=hid QsA
 have hFr:=hid (fun w h=>Qs0 p D nd cd w h hnd)
 obtain⟨KD,KE,hKD2,hsc,hKE,hcs⟩:=Qua p
 obtain⟨hE,hRB⟩:=QjV x p hs
 rw[hsc,hKE]at hE
 rw[hsc]at hRB
 have hR:Hid (Qgy x p hs≠0→sndP x p hs=QGn 768 0):=hid (fun h=>by rw[sndP,if_neg h])
 have hFq:Hid (prtE p=0→frmR p=Qg0 p):=hid (fun h=>by rw[frmR,if_pos h,Qg0,if_pos h])
 have hFz:Hid (prtE p≠0→Qg0 p=QGn 480 0):=hid (fun h=>by rw[Qg0,if_neg h])
 have hql:=QfL p
 have hBu:=hid (fun Bs cb w h1 h2 hc h3=>QrL KD hKD2 A Bs H nx cx 480 cb n ch x (Qg0 p) hs w h1 hxc h2 hc (by omega) h3 hn)
 have hBl:(bldP x (lcK KD) (Qg0 p) hs).length=768:=by
  exact QjT x (lcK KD) hs hql
 have hz8:Hid (QGn 480 (Value.int .u8 0)=(QGn 480 (0:UInt8)).map W8):=hid (by rw[QG8];rfl)
 clear hKE hsc hKD2
 replace hE:=hid hE
 replace hRB:=hid hRB
 generalize frmR p=FR at *
 generalize Qg0 p=SQ at *
 generalize sndP x p hs=R at *
 generalize Qgy x p hs=E at *
 generalize prtE p=PE at *
 generalize Qcm x (lcK KD) SQ hs=BE at *
 generalize bldP x (lcK KD) SQ hs=BR at *
 generalize QGn 768 (0:UInt8)=Z at *
 have l1:(Z.map W8).length=768:=by rw[QGr,l0]
 go_enter Tryz.func10,Tryz.ntmps10
 rcases hcs with ⟨h2,h3,rfl,rfl⟩|⟨h2,h3,rfl,rfl⟩|⟨h2,h3,rfl,rfl⟩
 ·go_wp2_with (first
   | (refine go_b rfl ?_;refine Qah ?hw 64 _ rfl (CC (lcK 2)) (by simp only[QGC,QGR,QGH];exact hbc.out 2) ?_;(case hw=>rfl))
   | (refine Qa1 rfl ?_;refine Qct rfl rfl _ _ rfl hCb rfl rfl rfl ?_;intro w3 hb3 ho3
      have B3:=B0.push (Qaa _ _) (QIs hs2) ho3 hb3
      have kc3:=(Qbx (B3.nth 2 rfl)).1
      have hl3:=(B3.nth 2 rfl).lt)
   | (refine Qa1 rfl ?_;refine Qad rfl rfl _ _ _ rfl _ 0 _ _ hb3 rfl (by rw[Qao];omega) rfl (by kernel_rfl) ?_;intro v4 w4 hv4 hb4 ho4;simp[go_sem]at hv4;subst hv4
      replace hb4:Blk w4 _ 64 (CC (lcK 3)):=hb4
      have B4:=B3.write 0 rfl ho4 hb4
      have kc4:=(Qbx (B4.nth 2 rfl)).1
      have hl4:=(B4.nth 2 rfl).lt)
   | (refine go_l rfl ?_;refine QdP rfl _ rfl (B4.nth 2 rfl) rfl ?_)
   | fail)
  (refine (hFr.out _ (hd.later B4.lat)).mono ?_);rintro e w5 ⟨A1,c1,rfl,o1,j1⟩
  have B5:=B4.later j1
  have hBc:=hid (fun v=>hBu.out A1 c1 v)
  have hls:=hid (fun g (w:World) h=>Qe5 (some ⟨g,0,none⟩) 3 3 [0,PE,BE] w h (by omega))
  rw[←hE.out]at hls
  by_cases hp0:PE=0
  ·subst hp0
   have hFv:=hFq.out rfl
   subst hFv
   rw[hql]at o1 ⊢
   go_wp2_with (first
    | (refine go_l rfl ?_;refine Qc3 rfl _ rfl (B5.nth 0 rfl) rfl ?_)
    | fail)
   (refine (hBc.out _ (hx.later B5.lat) (OwnB.rd o1) (OwnB.cap o1) (hh.later B5.lat)).mono ?_);rintro e w6 ⟨rfl,j6⟩
   have B6:=B5.later j6
   clear hBu hBc hFr hx hh hd B3 B5
   go_wp2_with (first
    | (refine Qa1 rfl ?_;refine Qbd rfl rfl _ _ rfl ((Blk.new w6 _ Tryz.zeroCells37.toList).cast HZ.out) rfl rfl hBl l1 ?_;intro w7 hb7 ho7
       have B7:=B6.push (Qaa _ _) (QGx _) ho7 hb7)
    | fail)
   refine (hls.out _ _ ((Blk.new w7 27 [.int .i64 0,.int .i64 0,.int .i64 (BE:Int)]).rd rfl)).mono ?_;rintro e w8 ⟨rfl,j8⟩
   have B8:=(B7.later (Qaa w7 (.cells #[.int .i64 0,.int .i64 0,.int .i64 (BE:Int)] 27))).later j8
   by_cases hEz:E=0
   ·have hX:=hid (hRB.out hEz)
    subst hEz
    go_wp2_with (first
     | (refine go_l rfl ?_;refine QhV rfl _ rfl (B8.nth 0 rfl) hBl rfl ?_)
     | (refine Qa1 rfl ?_;refine Qbd rfl rfl _ _ rfl (B8.nth 2 rfl) rfl rfl hBl l1 ?_;intro w9 hb9 ho9)
     | fail)
    exact bodyPost_ret (Qac rfl _ _ _ _ _ _ hb9 rfl Tryz.underlying37 rfl (by rw[QGr,hBl];exact Qcb)) rfl ⟨by rw[hX.out];rfl,B8.lat.only ho9 (by omega)⟩
   ·have hX:=hid (hR.out hEz)
    have hne9:((E:Int) != 0)=true:=bne_iff_ne.2 (by omega)
    go_wp2_with (first
     | (refine go_b rfl ?_;refine Qah ?hw 37 _ rfl (Z.map W8) (by simp only[QGC,QGH];exact hz0.out) ?_;(case hw=>rfl))
     | (refine Qa1 rfl ?_;refine Qbd rfl rfl _ _ rfl (B8.nth 2 rfl) rfl rfl l0 l1 ?_;intro w9 hb9 ho9)
     | fail)
    exact bodyPost_ret (Qac rfl _ _ _ _ _ _ hb9 rfl Tryz.underlying37 rfl (by rw[l1];exact Qcb)) rfl ⟨by rw[hX.out];rfl,B8.lat.only ho9 (by omega)⟩
  ·have hFv:=hid (hFz.out hp0)
   have f1:((PE:Int) != 0)=true:=bne_iff_ne.2 (by omega)
   have hEn:Hid (E≠0):=hid (fun h=>by
    have:=hE.out
    rw[h]at this
    exact hp0 (((QbG _).1 this.symm) PE (by simp)))
   go_wp2_with (first
    | (refine QaA rfl _ _ _ rfl 5 _ 1 Tryz.underlying22 Qc4 rfl _ _ _ _ 480 rfl rfl rfl rfl (by omega) (by omega) ?_;intro w6 hb6 hl6
       have B6:=B5.fresh hl6 (QGx _) (hb6.cast hz8.out))
    | (refine go_l rfl ?_;refine Qc3 rfl _ rfl (B6.nth 1 rfl) rfl ?_)
    | fail)
   (refine (hBu.out _ 480 _ (hx.later B6.lat) (by rw[hFv.out];exact (B6.nth 0 rfl).rd (by rw[QGr,QGA])) (QGx _) (hh.later B6.lat)).mono ?_);rintro e w7 ⟨rfl,j7⟩
   have B7:=B6.later j7
   clear hBu hBc hFr hx hh hd B3 B5 B6
   go_wp2_with (first
    | (refine Qa1 rfl ?_;refine Qbd rfl rfl _ _ rfl ((Blk.new w7 _ Tryz.zeroCells37.toList).cast HZ.out) rfl rfl hBl l1 ?_;intro w8 hb8 ho8
       have B8:=B7.push (Qaa _ _) (QGx _) ho8 hb8)
    | fail)
   refine (hls.out _ _ ((Blk.new w8 27 [.int .i64 0,.int .i64 (PE:Int),.int .i64 (BE:Int)]).rd rfl)).mono ?_;rintro e w9 ⟨rfl,j9⟩
   have B9:=(B8.later (Qaa w8 (.cells #[.int .i64 0,.int .i64 (PE:Int),.int .i64 (BE:Int)] 27))).later j9
   have hX:=hid (hR.out hEn.out)
   have hne9:((E:Int) != 0)=true:=bne_iff_ne.2 (by have:=hEn.out;omega)
   go_wp2_with (first
    | (refine go_b rfl ?_;refine Qah ?hw 37 _ rfl (Z.map W8) (by simp only[QGC,QGH];exact hz0.out) ?_;(case hw=>rfl))
    | (refine Qa1 rfl ?_;refine Qbd rfl rfl _ _ rfl (B9.nth 3 rfl) rfl rfl l0 l1 ?_;intro wz hbz hoz)
    | fail)
   exact bodyPost_ret (Qac rfl _ _ _ _ _ _ hbz rfl Tryz.underlying37 rfl (by rw[l1];exact Qcb)) rfl ⟨by rw[hX.out];rfl,B9.lat.only hoz (by omega)⟩
 ·go_wp2_with (first
   | (refine go_b rfl ?_;refine Qah ?hw 64 _ rfl (CC (lcK 2)) (by simp only[QGC,QGR,QGH];exact hbc.out 2) ?_;(case hw=>rfl))
   | (refine Qa1 rfl ?_;refine Qct rfl rfl _ _ rfl hCb rfl rfl rfl ?_;intro w3 hb3 ho3
      have B3:=B0.push (Qaa _ _) (QIs hs2) ho3 hb3
      have kc3:=(Qbx (B3.nth 2 rfl)).1
      have hl3:=(B3.nth 2 rfl).lt)
   | (refine go_l rfl ?_;refine QdP rfl _ rfl (B3.nth 2 rfl) rfl ?_)
   | fail)
  have B4:=B3
  (refine (hFr.out _ (hd.later B4.lat)).mono ?_);rintro e w5 ⟨A1,c1,rfl,o1,j1⟩
  have B5:=B4.later j1
  have hBc:=hid (fun v=>hBu.out A1 c1 v)
  have hls:=hid (fun g (w:World) h=>Qe5 (some ⟨g,0,none⟩) 3 3 [3,PE,BE] w h (by omega))
  rw[←hE.out]at hls
  by_cases hp0:PE=0
  ·subst hp0
   have hFv:=hFq.out rfl
   subst hFv
   rw[hql]at o1 ⊢
   go_wp2_with (first
    | (refine go_l rfl ?_;refine Qc3 rfl _ rfl (B5.nth 0 rfl) rfl ?_)
    | fail)
   (refine (hBc.out _ (hx.later B5.lat) (OwnB.rd o1) (OwnB.cap o1) (hh.later B5.lat)).mono ?_);rintro e w6 ⟨rfl,j6⟩
   have B6:=B5.later j6
   clear hBu hBc hFr hx hh hd B3 B5
   go_wp2_with (first
    | (refine Qa1 rfl ?_;refine Qbd rfl rfl _ _ rfl ((Blk.new w6 _ Tryz.zeroCells37.toList).cast HZ.out) rfl rfl hBl l1 ?_;intro w7 hb7 ho7
       have B7:=B6.push (Qaa _ _) (QGx _) ho7 hb7)
    | fail)
   refine (hls.out _ _ ((Blk.new w7 27 [.int .i64 3,.int .i64 0,.int .i64 (BE:Int)]).rd rfl)).mono ?_;rintro e w8 ⟨rfl,j8⟩
   have B8:=(B7.later (Qaa w7 (.cells #[.int .i64 3,.int .i64 0,.int .i64 (BE:Int)] 27))).later j8
   by_cases hEz:E=0
   ·have hX:=hid (hRB.out hEz)
    subst hEz
    go_wp2_with (first
     | (refine go_l rfl ?_;refine QhV rfl _ rfl (B8.nth 0 rfl) hBl rfl ?_)
     | (refine Qa1 rfl ?_;refine Qbd rfl rfl _ _ rfl (B8.nth 2 rfl) rfl rfl hBl l1 ?_;intro w9 hb9 ho9)
     | fail)
    exact bodyPost_ret (Qac rfl _ _ _ _ _ _ hb9 rfl Tryz.underlying37 rfl (by rw[QGr,hBl];exact Qcb)) rfl ⟨by rw[hX.out];rfl,B8.lat.only ho9 (by omega)⟩
   ·have hX:=hid (hR.out hEz)
    have hne9:((E:Int) != 0)=true:=bne_iff_ne.2 (by omega)
    go_wp2_with (first
     | (refine go_b rfl ?_;refine Qah ?hw 37 _ rfl (Z.map W8) (by simp only[QGC,QGH];exact hz0.out) ?_;(case hw=>rfl))
     | (refine Qa1 rfl ?_;refine Qbd rfl rfl _ _ rfl (B8.nth 2 rfl) rfl rfl l0 l1 ?_;intro w9 hb9 ho9)
     | fail)
    exact bodyPost_ret (Qac rfl _ _ _ _ _ _ hb9 rfl Tryz.underlying37 rfl (by rw[l1];exact Qcb)) rfl ⟨by rw[hX.out];rfl,B8.lat.only ho9 (by omega)⟩
  ·have hFv:=hid (hFz.out hp0)
   have f1:((PE:Int) != 0)=true:=bne_iff_ne.2 (by omega)
   have hEn:Hid (E≠0):=hid (fun h=>by
    have:=hE.out
    rw[h]at this
    exact hp0 (((QbG _).1 this.symm) PE (by simp)))
   go_wp2_with (first
    | (refine QaA rfl _ _ _ rfl 5 _ 1 Tryz.underlying22 Qc4 rfl _ _ _ _ 480 rfl rfl rfl rfl (by omega) (by omega) ?_;intro w6 hb6 hl6
       have B6:=B5.fresh hl6 (QGx _) (hb6.cast hz8.out))
    | (refine go_l rfl ?_;refine Qc3 rfl _ rfl (B6.nth 1 rfl) rfl ?_)
    | fail)
   (refine (hBu.out _ 480 _ (hx.later B6.lat) (by rw[hFv.out];exact (B6.nth 0 rfl).rd (by rw[QGr,QGA])) (QGx _) (hh.later B6.lat)).mono ?_);rintro e w7 ⟨rfl,j7⟩
   have B7:=B6.later j7
   clear hBu hBc hFr hx hh hd B3 B5 B6
   go_wp2_with (first
    | (refine Qa1 rfl ?_;refine Qbd rfl rfl _ _ rfl ((Blk.new w7 _ Tryz.zeroCells37.toList).cast HZ.out) rfl rfl hBl l1 ?_;intro w8 hb8 ho8
       have B8:=B7.push (Qaa _ _) (QGx _) ho8 hb8)
    | fail)
   refine (hls.out _ _ ((Blk.new w8 27 [.int .i64 3,.int .i64 (PE:Int),.int .i64 (BE:Int)]).rd rfl)).mono ?_;rintro e w9 ⟨rfl,j9⟩
   have B9:=(B8.later (Qaa w8 (.cells #[.int .i64 3,.int .i64 (PE:Int),.int .i64 (BE:Int)] 27))).later j9
   have hX:=hid (hR.out hEn.out)
   have hne9:((E:Int) != 0)=true:=bne_iff_ne.2 (by have:=hEn.out;omega)
   go_wp2_with (first
    | (refine go_b rfl ?_;refine Qah ?hw 37 _ rfl (Z.map W8) (by simp only[QGC,QGH];exact hz0.out) ?_;(case hw=>rfl))
    | (refine Qa1 rfl ?_;refine Qbd rfl rfl _ _ rfl (B9.nth 3 rfl) rfl rfl l0 l1 ?_;intro wz hbz hoz)
    | fail)
   exact bodyPost_ret (Qac rfl _ _ _ _ _ _ hbz rfl Tryz.underlying37 rfl (by rw[l1];exact Qcb)) rfl ⟨by rw[hX.out];rfl,B9.lat.only hoz (by omega)⟩
 ·go_wp2_with (first
   | (refine go_b rfl ?_;refine Qah ?hw 64 _ rfl (CC (lcK 2)) (by simp only[QGC,QGR,QGH];exact hbc.out 2) ?_;(case hw=>rfl))
   | (refine Qa1 rfl ?_;refine Qct rfl rfl _ _ rfl hCb rfl rfl rfl ?_;intro w3 hb3 ho3
      have B3:=B0.push (Qaa _ _) (QIs hs2) ho3 hb3
      have kc3:=(Qbx (B3.nth 2 rfl)).1
      have hl3:=(B3.nth 2 rfl).lt)
   | (refine go_l rfl ?_;refine QdP rfl _ rfl (B3.nth 2 rfl) rfl ?_)
   | fail)
  have B4:=B3
  (refine (hFr.out _ (hd.later B4.lat)).mono ?_);rintro e w5 ⟨A1,c1,rfl,o1,j1⟩
  have B5:=B4.later j1
  have hBc:=hid (fun v=>hBu.out A1 c1 v)
  have hls:=hid (fun g (w:World) h=>Qe5 (some ⟨g,0,none⟩) 3 3 [0,PE,BE] w h (by omega))
  rw[←hE.out]at hls
  by_cases hp0:PE=0
  ·subst hp0
   have hFv:=hFq.out rfl
   subst hFv
   rw[hql]at o1 ⊢
   go_wp2_with (first
    | (refine go_l rfl ?_;refine Qc3 rfl _ rfl (B5.nth 0 rfl) rfl ?_)
    | fail)
   (refine (hBc.out _ (hx.later B5.lat) (OwnB.rd o1) (OwnB.cap o1) (hh.later B5.lat)).mono ?_);rintro e w6 ⟨rfl,j6⟩
   have B6:=B5.later j6
   clear hBu hBc hFr hx hh hd B3 B5
   go_wp2_with (first
    | (refine Qa1 rfl ?_;refine Qbd rfl rfl _ _ rfl ((Blk.new w6 _ Tryz.zeroCells37.toList).cast HZ.out) rfl rfl hBl l1 ?_;intro w7 hb7 ho7
       have B7:=B6.push (Qaa _ _) (QGx _) ho7 hb7)
    | fail)
   refine (hls.out _ _ ((Blk.new w7 27 [.int .i64 0,.int .i64 0,.int .i64 (BE:Int)]).rd rfl)).mono ?_;rintro e w8 ⟨rfl,j8⟩
   have B8:=(B7.later (Qaa w7 (.cells #[.int .i64 0,.int .i64 0,.int .i64 (BE:Int)] 27))).later j8
   by_cases hEz:E=0
   ·have hX:=hid (hRB.out hEz)
    subst hEz
    go_wp2_with (first
     | (refine go_l rfl ?_;refine QhV rfl _ rfl (B8.nth 0 rfl) hBl rfl ?_)
     | (refine Qa1 rfl ?_;refine Qbd rfl rfl _ _ rfl (B8.nth 2 rfl) rfl rfl hBl l1 ?_;intro w9 hb9 ho9)
     | fail)
    exact bodyPost_ret (Qac rfl _ _ _ _ _ _ hb9 rfl Tryz.underlying37 rfl (by rw[QGr,hBl];exact Qcb)) rfl ⟨by rw[hX.out];rfl,B8.lat.only ho9 (by omega)⟩
   ·have hX:=hid (hR.out hEz)
    have hne9:((E:Int) != 0)=true:=bne_iff_ne.2 (by omega)
    go_wp2_with (first
     | (refine go_b rfl ?_;refine Qah ?hw 37 _ rfl (Z.map W8) (by simp only[QGC,QGH];exact hz0.out) ?_;(case hw=>rfl))
     | (refine Qa1 rfl ?_;refine Qbd rfl rfl _ _ rfl (B8.nth 2 rfl) rfl rfl l0 l1 ?_;intro w9 hb9 ho9)
     | fail)
    exact bodyPost_ret (Qac rfl _ _ _ _ _ _ hb9 rfl Tryz.underlying37 rfl (by rw[l1];exact Qcb)) rfl ⟨by rw[hX.out];rfl,B8.lat.only ho9 (by omega)⟩
  ·have hFv:=hid (hFz.out hp0)
   have f1:((PE:Int) != 0)=true:=bne_iff_ne.2 (by omega)
   have hEn:Hid (E≠0):=hid (fun h=>by
    have:=hE.out
    rw[h]at this
    exact hp0 (((QbG _).1 this.symm) PE (by simp)))
   go_wp2_with (first
    | (refine QaA rfl _ _ _ rfl 5 _ 1 Tryz.underlying22 Qc4 rfl _ _ _ _ 480 rfl rfl rfl rfl (by omega) (by omega) ?_;intro w6 hb6 hl6
       have B6:=B5.fresh hl6 (QGx _) (hb6.cast hz8.out))
    | (refine go_l rfl ?_;refine Qc3 rfl _ rfl (B6.nth 1 rfl) rfl ?_)
    | fail)
   (refine (hBu.out _ 480 _ (hx.later B6.lat) (by rw[hFv.out];exact (B6.nth 0 rfl).rd (by rw[QGr,QGA])) (QGx _) (hh.later B6.lat)).mono ?_);rintro e w7 ⟨rfl,j7⟩
   have B7:=B6.later j7
   clear hBu hBc hFr hx hh hd B3 B5 B6
   go_wp2_with (first
    | (refine Qa1 rfl ?_;refine Qbd rfl rfl _ _ rfl ((Blk.new w7 _ Tryz.zeroCells37.toList).cast HZ.out) rfl rfl hBl l1 ?_;intro w8 hb8 ho8
       have B8:=B7.push (Qaa _ _) (QGx _) ho8 hb8)
    | fail)
   refine (hls.out _ _ ((Blk.new w8 27 [.int .i64 0,.int .i64 (PE:Int),.int .i64 (BE:Int)]).rd rfl)).mono ?_;rintro e w9 ⟨rfl,j9⟩
   have B9:=(B8.later (Qaa w8 (.cells #[.int .i64 0,.int .i64 (PE:Int),.int .i64 (BE:Int)] 27))).later j9
   have hX:=hid (hR.out hEn.out)
   have hne9:((E:Int) != 0)=true:=bne_iff_ne.2 (by have:=hEn.out;omega)
   go_wp2_with (first
    | (refine go_b rfl ?_;refine Qah ?hw 37 _ rfl (Z.map W8) (by simp only[QGC,QGH];exact hz0.out) ?_;(case hw=>rfl))
    | (refine Qa1 rfl ?_;refine Qbd rfl rfl _ _ rfl (B9.nth 3 rfl) rfl rfl l0 l1 ?_;intro wz hbz hoz)
    | fail)
   exact bodyPost_ret (Qac rfl _ _ _ _ _ _ hbz rfl Tryz.underlying37 rfl (by rw[l1];exact Qcb)) rfl ⟨by rw[hX.out];rfl,B9.lat.only hoz (by omega)⟩
end Go.Proofs.YtdhgpkdjdmlphaaGreat
