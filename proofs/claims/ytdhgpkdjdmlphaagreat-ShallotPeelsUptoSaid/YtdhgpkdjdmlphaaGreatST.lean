/-
  Lemmas for the last text of this claim (part 20 of 20).
-/
import Derived.ArgAppend
import Derived.BigQuiet
import Derived.BigRegion
import Derived.ChangeOld
import Derived.Deep.RegionWith
import Derived.DeepKeys4
import Derived.JoinedCond
import Derived.LaidMore
import Derived.Laws.BytesArg
import Derived.Laws.CopyOwn
import Derived.Laws.Externs
import Derived.Laws.IdiomStrings
import Derived.Laws.Tables
import Derived.Lib.AppendStr
import Derived.Lib.AppendZerosOnto
import Derived.Lib.Mul64
import Derived.Lib.SlBytesConst
import Derived.LoopN
import Derived.Maps.OwnSet
import Derived.OpenShut
import Derived.OrdersHeld
import Derived.ProofKit
import Derived.Shelf.Spec.BitsCarry
import Derived.ShutString
import Derived.Test.YtdhgpkdjdmlphaaGreatProg
import Derived.Test.YtdhgpkdjdmlphaaGreatRows
import Derived.WalkKit
import Derived.WalkLawsBesides
import Derived.WalkSpells
import Derived.Test.YtdhgpkdjdmlphaaGreatSK
import Derived.Test.YtdhgpkdjdmlphaaGreatSP
import Derived.Test.YtdhgpkdjdmlphaaGreatSQ
import Derived.Test.YtdhgpkdjdmlphaaGreatSR
import Derived.Test.YtdhgpkdjdmlphaaGreatSS
open List renaming replicate → QCC, getElem?_cons_succ → QCD, getElem?_cons_zero → QCE, length_map → QCG, getElem?_eq_getElem → QCH, nil_append → QCI, cons_append → QCJ, getD_eq_getElem?_getD → QCK, setIfInBounds_toArray → QCL, length_append → QCM, length_replicate → QCO, set_cons_zero → QCP, set_cons_succ → QCQ, map_toArray → QCS, take_of_length_le → QCT, mem_cons → QCV, not_mem_nil → QCW, map_nil → QC2, map_cons → QDa, append_nil → QDg, map_replicate → QDi, all_eq_true → QDm, getElem_mem → QDS, flatMap_cons → QEh, getElem_of_mem → QEO
open Nat renaming le_refl → QCN, zero_add → QC6
open Option renaming toList_some → QCF, bind_some → QDU
set_option linter.all false
namespace Go.Proofs.YtdhgpkdjdmlphaaGreat
open Go.RowKit
open Go.BigFrame
theorem QgY:(Tryz.prog.info? 76).map (·.size)=some 68:=by kernel_rfl
theorem Qw0:(Tryz.prog.info? 147).map (fun i=>(i.zero,i.size))=some (some (.agg (HC hp0).toArray),68):=by kernel_rfl
set_option maxRecDepth 100000 in
set_option maxHeartbeats 4000000 in
theorem Qvz (A:Option Addr) (n c:Nat) (hs:List Hp) (w:World) (hh:RdH w A n hs) (hn:n≤1048576):
 Calls Tryz.prog 12 #[.slice A n c] w fun e w'=>∃A' c',e= .returned (.slice A' n c')∧RdH w' A' n hs∧Later w w':=by
 have hl:=hh.1
 go_enter Tryz.func12,Tryz.ntmps12
 go_wp2_with fail
 go_loopw [3,8] (fun v i wr=>∃(k:Nat) (A':Option Addr) (c':Nat),k≤n∧i= .int .i64 k∧v= .slice A' k c'∧wr.ownsRow w.heap.size 147 68 (.slice A' k c') k ((hs.take k).flatMap HC)∧Later w wr) (fun _ i _=>n-(intOf i).toNat)
 case atStart=>exact⟨0,none,0,by omega,rfl,rfl,World.ownsRow_nil w _ _ 68,Later.refl w⟩
 case round=>
  obtain⟨k,A1,c1,hk,rfl,rfl,hown,L⟩:=hrel
  by_cases hlt:k<n
  ·obtain⟨b,o,rfl,hb,hc⟩:=(hh.later L).at_ hlt
   have htk:(hs.take (k+1)).flatMap HC=(hs.take k).flatMap HC++[hs.getD k hp0].flatMap HC:=by
    rw[List.take_add_one,List.flatMap_append,QCK,QCH (by omega)]
    rfl
   generalize hs.getD k hp0=z at *
   replace htk:=hid htk
   replace hc:=hid hc
   have hzz:Tryz.zeroCells76.toList.length=68:=by kernel_rfl
   replace hzz:=hid hzz
   have hbn:=hid (QiA z.nod)
   have hbh:=hid (Qre z.nod z.delay z.flags)
   go_wp2_with (first
    | (refine go_l rfl ?_;refine Qay rfl 76 _ rfl b (o+k*68) (HC z) hc.out rfl _ Tryz.underlying76 rfl (by rw[Qa6];exact QgY) ?_)
    | (refine Qbg rfl ?_;refine QaJ rfl rfl 76 _ _ rfl wr.heap.size _ _ (HC z) (Blk.new wr _ Tryz.zeroCells76.toList) rfl rfl 68 QgY (Qa6 _) hzz.out (QoT _) ?_;intro w3 hb3 ho3
       have l3:Later wr w3:=(Qaa wr _).only ho3 (QCN _)
       have c66:=hb3.cellD 66 (Qgj z)
       have c67:=hb3.cellD 67 (QgG z)
       have hb3l:=hb3.lt)
    | (refine go_l rfl ?_;refine Quy rfl _ rfl (y:=z.nod) (off:=0) (fun i v hv=>by rw[QC6];exact hb3.cellD i (Qin z hv)) rfl ?_)
    | (refine go_b rfl ?_;refine Qah ?hw 86 _ rfl (NC z.nod) (by simp only[QCS,QDa,QC2];exact hbn.out) ?_;(case hw=>rfl))
    | (refine go_b rfl ?_;refine Qah ?hw 147 _ rfl (HC z) (by simp only[QCS,QDa,QC2];exact hbh.out) ?_;(case hw=>rfl))
    | (refine Qph rfl 41 _ rfl 147 68 _ (HC z) Tryz.underlying41 Qw0 (by omega) (by omega) (Qa6 z) rfl ?_
       have hz4:Blk (w3.alloc (.cells (HC z).toArray 147)) w3.heap.size 147 ([z].flatMap HC):=by simp only[QEh,List.flatMap_nil,QDg];exact Blk.new w3 _ _)
    | (refine go_a rfl ?_;refine Qii (F:=HC) (d:=hp0) Qa6 QoT (by omega) rfl _ _ _ rfl 147 _ 104 Tryz.underlying41 QB7 rfl w _ k _ (QfA hown (l3.trans (Qaa _ _))) ((L.trans l3).trans (Qaa _ _)) _ 1 1 [z] (Qye Qa6 hz4 rfl) rfl rfl (by omega) (by omega) ?_;intro A4 c4 w4 hown4 hl4 _)
    | fail)
   rw[←htk.out]at hown4
   exact⟨⟨k+1,A4,c4,by omega,by go_num,rfl,hown4,hl4⟩,by simp[intOf];omega⟩
  ·obtain rfl:k=n:=by omega
   rw[QCT (by omega)]at hown
   go_wp2_with fail
   go_ret
   exact⟨A1,c1,rfl,QnV (d:=hp0) Qa6 hown hl,L⟩
theorem QwU (p:Prt):prtE p≤3:=by
 unfold prtE
 split
 ·omega
 ·split
  ·omega
  ·split
   ·omega
   ·split
    ·omega
    ·split<;>omega
def QgC (p:Prt):List UInt8:=if prtE p=0 then Qbr p else QCC 480 0
theorem Qfj (p:Prt):(QgC p).length=480:=by
 unfold QgC
 split
 ·rename_i h
  exact QdW p (Qff h).2.1
 ·exact QCO
theorem QiB (p:Prt):(QdP p).length=480:=by
 unfold QdP
 split
 ·rename_i h
  have h0:prtE p=0:=by
   unfold frmE at h
   split at h
   ·cases h
   ·exact h
  exact QdW p (Qff h0).2.1
 ·exact QCO
theorem Qpc (e b:Nat):QbZ [0,e,b]=QbZ [e,b]:=rfl
theorem QnQ (b:Nat):QbZ [3,0,b]=QbZ [3,b]:=rfl
theorem QnR (e b:Nat) (h0:e≠0) (h:e≤3):QbZ [3,e,b]=QbZ [e,b]:=by
 have h1:(if e≠0∧((3:Nat)=0∨e<3) then e else 3)=(if e≠0∧((0:Nat)=0∨e<0) then e else 0):=by
  rw[if_pos (show e≠0∧((0:Nat)=0∨e<0) from ⟨h0,.inl rfl⟩)]
  split<;>omega
 show (if b≠0∧((if e≠0∧((3:Nat)=0∨e<3) then e else 3)=0∨b<(if e≠0∧((3:Nat)=0∨e<3) then e else 3)) then b else (if e≠0∧((3:Nat)=0∨e<3) then e else 3))=(if b≠0∧((if e≠0∧((0:Nat)=0∨e<0) then e else 0)=0∨b<(if e≠0∧((0:Nat)=0∨e<0) then e else 0)) then b else (if e≠0∧((0:Nat)=0∨e<0) then e else 0))
 rw[h1]
theorem QrS (p:Prt) (b:Nat):QbZ [if p.kd=3 then 3 else 0,prtE p,b]=QbZ [frmE p,b]:=by
 unfold frmE
 by_cases h3:p.kd=3
 ·rw[if_pos h3]
  by_cases h0:prtE p=0
  ·rw[if_pos ⟨h0,h3⟩,h0,QnQ]
  ·rw[if_neg (fun h=>h0 h.1),QnR _ _ h0 (QwU p)]
 ·rw[if_neg h3,if_neg (fun h=>h3 h.2),Qpc]
theorem Qp2 (x:List UInt8) (c:Cmd) {b1 b2:List UInt8} (hs:List Hp) (h:b1.length=b2.length):Qce x c b1 hs=Qce x c b2 hs:=by rw[Qce,Qce,h]
noncomputable def sndP (x:List UInt8) (p:Prt) (hs:List Hp):List UInt8:=if Qgz x p hs=0 then QmY x p hs else QCC 768 0
theorem QiG (x:List UInt8) (p:Prt) (hs:List Hp):Qgz x p hs=QbZ [if p.kd=3 then 3 else 0,prtE p,Qce x (QcB p) (QgC p) hs]∧(Qgz x p hs=0→sndP x p hs=bldP x (QcB p) (QgC p) hs):=by
 have hb:=Qp2 x (QcB p) hs ((QiB p).trans (Qfj p).symm)
 have h1:Qgz x p hs=QbZ [frmE p,Qce x (QcB p) (QgC p) hs]:=by rw[Qgz,hb]
 refine⟨by rw[QrS,h1],fun h=>?_⟩
 have h2:=h
 rw[h1,QbM]at h2
 have f0:frmE p=0:=h2 _ (by simp)
 have b0:Qce x (QcB p) (QgC p) hs=0:=h2 _ (by simp)
 have p0:prtE p=0:=by
  unfold frmE at f0
  split at f0
  ·cases f0
  ·exact f0
 rw[sndP,if_pos h,bldP,if_pos b0,QmY,QdP,if_pos f0,QgC,if_pos p0]
theorem Qsl (p:Prt):∃(KD:UInt8) (KE:Nat),(KD=2∨KD=3)∧QcB p=lcK KD∧(if p.kd=3 then 3 else 0)=KE∧(((p.kd==2)=true∧(p.kd==3)=false∧KD=3∧KE=0)∨((p.kd==2)=false∧(p.kd==3)=true∧KD=2∧KE=3)∨((p.kd==2)=false∧(p.kd==3)=false∧KD=2∧KE=0)):=by
 by_cases h2:p.kd=2
 ·exact⟨3,0,.inr rfl,by rw[QcB,if_pos h2];rfl,by rw[h2];rfl,.inl ⟨by rw[h2];rfl,by rw[h2];rfl,rfl,rfl⟩⟩
 ·by_cases h3:p.kd=3
  ·exact⟨2,3,.inl rfl,by rw[QcB,if_neg h2];rfl,if_pos h3,.inr (.inl ⟨by rw[h3];rfl,by rw[h3];rfl,rfl,rfl⟩)⟩
  ·exact⟨2,0,.inl rfl,by rw[QcB,if_neg h2];rfl,if_neg h3,.inr (.inr ⟨beq_eq_false_iff_ne.2 h2,beq_eq_false_iff_ne.2 h3,rfl,rfl⟩)⟩
theorem Qip (x:List UInt8) (c:Cmd) {body:List UInt8} (hs:List Hp) (hb:body.length=480):(bldP x c body hs).length=768:=by
 unfold bldP
 split
 ·rename_i h
  rw[Qce,QbM]at h
  obtain⟨_,_,hn1,hn5,_,_⟩:=QdB (h (QeL c hs) (by simp))
  rw[QjH,pktA,QCM,Qc1 (Qco x (pubH hs)) hb,hdrA,QCM,QCM,Qda (Qco x (pubH hs) _),Qbw hn1 hn5 (fun k=>QcH _),tagA,Qbx]
 ·exact QCO
theorem Qpa (k:UInt8):Tryz.prog.built 64 [(0,W8 k)]=some (CC (lcK k)).toArray:=by
 rw[Qa7 (pl:=[(0,1),(1,1),(2,1),(3,1),(4,16)]) Tryz.underlying64 Qxy (by kernel_rfl),Qbk (vs:=[W8 k]) (off:=0) rfl rfl (by rw[Qan];simp),Qct]
 rfl
set_option maxRecDepth 100000 in
set_option maxHeartbeats 16000000 in
theorem Qrs (A D H:Option Addr) (nx cx nd cd n ch:Nat) (x:List UInt8) (p:Prt) (hs:List Hp) (w:World) (hx:RdB w A nx x) (hxc:nx≤cx) (hd:RdB w D nd p.da) (hnd:nd≤1048576) (hh:RdH w H n hs) (hn:n≤1048576):
 Calls Tryz.prog 10 #[.slice A nx cx,.agg (PaC p (.slice D nd cd)).toArray,.slice H n ch] w fun e w'=>e= .returned (.tuple #[.agg ((sndP x p hs).map W8).toArray,.int .i64 (Qgz x p hs:Nat)])∧Later w w':=by
 have l0:(QCC 768 (0:UInt8)).length=768:=QCO
 have B0:=(Qba w 25 (PaC p (.slice D nd cd))).fresh (Qaa _ (.cells Tryz.zeroCells37 37)) (QCN _) ((Blk.new (w.alloc (.cells (PaC p (.slice D nd cd)).toArray 25)) _ Tryz.zeroCells37.toList).cast zcP)
 have hsz:(w.alloc (.cells (PaC p (.slice D nd cd)).toArray 25)).heap.size=w.heap.size+1:=by simp only[World.alloc,Array.size_push]
 have hs2:((w.alloc (.cells (PaC p (.slice D nd cd)).toArray 25)).alloc (.cells Tryz.zeroCells37 37)).heap.size=w.heap.size+1+1:=by simp only[World.alloc,Array.size_push]
 have hCb:=Blk.new ((w.alloc (.cells (PaC p (.slice D nd cd)).toArray 25)).alloc (.cells Tryz.zeroCells37 37)) 64 cz0
 rw[hsz]at B0
 rw[hs2]at hCb
 clear hsz
 have HZ:=hid zcP
 have hz0:=hid QgT
 have hbc:=hid Qpa
 have hFr:=hid (fun w h=>Qqp p D nd cd w h hnd)
 obtain⟨KD,KE,hKD2,hsc,hKE,hcs⟩:=Qsl p
 obtain⟨hE,hRB⟩:=QiG x p hs
 rw[hsc,hKE]at hE
 rw[hsc]at hRB
 have hR:Hid (Qgz x p hs≠0→sndP x p hs=QCC 768 0):=hid (fun h=>by rw[sndP,if_neg h])
 have hFq:Hid (prtE p=0→frmR p=QgC p):=hid (fun h=>by rw[frmR,if_pos h,QgC,if_pos h])
 have hFz:Hid (prtE p≠0→QgC p=QCC 480 0):=hid (fun h=>by rw[QgC,if_neg h])
 have hql:=Qfj p
 have hBu:=hid (fun Bs cb w h1 h2 hc h3=>QpW KD hKD2 A Bs H nx cx 480 cb n ch x (QgC p) hs w h1 hxc h2 hc (by omega) h3 hn)
 have hBl:(bldP x (lcK KD) (QgC p) hs).length=768:=by
  exact Qip x (lcK KD) hs hql
 have hz8:Hid (QCC 480 (Value.int .u8 0)=(QCC 480 (0:UInt8)).map W8):=hid (by rw[QDi];rfl)
 clear hKE hsc hKD2
 replace hE:=hid hE
 replace hRB:=hid hRB
 generalize frmR p=FR at *
 generalize QgC p=SQ at *
 generalize sndP x p hs=R at *
 generalize Qgz x p hs=E at *
 generalize prtE p=PE at *
 generalize Qce x (lcK KD) SQ hs=BE at *
 generalize bldP x (lcK KD) SQ hs=BR at *
 generalize QCC 768 (0:UInt8)=Z at *
 have l1:(Z.map W8).length=768:=by rw[QCG,l0]
 go_enter Tryz.func10,Tryz.ntmps10
 rcases hcs with ⟨h2,h3,rfl,rfl⟩|⟨h2,h3,rfl,rfl⟩|⟨h2,h3,rfl,rfl⟩
 ·go_wp2_with (first
   | (refine go_b rfl ?_;refine Qah ?hw 64 _ rfl (CC (lcK 2)) (by simp only[QCS,QDa,QC2];exact hbc.out 2) ?_;(case hw=>rfl))
   | (refine Qbg rfl ?_;refine Qb8 rfl rfl _ _ rfl hCb rfl rfl rfl ?_;intro w3 hb3 ho3
      have B3:=B0.push (Qaa _ _) (Nat.le_of_eq hs2) ho3 hb3
      have kc3:=(Qa5 (B3.nth 2 rfl)).1
      have hl3:=(B3.nth 2 rfl).lt)
   | (refine Qbg rfl ?_;refine Qad rfl rfl _ _ _ rfl _ 0 _ _ hb3 rfl (by rw[Qan];omega) rfl (by kernel_rfl) ?_;intro v4 w4 hv4 hb4 ho4;simp[go_sem]at hv4;subst hv4
      replace hb4:Blk w4 _ 64 (CC (lcK 3)):=hb4
      have B4:=B3.write 0 rfl ho4 hb4
      have kc4:=(Qa5 (B4.nth 2 rfl)).1
      have hl4:=(B4.nth 2 rfl).lt)
   | (refine go_l rfl ?_;refine QdK rfl _ rfl (B4.nth 2 rfl) rfl ?_)
   | fail)
  (refine (hFr.out _ (hd.later B4.lat)).mono ?_);rintro e w5 ⟨A1,c1,rfl,o1,j1⟩
  have B5:=B4.later j1
  have hBc:=hid (fun v=>hBu.out A1 c1 v)
  have hls:=hid (fun g (w:World) h=>Qft (some ⟨g,0,none⟩) 3 3 [0,PE,BE] w h (by omega))
  rw[←hE.out]at hls
  by_cases hp0:PE=0
  ·subst hp0
   have hFv:=hFq.out rfl
   subst hFv
   rw[hql]at o1 ⊢
   go_wp2_with (first
    | (refine go_l rfl ?_;refine QcL rfl _ rfl (B5.nth 0 rfl) rfl ?_)
    | fail)
   (refine (hBc.out _ (hx.later B5.lat) (OwnB.rd o1) (OwnB.cap o1) (hh.later B5.lat)).mono ?_);rintro e w6 ⟨rfl,j6⟩
   have B6:=B5.later j6
   clear hBu hBc hFr hx hh hd B3 B5
   go_wp2_with (first
    | (refine Qbg rfl ?_;refine Qa8 rfl rfl _ _ rfl ((Blk.new w6 _ Tryz.zeroCells37.toList).cast HZ.out) rfl rfl hBl l1 ?_;intro w7 hb7 ho7
       have B7:=B6.push (Qaa _ _) (QCN _) ho7 hb7)
    | fail)
   refine (hls.out _ _ ((Blk.new w7 27 [.int .i64 0,.int .i64 0,.int .i64 (BE:Int)]).rd rfl)).mono ?_;rintro e w8 ⟨rfl,j8⟩
   have B8:=(B7.later (Qaa w7 (.cells #[.int .i64 0,.int .i64 0,.int .i64 (BE:Int)] 27))).later j8
   by_cases hEz:E=0
   ·have hX:=hid (hRB.out hEz)
    subst hEz
    go_wp2_with (first
     | (refine go_l rfl ?_;refine QeM rfl _ rfl (B8.nth 0 rfl) hBl rfl ?_)
     | (refine Qbg rfl ?_;refine Qa8 rfl rfl _ _ rfl (B8.nth 2 rfl) rfl rfl hBl l1 ?_;intro w9 hb9 ho9)
     | fail)
    exact bodyPost_ret (Qaf rfl _ _ _ _ _ _ hb9 rfl Tryz.underlying37 rfl (by rw[QCG,hBl];exact Qcb)) rfl ⟨by rw[hX.out];rfl,B8.lat.only ho9 (by omega)⟩
   ·have hX:=hid (hR.out hEz)
    have hne9:((E:Int) != 0)=true:=bne_iff_ne.2 (by omega)
    go_wp2_with (first
     | (refine go_b rfl ?_;refine Qah ?hw 37 _ rfl (Z.map W8) (by simp only[QCS,QC2];exact hz0.out) ?_;(case hw=>rfl))
     | (refine Qbg rfl ?_;refine Qa8 rfl rfl _ _ rfl (B8.nth 2 rfl) rfl rfl l0 l1 ?_;intro w9 hb9 ho9)
     | fail)
    exact bodyPost_ret (Qaf rfl _ _ _ _ _ _ hb9 rfl Tryz.underlying37 rfl (by rw[l1];exact Qcb)) rfl ⟨by rw[hX.out];rfl,B8.lat.only ho9 (by omega)⟩
  ·have hFv:=hid (hFz.out hp0)
   have f1:((PE:Int) != 0)=true:=bne_iff_ne.2 (by omega)
   have hEn:Hid (E≠0):=hid (fun h=>by
    have:=hE.out
    rw[h]at this
    exact hp0 (((QbM _).1 this.symm) PE (by simp)))
   go_wp2_with (first
    | (refine Qax rfl _ _ _ rfl 5 _ 1 Tryz.underlying22 QcR rfl _ _ _ _ 480 rfl rfl rfl rfl (by omega) (by omega) ?_;intro w6 hb6 hl6
       have B6:=B5.fresh hl6 (QCN _) (hb6.cast hz8.out))
    | (refine go_l rfl ?_;refine QcL rfl _ rfl (B6.nth 1 rfl) rfl ?_)
    | fail)
   (refine (hBu.out _ 480 _ (hx.later B6.lat) (by rw[hFv.out];exact (B6.nth 0 rfl).rd (by rw[QCG,QCO])) (QCN _) (hh.later B6.lat)).mono ?_);rintro e w7 ⟨rfl,j7⟩
   have B7:=B6.later j7
   clear hBu hBc hFr hx hh hd B3 B5 B6
   go_wp2_with (first
    | (refine Qbg rfl ?_;refine Qa8 rfl rfl _ _ rfl ((Blk.new w7 _ Tryz.zeroCells37.toList).cast HZ.out) rfl rfl hBl l1 ?_;intro w8 hb8 ho8
       have B8:=B7.push (Qaa _ _) (QCN _) ho8 hb8)
    | fail)
   refine (hls.out _ _ ((Blk.new w8 27 [.int .i64 0,.int .i64 (PE:Int),.int .i64 (BE:Int)]).rd rfl)).mono ?_;rintro e w9 ⟨rfl,j9⟩
   have B9:=(B8.later (Qaa w8 (.cells #[.int .i64 0,.int .i64 (PE:Int),.int .i64 (BE:Int)] 27))).later j9
   have hX:=hid (hR.out hEn.out)
   have hne9:((E:Int) != 0)=true:=bne_iff_ne.2 (by have:=hEn.out;omega)
   go_wp2_with (first
    | (refine go_b rfl ?_;refine Qah ?hw 37 _ rfl (Z.map W8) (by simp only[QCS,QC2];exact hz0.out) ?_;(case hw=>rfl))
    | (refine Qbg rfl ?_;refine Qa8 rfl rfl _ _ rfl (B9.nth 3 rfl) rfl rfl l0 l1 ?_;intro wz hbz hoz)
    | fail)
   exact bodyPost_ret (Qaf rfl _ _ _ _ _ _ hbz rfl Tryz.underlying37 rfl (by rw[l1];exact Qcb)) rfl ⟨by rw[hX.out];rfl,B9.lat.only hoz (by omega)⟩
 ·go_wp2_with (first
   | (refine go_b rfl ?_;refine Qah ?hw 64 _ rfl (CC (lcK 2)) (by simp only[QCS,QDa,QC2];exact hbc.out 2) ?_;(case hw=>rfl))
   | (refine Qbg rfl ?_;refine Qb8 rfl rfl _ _ rfl hCb rfl rfl rfl ?_;intro w3 hb3 ho3
      have B3:=B0.push (Qaa _ _) (Nat.le_of_eq hs2) ho3 hb3
      have kc3:=(Qa5 (B3.nth 2 rfl)).1
      have hl3:=(B3.nth 2 rfl).lt)
   | (refine go_l rfl ?_;refine QdK rfl _ rfl (B3.nth 2 rfl) rfl ?_)
   | fail)
  have B4:=B3
  (refine (hFr.out _ (hd.later B4.lat)).mono ?_);rintro e w5 ⟨A1,c1,rfl,o1,j1⟩
  have B5:=B4.later j1
  have hBc:=hid (fun v=>hBu.out A1 c1 v)
  have hls:=hid (fun g (w:World) h=>Qft (some ⟨g,0,none⟩) 3 3 [3,PE,BE] w h (by omega))
  rw[←hE.out]at hls
  by_cases hp0:PE=0
  ·subst hp0
   have hFv:=hFq.out rfl
   subst hFv
   rw[hql]at o1 ⊢
   go_wp2_with (first
    | (refine go_l rfl ?_;refine QcL rfl _ rfl (B5.nth 0 rfl) rfl ?_)
    | fail)
   (refine (hBc.out _ (hx.later B5.lat) (OwnB.rd o1) (OwnB.cap o1) (hh.later B5.lat)).mono ?_);rintro e w6 ⟨rfl,j6⟩
   have B6:=B5.later j6
   clear hBu hBc hFr hx hh hd B3 B5
   go_wp2_with (first
    | (refine Qbg rfl ?_;refine Qa8 rfl rfl _ _ rfl ((Blk.new w6 _ Tryz.zeroCells37.toList).cast HZ.out) rfl rfl hBl l1 ?_;intro w7 hb7 ho7
       have B7:=B6.push (Qaa _ _) (QCN _) ho7 hb7)
    | fail)
   refine (hls.out _ _ ((Blk.new w7 27 [.int .i64 3,.int .i64 0,.int .i64 (BE:Int)]).rd rfl)).mono ?_;rintro e w8 ⟨rfl,j8⟩
   have B8:=(B7.later (Qaa w7 (.cells #[.int .i64 3,.int .i64 0,.int .i64 (BE:Int)] 27))).later j8
   by_cases hEz:E=0
   ·have hX:=hid (hRB.out hEz)
    subst hEz
    go_wp2_with (first
     | (refine go_l rfl ?_;refine QeM rfl _ rfl (B8.nth 0 rfl) hBl rfl ?_)
     | (refine Qbg rfl ?_;refine Qa8 rfl rfl _ _ rfl (B8.nth 2 rfl) rfl rfl hBl l1 ?_;intro w9 hb9 ho9)
     | fail)
    exact bodyPost_ret (Qaf rfl _ _ _ _ _ _ hb9 rfl Tryz.underlying37 rfl (by rw[QCG,hBl];exact Qcb)) rfl ⟨by rw[hX.out];rfl,B8.lat.only ho9 (by omega)⟩
   ·have hX:=hid (hR.out hEz)
    have hne9:((E:Int) != 0)=true:=bne_iff_ne.2 (by omega)
    go_wp2_with (first
     | (refine go_b rfl ?_;refine Qah ?hw 37 _ rfl (Z.map W8) (by simp only[QCS,QC2];exact hz0.out) ?_;(case hw=>rfl))
     | (refine Qbg rfl ?_;refine Qa8 rfl rfl _ _ rfl (B8.nth 2 rfl) rfl rfl l0 l1 ?_;intro w9 hb9 ho9)
     | fail)
    exact bodyPost_ret (Qaf rfl _ _ _ _ _ _ hb9 rfl Tryz.underlying37 rfl (by rw[l1];exact Qcb)) rfl ⟨by rw[hX.out];rfl,B8.lat.only ho9 (by omega)⟩
  ·have hFv:=hid (hFz.out hp0)
   have f1:((PE:Int) != 0)=true:=bne_iff_ne.2 (by omega)
   have hEn:Hid (E≠0):=hid (fun h=>by
    have:=hE.out
    rw[h]at this
    exact hp0 (((QbM _).1 this.symm) PE (by simp)))
   go_wp2_with (first
    | (refine Qax rfl _ _ _ rfl 5 _ 1 Tryz.underlying22 QcR rfl _ _ _ _ 480 rfl rfl rfl rfl (by omega) (by omega) ?_;intro w6 hb6 hl6
       have B6:=B5.fresh hl6 (QCN _) (hb6.cast hz8.out))
    | (refine go_l rfl ?_;refine QcL rfl _ rfl (B6.nth 1 rfl) rfl ?_)
    | fail)
   (refine (hBu.out _ 480 _ (hx.later B6.lat) (by rw[hFv.out];exact (B6.nth 0 rfl).rd (by rw[QCG,QCO])) (QCN _) (hh.later B6.lat)).mono ?_);rintro e w7 ⟨rfl,j7⟩
   have B7:=B6.later j7
   clear hBu hBc hFr hx hh hd B3 B5 B6
   go_wp2_with (first
    | (refine Qbg rfl ?_;refine Qa8 rfl rfl _ _ rfl ((Blk.new w7 _ Tryz.zeroCells37.toList).cast HZ.out) rfl rfl hBl l1 ?_;intro w8 hb8 ho8
       have B8:=B7.push (Qaa _ _) (QCN _) ho8 hb8)
    | fail)
   refine (hls.out _ _ ((Blk.new w8 27 [.int .i64 3,.int .i64 (PE:Int),.int .i64 (BE:Int)]).rd rfl)).mono ?_;rintro e w9 ⟨rfl,j9⟩
   have B9:=(B8.later (Qaa w8 (.cells #[.int .i64 3,.int .i64 (PE:Int),.int .i64 (BE:Int)] 27))).later j9
   have hX:=hid (hR.out hEn.out)
   have hne9:((E:Int) != 0)=true:=bne_iff_ne.2 (by have:=hEn.out;omega)
   go_wp2_with (first
    | (refine go_b rfl ?_;refine Qah ?hw 37 _ rfl (Z.map W8) (by simp only[QCS,QC2];exact hz0.out) ?_;(case hw=>rfl))
    | (refine Qbg rfl ?_;refine Qa8 rfl rfl _ _ rfl (B9.nth 3 rfl) rfl rfl l0 l1 ?_;intro wz hbz hoz)
    | fail)
   exact bodyPost_ret (Qaf rfl _ _ _ _ _ _ hbz rfl Tryz.underlying37 rfl (by rw[l1];exact Qcb)) rfl ⟨by rw[hX.out];rfl,B9.lat.only hoz (by omega)⟩
 ·go_wp2_with (first
   | (refine go_b rfl ?_;refine Qah ?hw 64 _ rfl (CC (lcK 2)) (by simp only[QCS,QDa,QC2];exact hbc.out 2) ?_;(case hw=>rfl))
   | (refine Qbg rfl ?_;refine Qb8 rfl rfl _ _ rfl hCb rfl rfl rfl ?_;intro w3 hb3 ho3
      have B3:=B0.push (Qaa _ _) (Nat.le_of_eq hs2) ho3 hb3
      have kc3:=(Qa5 (B3.nth 2 rfl)).1
      have hl3:=(B3.nth 2 rfl).lt)
   | (refine go_l rfl ?_;refine QdK rfl _ rfl (B3.nth 2 rfl) rfl ?_)
   | fail)
  have B4:=B3
  (refine (hFr.out _ (hd.later B4.lat)).mono ?_);rintro e w5 ⟨A1,c1,rfl,o1,j1⟩
  have B5:=B4.later j1
  have hBc:=hid (fun v=>hBu.out A1 c1 v)
  have hls:=hid (fun g (w:World) h=>Qft (some ⟨g,0,none⟩) 3 3 [0,PE,BE] w h (by omega))
  rw[←hE.out]at hls
  by_cases hp0:PE=0
  ·subst hp0
   have hFv:=hFq.out rfl
   subst hFv
   rw[hql]at o1 ⊢
   go_wp2_with (first
    | (refine go_l rfl ?_;refine QcL rfl _ rfl (B5.nth 0 rfl) rfl ?_)
    | fail)
   (refine (hBc.out _ (hx.later B5.lat) (OwnB.rd o1) (OwnB.cap o1) (hh.later B5.lat)).mono ?_);rintro e w6 ⟨rfl,j6⟩
   have B6:=B5.later j6
   clear hBu hBc hFr hx hh hd B3 B5
   go_wp2_with (first
    | (refine Qbg rfl ?_;refine Qa8 rfl rfl _ _ rfl ((Blk.new w6 _ Tryz.zeroCells37.toList).cast HZ.out) rfl rfl hBl l1 ?_;intro w7 hb7 ho7
       have B7:=B6.push (Qaa _ _) (QCN _) ho7 hb7)
    | fail)
   refine (hls.out _ _ ((Blk.new w7 27 [.int .i64 0,.int .i64 0,.int .i64 (BE:Int)]).rd rfl)).mono ?_;rintro e w8 ⟨rfl,j8⟩
   have B8:=(B7.later (Qaa w7 (.cells #[.int .i64 0,.int .i64 0,.int .i64 (BE:Int)] 27))).later j8
   by_cases hEz:E=0
   ·have hX:=hid (hRB.out hEz)
    subst hEz
    go_wp2_with (first
     | (refine go_l rfl ?_;refine QeM rfl _ rfl (B8.nth 0 rfl) hBl rfl ?_)
     | (refine Qbg rfl ?_;refine Qa8 rfl rfl _ _ rfl (B8.nth 2 rfl) rfl rfl hBl l1 ?_;intro w9 hb9 ho9)
     | fail)
    exact bodyPost_ret (Qaf rfl _ _ _ _ _ _ hb9 rfl Tryz.underlying37 rfl (by rw[QCG,hBl];exact Qcb)) rfl ⟨by rw[hX.out];rfl,B8.lat.only ho9 (by omega)⟩
   ·have hX:=hid (hR.out hEz)
    have hne9:((E:Int) != 0)=true:=bne_iff_ne.2 (by omega)
    go_wp2_with (first
     | (refine go_b rfl ?_;refine Qah ?hw 37 _ rfl (Z.map W8) (by simp only[QCS,QC2];exact hz0.out) ?_;(case hw=>rfl))
     | (refine Qbg rfl ?_;refine Qa8 rfl rfl _ _ rfl (B8.nth 2 rfl) rfl rfl l0 l1 ?_;intro w9 hb9 ho9)
     | fail)
    exact bodyPost_ret (Qaf rfl _ _ _ _ _ _ hb9 rfl Tryz.underlying37 rfl (by rw[l1];exact Qcb)) rfl ⟨by rw[hX.out];rfl,B8.lat.only ho9 (by omega)⟩
  ·have hFv:=hid (hFz.out hp0)
   have f1:((PE:Int) != 0)=true:=bne_iff_ne.2 (by omega)
   have hEn:Hid (E≠0):=hid (fun h=>by
    have:=hE.out
    rw[h]at this
    exact hp0 (((QbM _).1 this.symm) PE (by simp)))
   go_wp2_with (first
    | (refine Qax rfl _ _ _ rfl 5 _ 1 Tryz.underlying22 QcR rfl _ _ _ _ 480 rfl rfl rfl rfl (by omega) (by omega) ?_;intro w6 hb6 hl6
       have B6:=B5.fresh hl6 (QCN _) (hb6.cast hz8.out))
    | (refine go_l rfl ?_;refine QcL rfl _ rfl (B6.nth 1 rfl) rfl ?_)
    | fail)
   (refine (hBu.out _ 480 _ (hx.later B6.lat) (by rw[hFv.out];exact (B6.nth 0 rfl).rd (by rw[QCG,QCO])) (QCN _) (hh.later B6.lat)).mono ?_);rintro e w7 ⟨rfl,j7⟩
   have B7:=B6.later j7
   clear hBu hBc hFr hx hh hd B3 B5 B6
   go_wp2_with (first
    | (refine Qbg rfl ?_;refine Qa8 rfl rfl _ _ rfl ((Blk.new w7 _ Tryz.zeroCells37.toList).cast HZ.out) rfl rfl hBl l1 ?_;intro w8 hb8 ho8
       have B8:=B7.push (Qaa _ _) (QCN _) ho8 hb8)
    | fail)
   refine (hls.out _ _ ((Blk.new w8 27 [.int .i64 0,.int .i64 (PE:Int),.int .i64 (BE:Int)]).rd rfl)).mono ?_;rintro e w9 ⟨rfl,j9⟩
   have B9:=(B8.later (Qaa w8 (.cells #[.int .i64 0,.int .i64 (PE:Int),.int .i64 (BE:Int)] 27))).later j9
   have hX:=hid (hR.out hEn.out)
   have hne9:((E:Int) != 0)=true:=bne_iff_ne.2 (by have:=hEn.out;omega)
   go_wp2_with (first
    | (refine go_b rfl ?_;refine Qah ?hw 37 _ rfl (Z.map W8) (by simp only[QCS,QC2];exact hz0.out) ?_;(case hw=>rfl))
    | (refine Qbg rfl ?_;refine Qa8 rfl rfl _ _ rfl (B9.nth 3 rfl) rfl rfl l0 l1 ?_;intro wz hbz hoz)
    | fail)
   exact bodyPost_ret (Qaf rfl _ _ _ _ _ _ hbz rfl Tryz.underlying37 rfl (by rw[l1];exact Qcb)) rfl ⟨by rw[hX.out];rfl,B9.lat.only hoz (by omega)⟩
theorem Qnl (x:List UInt8) (p:Prt) (hs:List Hp):(sndP x p hs).length=768:=by
 by_cases h:Qgz x p hs=0
 ·rw[(QiG x p hs).2 h]
  exact Qip _ _ _ (Qfj p)
 ·rw[sndP,if_neg h]
  exact QCO
noncomputable def Qgw (hs:List Hp):Bool:=hs.all fun h=>Qbj h.nod.priv.val (nb 9)==h.nod.pub.val
theorem QtE {hs:List Hp} {k:Nat} (hk:k<hs.length) (h:(Qbj (hs.getD k hp0).nod.priv.val (nb 9)==(hs.getD k hp0).nod.pub.val)=false):Qgw hs=false:=by
 rw[Qgw,List.all_eq_false]
 refine⟨hs[k],QDS hk,?_⟩
 rw[QCK,QCH hk]at h
 exact Bool.eq_false_iff.1 h
theorem Qq9 {hs:List Hp} (h:∀j,j<hs.length→Qbj (hs.getD j hp0).nod.priv.val (nb 9)=(hs.getD j hp0).nod.pub.val):Qgw hs=true:=by
 rw[Qgw,QDm]
 intro x hx
 obtain⟨k,hk,rfl⟩:=QEO hx
 have:=h k hk
 rw[QCK,QCH hk]at this
 exact beq_iff_eq.2 this
theorem Qs2 {hs:List Hp} (h:Qgw hs=true):∀j,j<hs.length→Qbj (hs.getD j hp0).nod.priv.val (nb 9)=(hs.getD j hp0).nod.pub.val:=by
 intro j hj
 rw[Qgw,QDm]at h
 have:=h hs[j] (QDS hj)
 rw[QCK,QCH hj]
 exact beq_iff_eq.1 this
set_option maxRecDepth 100000 in
set_option maxHeartbeats 8000000 in
theorem Qqg (A:Option Addr) (n c:Nat) (hs:List Hp) (w:World) (hh:RdH w A n hs) (hn:n≤1048576):
 Calls Tryz.prog 24 #[.slice A n c] w fun e w'=>e= .returned (.bool (Qgw hs))∧Later w w':=by
 have hl:=hh.1
 have hno:=hid (fun k h1 h2=>QtE (hs:=hs) (k:=k) h1 h2)
 have hys:=hid (fun h=>Qq9 (hs:=hs) h)
 rw[hl]at hno hys
 generalize Qgw hs=R at *
 go_enter Tryz.func24,Tryz.ntmps24
 go_wp2_with fail
 go_loopw [9] (fun i wr=>∃k:Nat,k≤n∧i= .int .i64 k∧Hid (∀ j,j<k→Qbj (hs.getD j hp0).nod.priv.val (nb 9)=(hs.getD j hp0).nod.pub.val)∧Later w wr) (fun i _=>n-(intOf i).toNat)
 case atStart=>exact⟨0,by omega,rfl,hid (fun j hj=>absurd hj (by omega)),Later.refl w⟩
 case round=>
  obtain⟨k,hk,rfl,hm,L⟩:=hrel
  by_cases hlt:k<n
  ·obtain⟨b,o,rfl,hbb,hc⟩:=(hh.later L).at_ hlt
   have hgo:=hid (fun h:Qbj (hs.getD k hp0).nod.priv.val (nb 9)=(hs.getD k hp0).nod.pub.val=>(fun j hj=>by
    by_cases e:j=k
    ·rw[e];exact h
    ·exact hm.out j (by omega):∀j,j<k+1→Qbj (hs.getD j hp0).nod.priv.val (nb 9)=(hs.getD j hp0).nod.pub.val))
   have hnk:=hid (hno.out k hlt)
   clear hm hno hys
   generalize hs.getD k hp0=z at *
   obtain⟨MY,hMY⟩:∃MY:Y32,MY.val=Qbj z.nod.priv.val (nb 9):=⟨⟨_,QaV _ _⟩,rfl⟩
   rw[←hMY]at hgo hnk
   have hPu:=hid (fun A w h=>QpK A 32 32 z.nod.priv.val w h (by omega))
   rw[←hMY]at hPu
   clear hMY
   replace hc:=hid hc
   have hzz:Tryz.zeroCells76.toList.length=68:=by kernel_rfl
   replace hzz:=hid hzz
   go_wp2_with (first
    | (refine go_l rfl ?_;refine Qay rfl 76 _ rfl b (o+k*68) (HC z) hc.out rfl _ Tryz.underlying76 rfl (by rw[Qa6];exact QgY) ?_)
    | (refine Qbg rfl ?_;refine QaJ rfl rfl 76 _ _ rfl wr.heap.size _ _ (HC z) (Blk.new wr _ Tryz.zeroCells76.toList) rfl rfl 68 QgY (Qa6 _) hzz.out (QoT _) ?_;intro w3 hb3 ho3
       have B3:Bag w w3 [(wr.heap.size,76,HC z)]:=((Bag.none w).later L).push (Qaa _ _) (QCN _) ho3 hb3
       have hl3:=(B3.nth 0 rfl).lt)
    | fail)
   (refine (hPu.out _ _ (QhV hl3 (fun j v hv=>(B3.nth 0 rfl).cellD _ (Qin z (Qm0 _ hv))) z.nod.priv.2)).mono ?_);rintro e w4 ⟨rfl,j4⟩
   have B4:=B3.later j4
   have hcp:∀(w':World),Bag w w' [(w4.heap.size,30,MY.val.map W8),(wr.heap.size,76,HC z)]→∀j v,(z.nod.pub.val.map W8)[j]?=some v→w'.cell? ⟨wr.heap.size,34+j,none⟩=some v:=fun w' B j v hv=>(B.nth 1 rfl).cellD _ (Qin z (Qwv _ hv))
   replace hcp:=hid hcp
   cases heq:(MY.val==z.nod.pub.val)
   ·have hnq:(MY.val != z.nod.pub.val)=true:=by rw[bne,heq];rfl
    obtain rfl:=hnk.out heq
    go_wp2_with (first
     | (refine Qbg rfl ?_;refine QaK rfl rfl _ _ rfl (Blk.new w4 _ (QCC 32 (.int .u8 0))) rfl rfl MY.2 rfl ?_;intro w5 hb5 ho5
        have B5:=B4.push (Qaa _ _) (QCN _) ho5 hb5)
     | (refine go_l rfl ?_;refine Qfi rfl _ rfl (fun j v hv=>by rw[QC6];exact (B5.nth 0 rfl).cellD j hv) MY.2 rfl ?_)
     | (refine go_l rfl ?_;refine Qfi rfl _ rfl (hcp.out _ B5) z.nod.pub.2 rfl ?_)
     | fail)
    go_ret
    exact⟨rfl,B5.lat⟩
   ·have hgo':=hid (hgo.out (by simpa using heq))
    have hnq:(MY.val != z.nod.pub.val)=false:=by rw[bne,heq];rfl
    go_wp2_with (first
     | (refine Qbg rfl ?_;refine QaK rfl rfl _ _ rfl (Blk.new w4 _ (QCC 32 (.int .u8 0))) rfl rfl MY.2 rfl ?_;intro w5 hb5 ho5
        have B5:=B4.push (Qaa _ _) (QCN _) ho5 hb5)
     | (refine go_l rfl ?_;refine Qfi rfl _ rfl (fun j v hv=>by rw[QC6];exact (B5.nth 0 rfl).cellD j hv) MY.2 rfl ?_)
     | (refine go_l rfl ?_;refine Qfi rfl _ rfl (hcp.out _ B5) z.nod.pub.2 rfl ?_)
     | fail)
    exact⟨⟨k+1,by omega,by go_num,hgo',B5.lat⟩,by simp[intOf];omega⟩
  ·obtain rfl:k=n:=by omega
   obtain rfl:=hys.out hm.out
   go_wp2_with fail
   go_ret
   exact⟨rfl,L⟩
def recC (k p:List UInt8):Cmd:=if recE k p=0 then unwC k p else cmd0
def recB (k p:List UInt8):List UInt8:=if recE k p=0 then unwB k p else []
def recP (k p:List UInt8):Prt:=if recE k p=0∧(unwC k p).kd≠4 then parP (unwB k p) else prt0
theorem QtQ {k p:List UInt8} (hp:p.length=768) (h0:unwE k p=0) (h1:(unwC k p).kd≠1):(unwB k p).length=480:=by
 by_cases hm:Qa2 k (p.take 32)=0
 ·rw[unwE,if_pos hm]at h0
  rw[unwC,if_pos hm]at h1
  rw[unwB,if_pos hm,relB,if_pos ⟨h0,h1⟩,QfM _ _ hp (QcM _ _)]
 ·rw[unwE,if_neg hm]at h0
  exact absurd h0 hm
def Qsa (v1 v2:Value):Prop:=∀b1 b2,v1.ownBlock=some b1→v2.ownBlock=some b2→b2<b1
theorem QdC (n c:Nat) (v:Value):Qsa (.slice none n c) v:=fun _ _ h=>by cases h
theorem QdD (w:World) (base:Nat) {l:List UInt8} (h:l=[]):OwnB w base none l.length 0 l:=by subst h;exact Qcn _ _ _
set_option maxRecDepth 100000 in
set_option maxHeartbeats 8000000 in
theorem Qtl (A:Option Addr) (n c:Nat) (k p:List UInt8) (w:World) (hk:RdB w A n k) (hn:n≤140737488355328) (hp:p.length=768):
 Calls Tryz.prog 32 #[.slice A n c,.agg (p.map W8).toArray] w fun e w'=>∃A1 c1 A2 c2,e= .returned (.tuple #[.agg (PaC (recP k p) (.slice A1 (recP k p).da.length c1)).toArray,.agg (PC (recC k p) z768 (.slice A2 (recB k p).length c2)).toArray,.int .i64 (recE k p:Nat)])∧
  OwnB w' w.heap.size A1 (recP k p).da.length c1 (recP k p).da∧OwnB w' w.heap.size A2 (recB k p).length c2 (recB k p)∧Qsa (.slice A1 (recP k p).da.length c1) (.slice A2 (recB k p).length c2)∧Later w w':=by
 have HZ:=hid zcPe
 have C1:=Qba w 37 (p.map W8)
 have C2:=C1.add (Qaa _ (.cells pz0.toArray 25)) (k:=w.heap.size+1) (by simp) (by omega) (Blk.new' _ _ pz0 (by simp))
 have C3:=C2.add (Qaa _ (.cells Tryz.zeroCells68 68)) (k:=w.heap.size+2) (by simp) (by omega) ((Blk.new' _ _ Tryz.zeroCells68.toList (by simp)).cast HZ.out)
 clear C1 C2
 have hU:=hid (fun (w:World) h=>Qjp A n c k p w h hn hp)
 have hR:Hid (recE k p=if unwE k p≠0 then unwE k p else if (unwC k p).kd=1 then 10 else if (unwC k p).kd=4 then 0 else if parE (unwB k p)≠0 then parE (unwB k p) else if (parP (unwB k p)).kd≠(if (unwC k p).kd=3 then 2 else 1) then 10 else 0):=hid rfl
 have hRC:Hid (recC k p=if recE k p=0 then unwC k p else cmd0):=hid rfl
 have hRB:Hid (recB k p=if recE k p=0 then unwB k p else []):=hid rfl
 have hRP:Hid (recP k p=if recE k p=0∧(unwC k p).kd≠4 then parP (unwB k p) else prt0):=hid rfl
 have hPl:=Qh4 k p hp
 have hBl:=hid (fun h0 h1=>QtQ (k:=k) hp h0 h1)
 have hlast:=hid (fun h=>Qvn (k:=k) (p:=p) h)
 have hF:=hid (fun (w:World) A' c' h hc=>Qpo A' c' (unwB k p) w h hc)
 generalize recE k p=RE at *
 generalize recC k p=RC at *
 generalize recB k p=RB at *
 generalize recP k p=RP at *
 generalize unwE k p=UE at *
 generalize unwC k p=UC at *
 generalize unwP k p=UP at *
 generalize unwB k p=UB at *
 generalize parE UB=FE at *
 generalize parP UB=FP at *
 have hb0:=QgA
 have hb1:=Ql0
 have hzl:(PC cmd0 z768 nil8).length=789:=QaD _ Qat _
 have z768l:=Qat
 go_enter Tryz.func32,Tryz.ntmps32
 go_wp2_with (first
  | (refine QeM rfl _ rfl (C3.nth 2 rfl) hp rfl ?_)
  | fail)
 (refine (hU.out _ (hk.later C3.lat)).mono ?_);rintro e w4 ⟨A4,c4,rfl,o4,j4⟩
 have C4:=C3.later j4
 have o5:=QaB (Qcu o4 C3.lat.size) (Qaa w4 (.cells Tryz.zeroCells68 68))
 have hnb:Blk (w4.alloc (.cells Tryz.zeroCells68 68)) w4.heap.size 68 Tryz.zeroCells68.toList:=Blk.new w4 _ _
 clear C3 j4 o4 hU
 by_cases h0:UE=0
 ·subst h0
  replace hR:=hid (hR.out.trans (if_neg (by simp)))
  have hn1:(UC.kd != 1)= !(UC.kd==1):=rfl
  cases hk1:(UC.kd==1)
  ·have hk1n:UC.kd≠1:=by simpa using hk1
   replace hR:=hid (hR.out.trans (if_neg hk1n))
   have hB480:=hid (hBl.out (by trivial) hk1n)
   have hUP:=hlast.out hk1n
   subst hUP
   clear hBl hlast
   go_wp2_with (first
    | (refine QaY rfl rfl _ _ rfl ((Blk.new w4 _ Tryz.zeroCells68.toList).cast HZ.out) rfl rfl hPl rfl hzl ?_;intro w6 hb6 ho6
       have C6:=C4.push (Qaa _ _) (QCN _) ho6 hb6
       have o6:=QaH o5 hnb (by decide) ho6)
    | (refine QiF rfl _ rfl (C6.nth 0 rfl) rfl ?_)
    | fail)
   (with_reducible refine (Qgt UC _).mono ?_);rintro e w7 ⟨rfl,j7⟩
   rw[hk1]
   have C7:=C6.later j7
   have o7:=QaB o6 j7
   have x0:=(C7.nth 0 rfl).cellD 0 (Qew _ _ _ 0 _ rfl)
   have x8:=(C7.nth 0 rfl).cellD 788 (QwG _ z768l _)
   have y0:=(C7.nth 0 rfl).lt
   cases hk4:(UC.kd==4)
   ·have hk4n:UC.kd≠4:=by simpa using hk4
    replace hR:=hid (hR.out.trans (if_neg hk4n))
    have o7':=o7
    rw[hB480.out]at o7' x8
    go_wp2_with fail
    (refine (hF.out _ _ _ (OwnB.rd o7') (OwnB.cap o7')).mono ?_);rintro e w8 ⟨A8,c8,rfl,o8,j8⟩
    have C8:=C7.later j8
    have q7:=QaB (QaB o7 j8) (Qaa w8 (.cells pz0.toArray 25))
    have q8:=QaB o8 (Qaa w8 (.cells pz0.toArray 25))
    have hnp:Blk (w8.alloc (.cells pz0.toArray 25)) w8.heap.size 25 pz0:=Blk.new w8 _ _
    have hbeh:Qsa (.slice A8 FP.da.length c8) (.slice A4 UB.length c4):=fun b1 b2 h1 h2=>by
     have e1:=(World.ownsRow.lt o8 b1 h1).1
     have e2:=(World.ownsRow.lt o7 b2 h2).2
     omega
    clear o7 o7' o8 j8 hF
    by_cases hf0:FE=0
    ·subst hf0
     replace hR:=hid (hR.out.trans (if_neg (by simp)))
     obtain⟨mt,hmt⟩:∃mt:UInt8,mt=if UC.kd=3 then 2 else 1:=⟨_,rfl⟩
     rw[←hmt]at hR
     have hm3:Hid ((UC.kd==3)=true→mt=2):=hid (fun h=>by rw[hmt,if_pos (by simpa using h)])
     have hm1:Hid ((UC.kd==3)=false→mt=1):=hid (fun h=>by rw[hmt,if_neg (by simpa using h)])
     clear hmt
     cases hk3:(UC.kd==3)
     ·have hmt:=hm1.out hk3
      subst hmt
      have hn2:(FP.kd != 1)= !(FP.kd==1):=rfl
      cases hfk:(FP.kd==1)
      ·rw[hfk]at hn2
       replace hR:=hid (hR.out.trans (if_pos (show FP.kd≠1 by simpa using hfk)))
       have hr0:RE≠0:=by rw[hR.out];decide
       have HC:RC=cmd0:=by rw[hRC.out,if_neg hr0]
       have HB:RB=[]:=by rw[hRB.out,if_neg hr0]
       have HP:RP=prt0:=by rw[hRP.out,if_neg (fun h=>hr0 h.1)]
       replace HC:=hid HC
       replace HB:=hid HB
       replace HP:=hid HP
       clear hr0
       go_wp2_with (first
        | (refine Qbd rfl rfl _ _ rfl (Blk.new w8 _ pz0) rfl rfl rfl rfl ?_;intro w9 hb9 ho9
           have C9:=C8.push (Qaa _ _) (QCN _) ho9 hb9
           have r7:=QaH q7 hnp (by decide) ho9
           have r8:=QaH q8 hnp (by decide) ho9
           have z0:=(C9.nth 1 rfl).cellD 0 (Qew _ _ _ 0 _ rfl)
           have z1:=(Qa5 (C9.nth 0 rfl)).1
           have u0:=(C9.nth 0 rfl).lt
           have u1:=(C9.nth 1 rfl).lt)
        | (refine Qah rfl 25 _ rfl (PaC prt0 (.slice none 0 0)) (by simp only[QCS,QC2];exact hb1) ?_)
        | (refine Qah rfl 68 _ rfl (PC cmd0 z768 nil8) (by simp only[QCS,QC2];exact hb0) ?_)
        | (refine Qbd rfl rfl _ _ rfl (C9.nth 3 rfl) rfl rfl rfl rfl ?_;intro e7 eb7 eo7
           have E7:=C9.write 3 rfl eo7 eb7)
        | (refine QaY rfl rfl _ _ rfl (E7.nth 2 rfl) rfl rfl z768l rfl hzl ?_;intro e8 eb8 eo8
           have E8:=E7.write 2 rfl eo8 eb8)
        | fail)
       exact bodyPost_ret (Qbl rfl _ _ _ _ _ _ _ _ _ _ (E8.nth 3 rfl) rfl Tryz.underlying25 rfl (by rw[QaM];exact QcN) (E8.nth 2 rfl) rfl Tryz.underlying68 rfl (by rw[QaD _ z768l];exact QbF)) rfl ⟨none,0,none,0,by rw[hR.out,HC.out,HB.out,HP.out];rfl,QdD _ _ (by rw[HP.out];rfl),QdD _ _ HB.out,QdC _ _ _,E8.lat⟩
      ·rw[hfk]at hn2
       replace hR:=hid (hR.out.trans (if_neg (show ¬FP.kd≠1 by simpa using hfk)))
       have HC:RC=UC:=by rw[hRC.out,if_pos hR.out]
       have HB:RB=UB:=by rw[hRB.out,if_pos hR.out]
       have HP:RP=FP:=by rw[hRP.out,if_pos ⟨hR.out,hk4n⟩]
       replace HC:=hid HC
       replace HB:=hid HB
       replace HP:=hid HP
       go_wp2_with (first
        | (refine Qbd rfl rfl _ _ rfl (Blk.new w8 _ pz0) rfl rfl rfl rfl ?_;intro w9 hb9 ho9
           have C9:=C8.push (Qaa _ _) (QCN _) ho9 hb9
           have r7:=QaH q7 hnp (by decide) ho9
           have r8:=QaH q8 hnp (by decide) ho9
           have z0:=(C9.nth 1 rfl).cellD 0 (Qew _ _ _ 0 _ rfl)
           have z1:=(Qa5 (C9.nth 0 rfl)).1
           have u0:=(C9.nth 0 rfl).lt
           have u1:=(C9.nth 1 rfl).lt)
        | fail)
       have nA:=C9.ne 0 2 rfl rfl (by decide)
       have nB:=C9.ne 0 3 rfl rfl (by decide)
       have nC:=C9.ne 1 2 rfl rfl (by decide)
       have nD:=C9.ne 1 3 rfl rfl (by decide)
       have C10:=C9.drew
       clear z0 z1 u0 u1
       refine Qdp (Spared w9 [w.heap.size+1,w.heap.size+2]) [([0,1],2),([],3)] [4] (by as_aux_lemma=>kernel_rfl) (by as_aux_lemma=>kernel_rfl) (by intro _ _ d _ _ h;cases d<;>exact h) ⟨Spared.refl _ _,?_⟩
       simp only[QcC,pick,QCD,QCE,QCF,QCJ,QCI]
       repeat (first|go_big_quiet_skip|(go_big_quiet_want;(first|refine Qc4 _ _ rfl 0 (PaC FP (.slice A8 FP.da.length c8)) (C9.nth 0 rfl) (by intro b hb;simp only[QCV,QCW,or_false]at hb;rcases hb with rfl|rfl<;>first|exact nA|exact nB) rfl (QdM _) _ Tryz.underlying25 rfl (by rw[QaM];exact QcN) ?_|refine Qc4 _ _ rfl 0 (PC UC z768 (.slice A4 UB.length c4)) (C9.nth 1 rfl) (by intro b hb;simp only[QCV,QCW,or_false]at hb;rcases hb with rfl|rfl<;>first|exact nC|exact nD) rfl (QdM _) _ Tryz.underlying68 rfl (by rw[QaD _ z768l];exact QbF) ?_);simp only[Act.put,QCL,QCQ,QCP];go_big_quiet_on)|(go_big_quiet_step (fail))|(go_big_quiet_want;go_big_quiet_op;refine⟨_,fun _ _=>rfl,?_⟩;go_big_quiet_on))
       refine wpQuiet_nil ?_
       go_wp2_with (first
        | (refine Qbd rfl rfl _ _ rfl (C10.nth 3 rfl) rfl rfl rfl rfl ?_;intro w11 hb11 ho11
           have C11:=C10.write 3 rfl ho11 hb11)
        | fail)
       have S11:=(Spared.refl w9 [w.heap.size+1,w.heap.size+2]).only ho11 (by simp)
       refine⟨S11,?_⟩
       try simp only[QcC,pick,QCD,QCE,QCF,QCJ,QCI]
       repeat (first|(go_big_quiet_step (fail))|(go_big_quiet_want;go_big_quiet_op;refine⟨_,fun _ _=>rfl,?_⟩;go_big_quiet_on))
       refine wpQuiet_nil ?_
       go_wp2_with (first
        | (refine QaY rfl rfl _ _ rfl (C11.nth 2 rfl) rfl rfl z768l rfl hzl ?_;intro w12 hb12 ho12
           have C12:=C11.write 2 rfl ho12 hb12)
        | fail)
       refine⟨S11.only ho12 (by simp),?_⟩
       try simp only[QcC,pick,QCD,QCE,QCF,QCJ,QCI]
       repeat (first|(go_big_quiet_step (fail))|(go_big_quiet_want;go_big_quiet_op;refine⟨_,fun _ _=>rfl,?_⟩;go_big_quiet_on))
       refine wpQuiet_nil ?_
       go_wp2_with fail
       have s7:=QaH (QaH (QaB r7 (Qab w9)) (C10.nth 3 rfl) (by decide) ho11) (C11.nth 2 rfl) (by decide) ho12
       have s8:=QaH (QaH (QaB r8 (Qab w9)) (C10.nth 3 rfl) (by decide) ho11) (C11.nth 2 rfl) (by decide) ho12
       exact bodyPost_ret (Qbl rfl _ _ _ _ _ _ _ _ _ _ (C12.nth 3 rfl) rfl Tryz.underlying25 rfl (by rw[QaM];exact QcN) (C12.nth 2 rfl) rfl Tryz.underlying68 rfl (by rw[QaD _ z768l];exact QbF)) rfl ⟨A8,c8,A4,c4,by rw[hR.out,HC.out,HB.out,HP.out];rfl,by rw[HP.out];exact Qcu s8 C7.lat.size,by rw[HB.out];exact s7,by rw[HP.out,HB.out];exact hbeh,C12.lat⟩
     ·have hmt:=hm3.out hk3
      subst hmt
      have hn2:(FP.kd != 2)= !(FP.kd==2):=rfl
      cases hfk:(FP.kd==2)
      ·rw[hfk]at hn2
       replace hR:=hid (hR.out.trans (if_pos (show FP.kd≠2 by simpa using hfk)))
       have hr0:RE≠0:=by rw[hR.out];decide
       have HC:RC=cmd0:=by rw[hRC.out,if_neg hr0]
       have HB:RB=[]:=by rw[hRB.out,if_neg hr0]
       have HP:RP=prt0:=by rw[hRP.out,if_neg (fun h=>hr0 h.1)]
       replace HC:=hid HC
       replace HB:=hid HB
       replace HP:=hid HP
       clear hr0
       go_wp2_with (first
        | (refine Qbd rfl rfl _ _ rfl (Blk.new w8 _ pz0) rfl rfl rfl rfl ?_;intro w9 hb9 ho9
           have C9:=C8.push (Qaa _ _) (QCN _) ho9 hb9
           have r7:=QaH q7 hnp (by decide) ho9
           have r8:=QaH q8 hnp (by decide) ho9
           have z0:=(C9.nth 1 rfl).cellD 0 (Qew _ _ _ 0 _ rfl)
           have z1:=(Qa5 (C9.nth 0 rfl)).1
           have u0:=(C9.nth 0 rfl).lt
           have u1:=(C9.nth 1 rfl).lt)
        | (refine Qah rfl 25 _ rfl (PaC prt0 (.slice none 0 0)) (by simp only[QCS,QC2];exact hb1) ?_)
        | (refine Qah rfl 68 _ rfl (PC cmd0 z768 nil8) (by simp only[QCS,QC2];exact hb0) ?_)
        | (refine Qbd rfl rfl _ _ rfl (C9.nth 3 rfl) rfl rfl rfl rfl ?_;intro e7 eb7 eo7
           have E7:=C9.write 3 rfl eo7 eb7)
        | (refine QaY rfl rfl _ _ rfl (E7.nth 2 rfl) rfl rfl z768l rfl hzl ?_;intro e8 eb8 eo8
           have E8:=E7.write 2 rfl eo8 eb8)
        | fail)
       exact bodyPost_ret (Qbl rfl _ _ _ _ _ _ _ _ _ _ (E8.nth 3 rfl) rfl Tryz.underlying25 rfl (by rw[QaM];exact QcN) (E8.nth 2 rfl) rfl Tryz.underlying68 rfl (by rw[QaD _ z768l];exact QbF)) rfl ⟨none,0,none,0,by rw[hR.out,HC.out,HB.out,HP.out];rfl,QdD _ _ (by rw[HP.out];rfl),QdD _ _ HB.out,QdC _ _ _,E8.lat⟩
      ·rw[hfk]at hn2
       replace hR:=hid (hR.out.trans (if_neg (show ¬FP.kd≠2 by simpa using hfk)))
       have HC:RC=UC:=by rw[hRC.out,if_pos hR.out]
       have HB:RB=UB:=by rw[hRB.out,if_pos hR.out]
       have HP:RP=FP:=by rw[hRP.out,if_pos ⟨hR.out,hk4n⟩]
       replace HC:=hid HC
       replace HB:=hid HB
       replace HP:=hid HP
       go_wp2_with (first
        | (refine Qbd rfl rfl _ _ rfl (Blk.new w8 _ pz0) rfl rfl rfl rfl ?_;intro w9 hb9 ho9
           have C9:=C8.push (Qaa _ _) (QCN _) ho9 hb9
           have r7:=QaH q7 hnp (by decide) ho9
           have r8:=QaH q8 hnp (by decide) ho9
           have z0:=(C9.nth 1 rfl).cellD 0 (Qew _ _ _ 0 _ rfl)
           have z1:=(Qa5 (C9.nth 0 rfl)).1
           have u0:=(C9.nth 0 rfl).lt
           have u1:=(C9.nth 1 rfl).lt)
        | fail)
       have nA:=C9.ne 0 2 rfl rfl (by decide)
       have nB:=C9.ne 0 3 rfl rfl (by decide)
       have nC:=C9.ne 1 2 rfl rfl (by decide)
       have nD:=C9.ne 1 3 rfl rfl (by decide)
       have C10:=C9.drew
       clear z0 z1 u0 u1
       refine Qdp (Spared w9 [w.heap.size+1,w.heap.size+2]) [([0,1],2),([],3)] [4] (by as_aux_lemma=>kernel_rfl) (by as_aux_lemma=>kernel_rfl) (by intro _ _ d _ _ h;cases d<;>exact h) ⟨Spared.refl _ _,?_⟩
       simp only[QcC,pick,QCD,QCE,QCF,QCJ,QCI]
       repeat (first|go_big_quiet_skip|(go_big_quiet_want;(first|refine Qc4 _ _ rfl 0 (PaC FP (.slice A8 FP.da.length c8)) (C9.nth 0 rfl) (by intro b hb;simp only[QCV,QCW,or_false]at hb;rcases hb with rfl|rfl<;>first|exact nA|exact nB) rfl (QdM _) _ Tryz.underlying25 rfl (by rw[QaM];exact QcN) ?_|refine Qc4 _ _ rfl 0 (PC UC z768 (.slice A4 UB.length c4)) (C9.nth 1 rfl) (by intro b hb;simp only[QCV,QCW,or_false]at hb;rcases hb with rfl|rfl<;>first|exact nC|exact nD) rfl (QdM _) _ Tryz.underlying68 rfl (by rw[QaD _ z768l];exact QbF) ?_);simp only[Act.put,QCL,QCQ,QCP];go_big_quiet_on)|(go_big_quiet_step (fail))|(go_big_quiet_want;go_big_quiet_op;refine⟨_,fun _ _=>rfl,?_⟩;go_big_quiet_on))
       refine wpQuiet_nil ?_
       go_wp2_with (first
        | (refine Qbd rfl rfl _ _ rfl (C10.nth 3 rfl) rfl rfl rfl rfl ?_;intro w11 hb11 ho11
           have C11:=C10.write 3 rfl ho11 hb11)
        | fail)
       have S11:=(Spared.refl w9 [w.heap.size+1,w.heap.size+2]).only ho11 (by simp)
       refine⟨S11,?_⟩
       try simp only[QcC,pick,QCD,QCE,QCF,QCJ,QCI]
       repeat (first|(go_big_quiet_step (fail))|(go_big_quiet_want;go_big_quiet_op;refine⟨_,fun _ _=>rfl,?_⟩;go_big_quiet_on))
       refine wpQuiet_nil ?_
       go_wp2_with (first
        | (refine QaY rfl rfl _ _ rfl (C11.nth 2 rfl) rfl rfl z768l rfl hzl ?_;intro w12 hb12 ho12
           have C12:=C11.write 2 rfl ho12 hb12)
        | fail)
       refine⟨S11.only ho12 (by simp),?_⟩
       try simp only[QcC,pick,QCD,QCE,QCF,QCJ,QCI]
       repeat (first|(go_big_quiet_step (fail))|(go_big_quiet_want;go_big_quiet_op;refine⟨_,fun _ _=>rfl,?_⟩;go_big_quiet_on))
       refine wpQuiet_nil ?_
       go_wp2_with fail
       have s7:=QaH (QaH (QaB r7 (Qab w9)) (C10.nth 3 rfl) (by decide) ho11) (C11.nth 2 rfl) (by decide) ho12
       have s8:=QaH (QaH (QaB r8 (Qab w9)) (C10.nth 3 rfl) (by decide) ho11) (C11.nth 2 rfl) (by decide) ho12
       exact bodyPost_ret (Qbl rfl _ _ _ _ _ _ _ _ _ _ (C12.nth 3 rfl) rfl Tryz.underlying25 rfl (by rw[QaM];exact QcN) (C12.nth 2 rfl) rfl Tryz.underlying68 rfl (by rw[QaD _ z768l];exact QbF)) rfl ⟨A8,c8,A4,c4,by rw[hR.out,HC.out,HB.out,HP.out];rfl,by rw[HP.out];exact Qcu s8 C7.lat.size,by rw[HB.out];exact s7,by rw[HP.out,HB.out];exact hbeh,C12.lat⟩
    ·have hne:((FE:Int) != 0)=true:=by simp;omega
     replace hR:=hid (hR.out.trans (if_pos hf0))
     have hr0:RE≠0:=by rw[hR.out];exact hf0
     have HC:RC=cmd0:=by rw[hRC.out,if_neg hr0]
     have HB:RB=[]:=by rw[hRB.out,if_neg hr0]
     have HP:RP=prt0:=by rw[hRP.out,if_neg (fun h=>hr0 h.1)]
     replace HC:=hid HC
     replace HB:=hid HB
     replace HP:=hid HP
     clear hr0
     go_wp2_with (first
      | (refine Qah rfl 25 _ rfl (PaC prt0 (.slice none 0 0)) (by simp only[QCS,QC2];exact hb1) ?_)
      | (refine Qah rfl 68 _ rfl (PC cmd0 z768 nil8) (by simp only[QCS,QC2];exact hb0) ?_)
      | (refine Qbd rfl rfl _ _ rfl (Blk.new w8 _ pz0) rfl rfl rfl rfl ?_;intro w9 hb9 ho9
         have C9:=C8.push (Qaa _ _) (QCN _) ho9 hb9)
      | (refine Qbd rfl rfl _ _ rfl (C9.nth 3 rfl) rfl rfl rfl rfl ?_;intro e7 eb7 eo7
         have E7:=C9.write 3 rfl eo7 eb7)
      | (refine QaY rfl rfl _ _ rfl (E7.nth 2 rfl) rfl rfl z768l rfl hzl ?_;intro e8 eb8 eo8
         have E8:=E7.write 2 rfl eo8 eb8)
      | fail)
     exact bodyPost_ret (Qbl rfl _ _ _ _ _ _ _ _ _ _ (E8.nth 3 rfl) rfl Tryz.underlying25 rfl (by rw[QaM];exact QcN) (E8.nth 2 rfl) rfl Tryz.underlying68 rfl (by rw[QaD _ z768l];exact QbF)) rfl ⟨none,0,none,0,by rw[hR.out,HC.out,HB.out,HP.out];rfl,QdD _ _ (by rw[HP.out];rfl),QdD _ _ HB.out,QdC _ _ _,E8.lat⟩
   ·have hk4y:UC.kd=4:=by simpa using hk4
    replace hR:=hid (hR.out.trans (if_pos hk4y))
    have HC:RC=UC:=by rw[hRC.out,if_pos hR.out]
    have HB:RB=UB:=by rw[hRB.out,if_pos hR.out]
    have HP:RP=prt0:=by rw[hRP.out,if_neg (fun h=>h.2 hk4y)]
    replace HC:=hid HC
    replace HB:=hid HB
    replace HP:=hid HP
    clear hk4y
    have nA:=C7.ne 0 1 rfl rfl (by decide)
    have nB:=C7.ne 0 2 rfl rfl (by decide)
    have C8:=C7.drew
    go_wp2_with fail
    refine Qdp (Spared w7 [w.heap.size+1,w.heap.size+2]) [([0,1],2),([],3)] [4] (by as_aux_lemma=>kernel_rfl) (by as_aux_lemma=>kernel_rfl) (by intro _ _ d _ _ h;cases d<;>exact h) ⟨Spared.refl _ _,?_⟩
    simp only[QcC,pick,QCD,QCE,QCF,QCJ,QCI]
    repeat (first|go_big_quiet_skip|(go_big_quiet_want;(first|refine QbN _ _ rfl (PaC prt0 (.slice none 0 0)) (by simp only[QCS,QC2];exact hb1) ?_|refine Qc4 _ _ rfl 0 (PC UC z768 (.slice A4 UB.length c4)) (C7.nth 0 rfl) (by intro b hb;simp only[QCV,QCW,or_false]at hb;rcases hb with rfl|rfl<;>first|exact nA|exact nB) rfl (QdM _) _ Tryz.underlying68 rfl (by rw[QaD _ z768l];exact QbF) ?_);simp only[Act.put,QCL,QCQ,QCP];go_big_quiet_on)|(go_big_quiet_step (fail))|(go_big_quiet_want;go_big_quiet_op;refine⟨_,fun _ _=>rfl,?_⟩;go_big_quiet_on))
    refine wpQuiet_nil ?_
    go_wp2_with (first
     | (refine Qbd rfl rfl _ _ rfl (C8.nth 2 rfl) rfl rfl rfl rfl ?_;intro w9 hb9 ho9
        have C9:=C8.write 2 rfl ho9 hb9)
     | fail)
    have S9:=(Spared.refl w7 [w.heap.size+1,w.heap.size+2]).only ho9 (by simp)
    refine⟨S9,?_⟩
    try simp only[QcC,pick,QCD,QCE,QCF,QCJ,QCI]
    repeat (first|(go_big_quiet_step (fail))|(go_big_quiet_want;go_big_quiet_op;refine⟨_,fun _ _=>rfl,?_⟩;go_big_quiet_on))
    refine wpQuiet_nil ?_
    go_wp2_with (first
     | (refine QaY rfl rfl _ _ rfl (C9.nth 1 rfl) rfl rfl z768l rfl hzl ?_;intro w10 hb10 ho10
        have C10:=C9.write 1 rfl ho10 hb10)
     | fail)
    refine⟨S9.only ho10 (by simp),?_⟩
    try simp only[QcC,pick,QCD,QCE,QCF,QCJ,QCI]
    repeat (first|(go_big_quiet_step (fail))|(go_big_quiet_want;go_big_quiet_op;refine⟨_,fun _ _=>rfl,?_⟩;go_big_quiet_on))
    refine wpQuiet_nil ?_
    go_wp2_with fail
    have o10:=QaH (QaH (QaB o7 (Qab w7)) (C8.nth 2 rfl) (by decide) ho9) (C9.nth 1 rfl) (by decide) ho10
    exact bodyPost_ret (Qbl rfl _ _ _ _ _ _ _ _ _ _ (C10.nth 2 rfl) rfl Tryz.underlying25 rfl (by rw[QaM];exact QcN) (C10.nth 1 rfl) rfl Tryz.underlying68 rfl (by rw[QaD _ z768l];exact QbF)) rfl ⟨none,0,A4,c4,by rw[hR.out,HC.out,HB.out,HP.out];rfl,QdD _ _ (by rw[HP.out];rfl),by rw[HB.out];exact o10,QdC _ _ _,C10.lat⟩
  ·have hk1y:UC.kd=1:=by simpa using hk1
   replace hR:=hid (hR.out.trans (if_pos hk1y))
   have hr0:RE≠0:=by rw[hR.out];decide
   have HC:RC=cmd0:=by rw[hRC.out,if_neg hr0]
   have HB:RB=[]:=by rw[hRB.out,if_neg hr0]
   have HP:RP=prt0:=by rw[hRP.out,if_neg (fun h=>hr0 h.1)]
   replace HC:=hid HC
   replace HB:=hid HB
   replace HP:=hid HP
   clear hr0
   clear hk1y hBl hlast
   go_wp2_with (first
    | (refine QaY rfl rfl _ _ rfl ((Blk.new w4 _ Tryz.zeroCells68.toList).cast HZ.out) rfl rfl hPl rfl hzl ?_;intro w6 hb6 ho6
       have C6:=C4.push (Qaa _ _) (QCN _) ho6 hb6)
    | (refine QiF rfl _ rfl (C6.nth 0 rfl) rfl ?_)
    | fail)
   (with_reducible refine (Qgt UC _).mono ?_);rintro e w7 ⟨rfl,j7⟩
   rw[hk1]
   have C7:=C6.later j7
   go_wp2_with (first
    | (refine Qah rfl 25 _ rfl (PaC prt0 (.slice none 0 0)) (by simp only[QCS,QC2];exact hb1) ?_)
    | (refine Qah rfl 68 _ rfl (PC cmd0 z768 nil8) (by simp only[QCS,QC2];exact hb0) ?_)
    | (refine Qbd rfl rfl _ _ rfl (C7.nth 2 rfl) rfl rfl rfl rfl ?_;intro e7 eb7 eo7
       have E7:=C7.write 2 rfl eo7 eb7)
    | (refine QaY rfl rfl _ _ rfl (E7.nth 1 rfl) rfl rfl z768l rfl hzl ?_;intro e8 eb8 eo8
       have E8:=E7.write 1 rfl eo8 eb8)
    | fail)
   exact bodyPost_ret (Qbl rfl _ _ _ _ _ _ _ _ _ _ (E8.nth 2 rfl) rfl Tryz.underlying25 rfl (by rw[QaM];exact QcN) (E8.nth 1 rfl) rfl Tryz.underlying68 rfl (by rw[QaD _ z768l];exact QbF)) rfl ⟨none,0,none,0,by rw[hR.out,HC.out,HB.out,HP.out];rfl,QdD _ _ (by rw[HP.out];rfl),QdD _ _ HB.out,QdC _ _ _,E8.lat⟩
 ·have hne:((UE:Int) != 0)=true:=by simp;omega
  replace hR:=hid (hR.out.trans (if_pos h0))
  have hr0:RE≠0:=by rw[hR.out];exact h0
  have HC:RC=cmd0:=by rw[hRC.out,if_neg hr0]
  have HB:RB=[]:=by rw[hRB.out,if_neg hr0]
  have HP:RP=prt0:=by rw[hRP.out,if_neg (fun h=>hr0 h.1)]
  replace HC:=hid HC
  replace HB:=hid HB
  replace HP:=hid HP
  clear hr0
  go_wp2_with (first
   | (refine QaY rfl rfl _ _ rfl ((Blk.new w4 _ Tryz.zeroCells68.toList).cast HZ.out) rfl rfl hPl rfl hzl ?_;intro w6 hb6 ho6
      have C6:=C4.push (Qaa _ _) (QCN _) ho6 hb6)
   | (refine Qah rfl 25 _ rfl (PaC prt0 (.slice none 0 0)) (by simp only[QCS,QC2];exact hb1) ?_)
   | (refine Qah rfl 68 _ rfl (PC cmd0 z768 nil8) (by simp only[QCS,QC2];exact hb0) ?_)
   | (refine Qbd rfl rfl _ _ rfl (C6.nth 2 rfl) rfl rfl rfl rfl ?_;intro w7 hb7 ho7
      have C7:=C6.write 2 rfl ho7 hb7)
   | (refine QaY rfl rfl _ _ rfl (C7.nth 1 rfl) rfl rfl z768l rfl hzl ?_;intro w8 hb8 ho8
      have C8:=C7.write 1 rfl ho8 hb8)
   | fail)
  exact bodyPost_ret (Qbl rfl _ _ _ _ _ _ _ _ _ _ (C8.nth 2 rfl) rfl Tryz.underlying25 rfl (by rw[QaM];exact QcN) (C8.nth 1 rfl) rfl Tryz.underlying68 rfl (by rw[QaD _ z768l];exact QbF)) rfl ⟨none,0,none,0,by rw[hR.out,HC.out,HB.out,HP.out];rfl,QdD _ _ (by rw[HP.out];rfl),QdD _ _ HB.out,QdC _ _ _,C8.lat⟩
theorem QjS {x:List UInt8} {p:Prt} {hs:List Hp} (h:Qgz x p hs=0):prtE p=0∧p.kd≠3∧Qce x (QcB p) (Qbr p) hs=0∧QmY x p hs=QjH x (QcB p) (Qbr p) hs:=by
 rw[Qgz,QbM]at h
 have h1:frmE p=0:=h _ (by simp)
 have h2:Qce x (QcB p) (QdP p) hs=0:=h _ (by simp)
 have hb:QdP p=Qbr p:=by rw[QdP,if_pos h1]
 rw[hb]at h2
 have hp:prtE p=0∧p.kd≠3:=by
  unfold frmE at h1
  split at h1
  ·cases h1
  ·rename_i hn
   exact⟨h1,fun e=>hn ⟨h1,e⟩⟩
 exact⟨hp.1,hp.2,h2,by rw[QmY,hb]⟩
def arrP (p:Prt) (hs:List Hp) (Y:Nat→Y768) (i:Nat):Pel:=⟨QbS (QcB p) hs i,Y (i+1),if i+1<hs.length then [] else Qbr p⟩
theorem Qso {x:List UInt8} {p:Prt} {hs:List Hp} (h:Qgz x p hs=0) (hfit:∀i,i<hs.length→Qbj (hs.getD i hp0).nod.priv.val (nb 9)=(hs.getD i hp0).nod.pub.val):
 ∃Y:Nat→Y768,1≤hs.length∧QmY x p hs=(Y 0).val∧Y hs.length=Qup∧(∀ i,i<hs.length→unwE (hs.getD i hp0).nod.priv.val (Y i).val=0∧unwL (hs.getD i hp0).nod.priv.val (Y i)=arrP p hs Y i∧((QbS (QcB p) hs i).kd=1↔i+1<hs.length)):=by
 obtain⟨_,_,hbe,hsb⟩:=QjS h
 have hz:=hbe
 rw[Qce,QbM]at hz
 have hpe:QeL (QcB p) hs=0:=hz _ (by simp)
 have hb3:(if (Qbr p).length=480 then 0 else 2)=0:=hz _ (by simp)
 have hb:(Qbr p).length=480:=by
  split at hb3
  ·assumption
  ·cases hb3
 obtain⟨_,_,h1,h5,_,_⟩:=QdB hpe
 have hlen:∀i,(pktA hs.length (fun i=>encB (QbS (QcB p) hs i)) (Qcj x (pubH hs)) (Qbr p) i).length=768:=fun i=>(QoY h1 h5 (fun _=>QcH _) (fun _=>Qco _ _ _) hb i).2.2
 refine⟨fun i=>if i<hs.length then ⟨pktA hs.length (fun i=>encB (QbS (QcB p) hs i)) (Qcj x (pubH hs)) (Qbr p) i,hlen i⟩ else Qup,h1,?_,?_,fun i hi=>?_⟩
 ·simp only[if_pos (show 0<hs.length by omega)]
  rw[hsb,QjH]
 ·simp only[if_neg (Nat.lt_irrefl _)]
 ·obtain⟨u1,u2,u3,u4⟩:=Qlb x (QcB p) (Qbr p) hs hbe hfit i hi
  simp only[if_pos hi]
  refine⟨u1,?_,(Qkj hpe hi).2⟩
  rw[unwL,arrP]
  simp only[u2,u4]
  congr 1
  apply Subtype.ext
  rw[unwY]
  simp only[u3]
  split
  ·rfl
  ·rfl
theorem QqW {x:List UInt8} {p:Prt} {b:List UInt8} {hs:List Hp} (h:Qce x (QcB p) b hs=0) (k:Nat) (hk:k<hs.length):
 ((QbS (QcB p) hs k).dl.toNat:Int)=(hs.getD k hp0).delay∧((QbS (QcB p) hs k).fl.toNat:Int)=(hs.getD k hp0).flags∧(QbS (QcB p) hs k).ma=QbE∧(k+1<hs.length→(QbS (QcB p) hs k).nx=(hs.getD (k+1) hp0).nod.id)∧(k+1=hs.length→(QbS (QcB p) hs k).kd=if p.kd=2 then 3 else 2):=by
 rw[Qce,QbM]at h
 obtain⟨_,h2,_,_,_,_⟩:=QdB (show QeL (QcB p) hs=0 from h _ (by simp))
 obtain⟨d1,d2,f1,f2⟩:=Qte (QyT h2 hk)
 have e1:=QgD (hs.getD k hp0).delay d1 (by omega)
 have e2:=Qea (hs.getD k hp0).flags f1 (by omega)
 unfold QbS
 by_cases hl:k+1<hs.length
 ·rw[if_pos hl]
  exact⟨e1,e2,rfl,fun _=>rfl,fun h=>absurd h (by omega)⟩
 ·rw[if_neg hl]
  exact⟨e1,e2,rfl,fun h=>absurd h hl,fun _=>rfl⟩
theorem Qxt {p:Prt} {hs:List Hp} {k:List UInt8} {q:Y768} {Y:Nat→Y768} {i:Nat} (hp:prtE p=0) (h3:p.kd≠3) (h1:unwE k q.val=0) (h2:unwL k q=arrP p hs Y i) (hi:i+1=hs.length):
 recE k q.val=0∧recC k q.val=QbS (QcB p) hs i∧recB k q.val=Qbr p∧recP k q.val=p:=by
 have hC:unwC k q.val=QbS (QcB p) hs i:=congrArg Pel.c h2
 have hB:unwB k q.val=Qbr p:=by
  have:unwB k q.val=if i+1<hs.length then [] else Qbr p:=congrArg Pel.B h2
  rw[this,if_neg (by omega)]
 obtain⟨f1,f2⟩:=QnU p hp
 have hkd:(QbS (QcB p) hs i).kd=if p.kd=2 then 3 else 2:=by
  rw[QbS,if_neg (by omega)]
  rfl
 have hk:=(Qff hp).1
 have hp1:p.kd≠2→p.kd=1:=by
  intro hn
  rcases Qn2 p.kd with e|e|e|e
  ·exact e
  ·exact absurd e hn
  ·exact absurd e h3
  ·exact absurd e hk
 have hE:recE k q.val=0:=by
  rw[recE,if_neg (by simp[h1]),hC,hB,hkd,f1,f2]
  by_cases e:p.kd=2
  ·rw[if_pos e,if_neg (by decide),if_neg (by decide),if_neg (by simp),if_pos rfl,if_neg (by simp[e])]
  ·rw[if_neg e,if_neg (by decide),if_neg (by decide),if_neg (by simp),show (if (2:UInt8)=3 then (2:UInt8) else 1)=1 from rfl,if_neg (by simp[hp1 e])]
 have hk4:(unwC k q.val).kd≠4:=by
  rw[hC,hkd]
  split<;>decide
 exact⟨hE,by rw[recC,if_pos hE,hC],by rw[recB,if_pos hE,hB],by rw[recP,if_pos ⟨hE,hk4⟩,hB,f2]⟩
theorem Qrc (us:List UInt8):Qa2 [] us=2:=by
 unfold Qa2
 rw[if_neg (by simp)]
theorem QwL (p:List UInt8):unwE [] p=2∧unwC [] p=cmd0∧unwP [] p=QCC 768 0∧unwB [] p=[]:=by
 have h:=Qrc (p.take 32)
 refine⟨?_,?_,?_,?_⟩
 ·rw[unwE,if_neg (by omega),h]
 ·rw[unwC,if_neg (by omega)]
 ·rw[unwP,if_neg (by omega)]
 ·rw[unwB,if_neg (by omega)]
section
variable {ops:Array Oper} {o:Oper} {a:Act} {w:World}
end
theorem QtX {k p:List UInt8} (h:unwE k p=0):takE k p []=0:=by
 unfold takE
 rw[if_pos h,if_neg (by simp)]
theorem Qqo {k p:List UInt8} (h:unwE k p=0):takE k p [secY k p]=15:=by
 unfold takE
 rw[if_pos h,if_pos (by simp)]
set_option maxRecDepth 100000 in
set_option maxHeartbeats 4000000 in
theorem QlD (p:Prt) (A B:Option Addr) (n m c d:Nat) (w:World) (hx:RdB w A n p.da) (hy:RdB w B m p.da):
 Calls Tryz.prog 34 #[.agg (PaC p (.slice A n c)).toArray,.agg (PaC p (.slice B m d)).toArray] w fun e w'=>e= .returned (.bool true)∧Later w w':=by
 have C1:=Qba w 25 (PaC p (.slice A n c))
 have C2:=C1.add (Qaa _ (.cells (PaC p (.slice B m d)).toArray 25)) (k:=w.heap.size+1) (by simp) (by omega) (Blk.new' _ _ (PaC p (.slice B m d)) (by simp))
 obtain⟨a0,a1,a2,a3,a4⟩:=Qa5 (C2.nth 1 rfl)
 obtain⟨b0,b1,b2,b3,b4⟩:=Qa5 (C2.nth 0 rfl)
 have u0:=(C2.nth 0 rfl).lt
 have u1:=(C2.nth 1 rfl).lt
 obtain⟨kd,id,ix,ct,da⟩:=p
 simp only at *
 have hEq:=hid (fun w h1 h2=>Qru A B n m c d da da w h1 h2)
 rw[decide_eq_true rfl]at hEq
 go_enter Tryz.func34,Tryz.ntmps34
 go_wp2_with fail
 (refine (hEq.out _ (hx.later C2.lat) (hy.later C2.lat)).mono ?_);rintro e w3 ⟨rfl,rfl⟩
 go_wp2_with fail
 go_ret
 exact⟨by simp,C2.lat⟩
section
variable {ops:Array Oper} {o:Oper} {a:Act} {w:World}
theorem QmP (hw:Region.wanted o (yielded ops a.tmps)=true) (ho:o.op= .alloc 25):
 Makes Tryz.prog ops o (fun g=>.pointer (some ⟨g,0,none⟩)) (.cells pz0.toArray 25) a:=
 ⟨hw,fun w=>by
   unfold execOp
   rw[ho]
   simp[go_sem]⟩
end
theorem QmT:(Tryz.prog.info? 66).map (·.size)=some 20:=by kernel_rfl
theorem QxU:(Tryz.prog.info? 74).map (·.size)=some 66:=by kernel_rfl
set_option maxRecDepth 100000 in
set_option maxHeartbeats 16000000 in
theorem Qj9 (A D H:Option Addr) (nx cx nd cd n ch:Nat) (x:List UInt8) (p:Prt) (hs0:List Hp) (w:World) (hx:RdB w A nx x) (hxc:nx≤cx) (hd:RdB w D nd p.da) (hnd:nd≤1048576) (hh:RdH w H n hs0) (hn:n≤1048576) (hnc:n≤ch):
 Calls Tryz.prog 5 #[.slice A nx cx,.agg (PaC p (.slice D nd cd)).toArray,.slice H n ch] w fun e w'=>e= .returned (.bool true)∧Later w w':=by
 have B0:=Qba w 25 (PaC p (.slice D nd cd))
 have HZ:=hid zcP
 have HZp:=hid zcPe
 have hz0:=hid QgT
 have hzl:(PC cmd0 z768 nil8).length=789:=QaD _ Qat _
 have l0:(QCC 768 (0:UInt8)).length=768:=QCO
 have hU0:=hid (fun w=>Qjp none 0 0 [] (QCC 768 (0:UInt8)) w (QkL w) (by omega) l0)
 obtain⟨q1,q2,q3,q4⟩:=QwL (QCC 768 (0:UInt8))
 rw[q1,q2,q3,q4]at hU0
 clear q1 q2 q3 q4
 have hFw:=hid (fun w h=>Quo H n ch hs0 w h hn hnc)
 have hTw:=hid (fun w h=>QpG p D nd cd w h hnd)
 obtain⟨m,hm⟩:∃m,min n 4=m:=⟨_,rfl⟩
 obtain⟨hs,hhs⟩:∃hs,hs0.take 4=hs:=⟨_,rfl⟩
 rw[hm,hhs]at hFw
 have hm4:m≤4:=by omega
 have hHo:=hid (fun A2 c2 w h=>Qvz A2 m c2 hs w h (by omega))
 have hSn:=hid (fun D2 d2 H2 h2 w h1 hd2 hh2=>Qrs A D2 H2 nx cx nd d2 m h2 x p hs w h1 hxc hd2 hnd hh2 (by omega))
 have hMa:=hid (fun A2 c2 w h=>Qqg A2 m c2 hs w h (by omega))
 have hap:=hid (fun h h2=>Qso (x:=x) (p:=p) (hs:=hs) h h2)
 have hma:=hid (fun h=>Qs2 (hs:=hs) h)
 have hsf:=hid (fun h=>QjS (x:=x) (p:=p) (hs:=hs) h)
 have hsv:Hid (Qgz x p hs=0→sndP x p hs=QmY x p hs):=hid (fun h=>by rw[sndP,if_pos h])
 have hRl:=Qnl x p hs
 generalize sndP x p hs=R at *
 generalize QmY x p hs=SB at *
 generalize Qgz x p hs=E at *
 generalize QCC 768 (0:UInt8)=Z at *
 have l1:(Z.map W8).length=768:=by rw[QCG,l0]
 go_enter Tryz.func5,Tryz.ntmps5
 go_wp2_with (first
  | (refine go_b rfl ?_;refine Qah ?hw 37 _ rfl (Z.map W8) (by simp only[QCS,QC2];exact hz0.out) ?_;(case hw=>rfl))
  | fail)
 (refine (hU0.out _).mono ?_);rintro e w1 ⟨A1,c1,rfl,_,j1⟩
 have B1:=B0.later j1
 go_wp2_with (first
  | (refine Qbg rfl ?_;refine QaY rfl rfl _ _ rfl ((Blk.new w1 _ Tryz.zeroCells68.toList).cast HZp.out) rfl rfl l0 rfl hzl ?_;intro w2 hb2 ho2
     have B2:=B1.push (Qaa _ _) (QCN _) ho2 hb2)
  | fail)
 (refine (hFw.out _ (hh.later B2.lat)).mono ?_);rintro e w3 ⟨A3,c3,rfl,r3,j3⟩
 have B3:=(B2.drop 1 |>.later j3)
 clear B2 hb2 ho2 j1 j3 hFw hh hU0 B1 B0
 go_wp2_with (first
  | (refine go_l rfl ?_;refine QdK rfl _ rfl (B3.nth 0 rfl) rfl ?_)
  | fail)
 (refine (hTw.out _ (hd.later B3.lat)).mono ?_);rintro e w4 ⟨A4,c4,rfl,o4,j4⟩
 have B4:=B3.later j4
 have r4:=r3.later j4
 clear hTw r3 B3
 go_wp2_with fail
 (refine (hHo.out _ _ _ r4).mono ?_);rintro e w5 ⟨A5,c5,rfl,r5,j5⟩
 have B5:=B4.later j5
 go_wp2_with fail
 (refine (hSn.out _ _ _ _ _ (hx.later B5.lat) (OwnB.rd (QaB o4 j5)) r5).mono ?_);rintro e w6 ⟨rfl,j6⟩
 have B6:=B5.later j6
 have r6:=r4.later (j5.trans j6)
 have hd6:=hd.later B6.lat
 clear hHo hSn o4 r4 r5 B4 B5 j4 j5 j6 hx
 by_cases hE:E=0
 case neg=>
  have hne:((E:Int) != 0)=true:=bne_iff_ne.2 (by omega)
  go_wp2_with (first
   | (refine Qbg rfl ?_;refine Qa8 rfl rfl _ _ rfl ((Blk.new w6 _ Tryz.zeroCells37.toList).cast HZ.out) rfl rfl hRl l1 ?_;intro w7 hb7 ho7
      have B7:=B6.push (Qaa _ _) (QCN _) ho7 hb7)
   | fail)
  go_ret
  exact⟨rfl,B7.lat⟩
 subst hE
 have hRS:=hsv.out rfl
 subst hRS
 cases hM:Qgw hs
 ·rw[hM]at hMa
  go_wp2_with (first
   | (refine Qbg rfl ?_;refine Qa8 rfl rfl _ _ rfl ((Blk.new w6 _ Tryz.zeroCells37.toList).cast HZ.out) rfl rfl hRl l1 ?_;intro w7 hb7 ho7
      have B7:=B6.push (Qaa _ _) (QCN _) ho7 hb7
      have r7:=r6.later ((Qaa w6 (.cells Tryz.zeroCells37 37)).only ho7 (QCN _)))
   | fail)
  (refine (hMa.out _ _ _ r7).mono ?_);rintro e w8 ⟨rfl,j8⟩
  go_wp2_with fail
  go_ret
  exact⟨rfl,B7.lat.trans j8⟩
 obtain⟨Y,hm1,hY0,hYn,hY⟩:=hap.out rfl (hma.out hM)
 have hpe:=(hsf.out rfl).1
 have hp3:=(hsf.out rfl).2.1
 have hbe:=(hsf.out rfl).2.2.1
 have hpt:=hid (fun k hk=>QqW hbe k hk)
 clear hYn hbe hsf hap hma hsv
 replace hY:=hid hY
 replace hpe:=hid hpe
 subst hY0
 rw[hM]at hMa
 go_wp2_with (first
  | (refine Qbg rfl ?_;refine Qa8 rfl rfl _ _ rfl ((Blk.new w6 _ Tryz.zeroCells37.toList).cast HZ.out) rfl rfl hRl l1 ?_;intro w7 hb7 ho7
     have B7:=(Bag.none w6).push (Qaa _ _) (QCN _) ho7 hb7
     have r7:=r6.later ((Qaa w6 (.cells Tryz.zeroCells37 37)).only ho7 (QCN _)))
  | fail)
 (refine (hMa.out _ _ _ r7).mono ?_);rintro e w8 ⟨rfl,j8⟩
 have B8:=B7.later j8
 clear B7 r7 hMa hM hb7 ho7 j8
 go_wp2_with fail
 generalize hg9:w6.heap.size=g9 at B8
 have hml:hs.length=m:=r6.1
 rw[hml]at hm1
 go_loopw [48] (fun i wr=>∃k:Nat,k<m∧i= .int .i64 k∧Bag w6 wr [(g9,37,(Y k).val.map W8)]) (fun i _=>m-(intOf i).toNat)
 case atStart=>exact⟨0,by omega,rfl,B8⟩
 case round=>
  clear B8
  obtain⟨k,hk,rfl,B⟩:=hrel
  have hlt:(k:Int)<(m:Int):=by omega
  obtain⟨b,o,rfl,hbb,hc⟩:=(r6.later B.lat).at_ hk
  obtain⟨u1,u2,u3⟩:=hY.out k (by omega)
  obtain⟨t1,t2,_,t4,t5⟩:=hpt.out k (by omega)
  have uC:unwC (hs.getD k hp0).nod.priv.val (Y k).val=QbS (QcB p) hs k:=congrArg Pel.c u2
  have uP:unwP (hs.getD k hp0).nod.priv.val (Y k).val=(Y (k+1)).val:=congrArg (fun e=>e.P.val) u2
  have hyl:(Y k).val.length=768:=(Y k).2
  have hyn:(Y (k+1)).val.length=768:=(Y (k+1)).2
  have hRe:=hid (fun (hjk:k+1=hs.length) A c w h=>by
   have:=Qtl A 32 c (hs.getD k hp0).nod.priv.val (Y k).val w h (by omega) (Y k).2
   obtain⟨r1,r2,r3,r4⟩:=Qxt hpe.out hp3 u1 u2 hjk
   rw[r1,r2,r3,r4]at this
   exact this)
  have hTk:=hid (fun g lv w hb hch=>Qk8 g 0 0 (hs.getD k hp0).nod lv [] (Y k).val w (Y k).2 hb (by omega) hch (Nat.zero_le _))
  have hTk2:=hid (fun g lv w hb hch=>Qk8 g 1 0 (hs.getD k hp0).nod lv [secY (hs.getD k hp0).nod.priv.val (Y k).val] (Y k).val w (Y k).2 hb (by omega) hch (Nat.zero_le _))
  rw[QtX u1,uC,uP]at hTk
  rw[Qqo u1]at hTk2
  clear u1 u2 uC uP
  rw[hml]at t4 t5 u3 hRe
  generalize unwB (hs.getD k hp0).nod.priv.val (Y k).val=UB at *
  generalize secY (hs.getD k hp0).nod.priv.val (Y k).val=SY at *
  generalize QbS (QcB p) hs k=XC at *
  generalize hs.getD k hp0=z at *
  generalize (Y k).val=P at *
  generalize hPN:(Y (k+1)).val=PN at *
  replace hPN:=hid hPN
  have hdl:((XC.dl.toNat:Int) != z.delay)=false:=by rw[t1];simp
  have hfl:((XC.fl.toNat:Int) != z.flags)=false:=by rw[t2];simp
  have hwf:IntKind.i64.wrap (XC.fl.toNat:Int)=(XC.fl.toNat:Int):=by have:=XC.fl.toNat_lt;rw[IntKind.wrap_i64];omega
  obtain⟨lb,hb1,hb2,hb3⟩:∃lb:Bool,((k:Int)+1==(m:Int))=lb∧(XC.kd==1)= !lb∧Hid ((lb=true∧k+1=m)∨(lb=false∧k+1<m)):=by
   by_cases hl':k+1=m
   ·exact⟨true,by simp;omega,by simp only[Bool.not_true,beq_eq_false_iff_ne];intro e;have:=u3.1 e;omega,hid (.inl ⟨rfl,hl'⟩)⟩
   ·exact⟨false,by simp;omega,by simp only[Bool.not_false,beq_iff_eq];exact u3.2 (by omega),hid (.inr ⟨rfl,by omega⟩)⟩
  clear t1 t2 u3
  replace t4:=hid t4
  replace t5:=hid t5
  have hBy:=hid (fun w=>Qo4 PN hyn w)
  have hNe:=hid (fun w=>QuB z.nod w)
  have hPv:=hid (fun w=>Qhv z.nod w)
  have hbd:=hid (QiA z.nod)
  have z768l:=Qat
  replace hc:=hid hc
  have hzz:Tryz.zeroCells76.toList.length=68:=by kernel_rfl
  replace hzz:=hid hzz
  go_wp2_with (first
   | (refine go_l rfl ?_;refine Qay rfl 76 _ rfl b (o+k*68) (HC z) hc.out rfl _ Tryz.underlying76 rfl (by rw[Qa6];exact QgY) ?_)
   | (refine Qbg rfl ?_;refine QaJ rfl rfl 76 _ _ rfl wr.heap.size _ _ (HC z) (Blk.new wr _ Tryz.zeroCells76.toList) rfl rfl 68 QgY (Qa6 _) hzz.out (QoT _) ?_;intro w3 hb3' ho3
      have C3:=B.push (Qaa _ _) (QCN _) ho3 hb3')
   | (refine go_l rfl ?_;refine Qay ?hw 74 _ rfl wr.heap.size 0 (NC z.nod) (fun j v hv=>by rw[QC6];exact (C3.nth 0 rfl).cellD _ (Qin z hv)) rfl _ Tryz.underlying74 rfl (by rw[Qaw];exact QxU) ?_;(case hw=>rfl))
   | (refine go_b rfl ?_;refine Qah ?hw 86 _ rfl (NC z.nod) (by simp only[QCS,QDa,QC2];exact hbd.out) ?_;(case hw=>rfl))
   | fail)
  (refine (hNe.out _).mono ?_);rintro e w4 ⟨g,rfl,hg,hb4,j4⟩
  have C4:Bag w6 w4 [(g,94,LC z.nod (.pointer none) ((0:Nat):Int)),(wr.heap.size,76,HC z),(g9,37,P.map W8)]:=C3.fresh j4 hg hb4
  clear C3 ho3 hb3' hb4 hg j4 hNe hbd
  go_wp2_with (first
   | (refine go_l rfl ?_;refine QeM rfl _ rfl (C4.nth 2 rfl) hyl rfl ?_)
   | fail)
  (refine (hTk.out g (.pointer none) w4 (C4.nth 0 rfl) rfl).mono ?_)
  rintro e w5 (⟨_,A5,c5,lv,rfl,_,hb5,hch5,ho5⟩|⟨hno,_⟩)
  rotate_left
  ·exact absurd rfl hno
  have C5:Bag w6 w5 [(g,94,LC z.nod lv ((1:Nat):Int)),(wr.heap.size,76,HC z),(g9,37,P.map W8)]:=C4.write 0 rfl ho5 hb5
  have hnb:Blk (w5.alloc (.cells Tryz.zeroCells68 68)) w5.heap.size 68 Tryz.zeroCells68.toList:=Blk.new w5 _ _
  have hch6:=hch5.later (Qaa w5 (.cells Tryz.zeroCells68 68))
  clear C4 hb5 ho5 hch5 hTk
  go_wp2_with (first
   | (refine Qbg rfl ?_;refine QaY rfl rfl _ _ rfl ((Blk.new w5 _ Tryz.zeroCells68.toList).cast HZp.out) rfl rfl hyn rfl hzl ?_;intro w7 hb7 ho7
      have C6:=C5.push (Qaa _ _) (QCN _) ho7 hb7)
   | fail)
  have hch7:=(Chain.only hnb (by decide) ho7 hch6).later (Qab _)
  have C7:=C6.drew
  clear C5 C6 hnb hch6 ho7 hb7
  have d66:=(C7.nth 2 rfl).cellD 66 (Qgj z)
  have d67:=(C7.nth 2 rfl).cellD 67 (QgG z)
  have m1:=(C7.nth 0 rfl).cellD 1 (by have:=Qew XC PN (.slice A5 UB.length c5) 1 _ rfl;rwa [QC6]at this)
  have y0:=(C7.nth 0 rfl).lt
  have y1:=(C7.nth 1 rfl).lt
  have y2:=(C7.nth 2 rfl).lt
  refine Qag [([0,1,2,3],4),([5,6,7,8,9,11,12],10),([13,14,15,16,17,18,19,20,21,22,23,24,25,26,27,29,30,31,32,33],28)] [34,35] [] (by as_aux_lemma=>kernel_rfl) (by as_aux_lemma=>kernel_rfl) (by intro _ _ d _ _ h;cases d<;>exact h) ?_
  simp only[Qai,pick,QCD,QCE,QCF,QCJ,QCI]
  repeat (go_big_quiet_step (fail))
  refine wpQuiet_nil ?_
  go_wp2_with fail
  (refine (Qpn g _ z.nod lv ((1:Nat):Int) _ (C7.nth 1 rfl)).mono ?_);rintro e w8 ⟨rfl,j8⟩
  have C8:=C7.later j8
  have hch8:=hch7.later j8
  clear d66 d67 m1 y0 y1 y2
  have d66:=(C8.nth 2 rfl).cellD 66 (Qgj z)
  have y2:=(C8.nth 2 rfl).lt
  go_wp2_with fail
  try refine⟨by first|assumption|exact Qab _|exact Qaa _ _|exact Later.refl _,?_⟩
  try simp only[Qai,pick,QCD,QCE,QCF,QCJ,QCI]
  repeat (first|go_big_quiet_skip|(go_big_quiet_want;(refine Qcp _ _ rfl 0 (CC XC) (C8.nth 0 rfl) rfl (Qew _ _ _) _ Tryz.underlying66 rfl (by rw[Qan];exact QmT) ?_);simp only[Act.put,QCL,QCQ,QCP];go_big_quiet_on)|(go_big_quiet_step (fail)))
  refine wpQuiet_nil ?_
  go_wp2_with fail
  (with_reducible refine (Qun XC _).mono ?_);rintro e w9 ⟨rfl,j9⟩
  have C9:=C8.later j9
  have hch9:=hch8.later j9
  clear d66 y2
  have d67:=(C9.nth 2 rfl).cellD 67 (QgG z)
  have m1:=(C9.nth 0 rfl).cellD 1 (by have:=Qew XC PN (.slice A5 UB.length c5) 1 _ rfl;rwa [QC6]at this)
  have y0:=(C9.nth 0 rfl).lt
  have y2:=(C9.nth 2 rfl).lt
  go_wp2_with fail
  try refine⟨by first|assumption|exact Qab _|exact Qaa _ _|exact Later.refl _,?_⟩
  try simp only[Qai,pick,QCD,QCE,QCF,QCJ,QCI]
  repeat (first|go_big_quiet_skip|(go_big_quiet_want;(refine Qcp _ _ rfl 0 (CC XC) (C9.nth 0 rfl) rfl (Qew _ _ _) _ Tryz.underlying66 rfl (by rw[Qan];exact QmT) ?_);simp only[Act.put,QCL,QCQ,QCP];go_big_quiet_on)|(go_big_quiet_step (fail)))
  refine wpQuiet_nil ?_
  go_wp2_with fail
  (with_reducible refine (Qgt XC _).mono ?_);rintro e wX ⟨rfl,j10⟩
  rw[hb2]
  have CX:=C9.later j10
  have hchX:=hch9.later j10
  clear d67 m1 y0 y2 C7 C8 C9 hch7 hch8 hch9
  go_wp2_with fail
  try refine⟨by first|assumption|exact Qab _|exact Qaa _ _|exact Later.refl _,?_⟩
  try simp only[Qai,pick,QCD,QCE,QCF,QCJ,QCI]
  repeat (go_big_quiet_step (fail))
  refine wpQuiet_nil ?_
  go_wp2_with (first
   | (refine go_l rfl ?_;refine QeM rfl _ rfl (CX.nth 3 rfl) hyl rfl ?_)
   | fail)
  (refine (hTk2.out g lv _ (CX.nth 1 rfl) hchX).mono ?_)
  rintro e v1 (⟨h15,_⟩|⟨_,rfl,_,_,i1⟩)
  ·exact absurd h15 (by decide)
  have D1:=CX.later i1
  clear CX hchX hTk2 i1
  go_wp2_with (first
   | (refine Qbg rfl ?_;refine QaY rfl rfl _ _ rfl ((Blk.new v1 _ Tryz.zeroCells68.toList).cast HZp.out) rfl rfl z768l rfl hzl ?_;intro v2 hs2 ho2
      have D2:=D1.push (Qaa _ _) (QCN _) ho2 hs2)
   | (refine go_l rfl ?_;refine Qay ?hw _ _ rfl w5.heap.size 0 (CC XC) (fun j v hv=>(D2.nth 1 rfl).cellD _ (Qew _ _ _ j v hv)) rfl _ Tryz.underlying66 rfl (by rw[Qan];exact QmT) ?_;(case hw=>rfl))
   | fail)
  (with_reducible refine (Qgt XC _).mono ?_);rintro e v3 ⟨rfl,i3⟩
  rw[hb2]
  have D3:=D2.later i3
  clear D1 D2 hs2 ho2 i3
  rcases hb3.out with ⟨rfl,hjk⟩|⟨rfl,hjk⟩
  ·replace hRe:=hid (hRe.out hjk)
   replace t5:=t5.out hjk
   clear t4 hBy hlt hb1 hb3
   go_wp2_with fail
   have D4:=D3.drew
   clear D3
   refine Qaz [0,1,2,3,5] [([],1,4),([],1,6),([7,8,9,10],2,11),([],2,12)] [] [13,14,15] [11,12] (fun i=>if i=11 then (fun g=>.pointer (some ⟨g,0,none⟩),.cells pz0.toArray 25) else (fun g=>.pointer (some ⟨g,0,none⟩),.cells Tryz.zeroCells68 68)) (by as_aux_lemma=>kernel_rfl) (by as_aux_lemma=>kernel_rfl) (by intro _ _ d _ _ h;cases d<;>exact h) (by intro _ _ d _ _ h;cases d<;>exact h) ?_
   simp only[pick,QCD,QCE,QCF,QCJ,QCI]
   repeat (first|go_big_quiet_skip|(go_big_quiet_want;(first|refine QgH 0 768 _ rfl (D4.nth 4 rfl) rfl Tryz.underlying37 rfl Qcb (QhJ _ _ hyl) hyl ?_|refine QmU _ rfl (fun i v hv=>(D4.nth 2 rfl).cellD _ (Qwm _ _ _ hv)) (D4.nth 2 rfl).lt rfl ?_);simp only[Act.put,QCL,QCQ,QCP];go_big_quiet_on)|(go_big_quiet_step (fail)))
   refine wpQuiet_nil ?_
   refine⟨?mk,?_⟩
   case mk=>
    refine⟨fun o ho=>?_,fun o ho=>?_,trivial⟩
    all_goals
     simp only[QCD,QCE,Option.some.injEq]at ho
     subst ho
    ·exact QmP rfl rfl
    ·exact Qqc rfl rfl
   simp only[Qbn,pick,QCD,QCE,QCF,QCJ,QCI,reduceIte,QDU]
   refine wpQuiet_nil ?_
   intro m1 i1
   go_wp2_with fail
   (refine (hPv.out _).mono ?_);rintro e m2 ⟨g2,rfl,_,hv2,i2⟩
   go_wp2_with fail
   try refine⟨by first|assumption|exact Qab _|exact Qaa _ _|exact Later.refl _,?_⟩
   try simp only[Qai,pick,QCD,QCE,QCF,QCJ,QCI]
   repeat (go_big_quiet_step (fail))
   refine wpQuiet_nil ?_
   intro m3 i3
   go_wp2_with fail
   (refine (hRe.out _ _ _ (RdB.later (Qb9 hv2 z.nod.priv.2) i3)).mono ?_);rintro e m4 ⟨B1,d1,B2,d2,rfl,q1,q2,_,i4⟩
   go_wp2_with fail
   try refine⟨by first|assumption|exact Qab _|exact Qaa _ _|exact Later.refl _,?_⟩
   try simp only[Qai,pick,QCD,QCE,QCF,QCJ,QCI]
   repeat (go_big_quiet_step (fail))
   refine wpQuiet_nil ?_
   intro m5 ga i5 hga _ hba
   refine wpQuiet_nil ?_
   intro m6 gb i6 hgb hnb hbb
   refine wpQuiet_nil ?_
   intro m7 i7
   simp only[Act.put,QCL,QCQ,QCP]
   have hne:ga≠gb:=fun e=>hnb (.inl e.symm)
   have hX:Blk m7 ga 25 pz0:=Blk.later (show Blk m5 ga _ _ from hba) (i6.trans i7)
   have hY7:Blk m7 gb 68 (PC cmd0 z768 nil8):=(Blk.later (show Blk m6 gb _ Tryz.zeroCells68.toList from hbb) i7).cast HZp.out
   have ii:=((i1.trans i2).trans (i3.trans i4)).trans ((i5.trans i6).trans i7)
   have r1:=QaB q1 ((i5.trans i6).trans i7)
   have gla:v3.drew.heap.size≤ga:=by have:=hga;simpa using this
   have glb:v3.drew.heap.size≤gb:=by have:=hgb;simpa using this
   have Da:=D4.add ii (k:=ga) (fun p hp e=>by have:=(D4.blk p hp).lt;omega) (by have:=D4.lat.size;omega) hX
   have Db:=Da.add (Later.refl m7) (k:=gb) (fun p hp e=>by
    rcases QCV.1 hp with rfl|hp
    ·exact hne e.symm
    ·have:=(D4.blk p hp).lt
     omega) (by have:=D4.lat.size;omega) hY7
   clear hba hbb i1 i2 i3 i4 i5 i6 i7 hnb q1 q2 Da ii hX hY7 hv2 D4 gla glb hga hgb
   obtain⟨f1,f2,hvk⟩:∃f1:Bool,(XC.kd==3)=f1∧(p.kd==2)=f1:=by
    by_cases h2:p.kd=2
    ·exact⟨true,by rw[t5,if_pos h2];rfl,by simp[h2]⟩
    ·exact⟨false,by rw[t5,if_neg h2];rfl,by simp[h2]⟩
   clear t5
   go_wp2_with (first
    | (refine Qbg rfl ?_;refine Qbd rfl rfl _ _ rfl (Db.nth 1 rfl) rfl rfl rfl rfl ?_;intro m8 hb8 ho8
       have Dc:=Db.write 1 rfl ho8 hb8
       have p1:=QaH r1 (Db.nth 1 rfl) (by decide) ho8)
    | (refine Qbg rfl ?_;refine QaY rfl rfl _ _ rfl (Dc.nth 0 rfl) rfl rfl z768l rfl hzl ?_;intro m9 hb9 ho9
       have Dd:=Dc.write 0 rfl ho9 hb9
       have p2:=QaH p1 (Dc.nth 0 rfl) (by decide) ho9
       have Be:=B6.later Dd.lat)
    | (refine go_l rfl ?_;refine QdK rfl _ rfl (Dd.nth 1 rfl) rfl ?_)
    | (refine go_l rfl ?_;refine QdK rfl _ rfl (Be.nth 0 rfl) rfl ?_)
    | fail)
   (refine (QlD p B1 D _ nd d1 cd _ (QjK p2) (hd6.later Dd.lat)).mono ?_);rintro e wa ⟨rfl,ja⟩
   have De:=Dd.later ja
   have Bf:=Be.later ja
   have c0:=(De.nth 3 rfl).cellD 0 (by have:=Qew XC PN (.slice A5 UB.length c5) 0 _ rfl;rwa [QC6]at this)
   have p0:=(Qa5 (Bf.nth 0 rfl)).1
   have l3:=(De.nth 3 rfl).lt
   have l4:=(Bf.nth 0 rfl).lt
   go_wp2_with fail
   go_ret
   exact⟨by simp,Bf.lat⟩
  ·have D4:=D3.drew
   obtain⟨b2,o2,hbo,hbh2,hch2⟩:=(r6.later D4.lat).at_ (k:=k+1) (by omega)
   obtain⟨rfl,rfl⟩:b=b2∧o=o2:=by simpa using hbo
   have x1:v3.drew.cell? ⟨b,o+(k+1)*68+1,none⟩=some (W64 (hs.getD (k+1) hp0).nod.id):=hch2 1 _ (Qin _ rfl)
   rw[←t4.out (by omega)]at x1
   have k3:=(D4.nth 1 rfl).cellD 3 (by have:=Qew XC PN (.slice A5 UB.length c5) 3 _ rfl;rwa [QC6]at this)
   have y1:=(D4.nth 1 rfl).lt
   have ej:((k:Int)+1).toNat=k+1:=by omega
   have hjk':(k:Int)+1<(m:Int):=by omega
   clear hch2 hbo hRe hPv t4 t5 hb1 hb3 D3
   go_wp2_with fail
   refine Qag [([0,1,2,3,4,5,6,7,8,9,10,11,12,13,14],15)] [16,17,18] [] (by as_aux_lemma=>kernel_rfl) (by as_aux_lemma=>kernel_rfl) (by intro _ _ d _ _ h;cases d<;>exact h) ?_
   simp only[Qai,pick,QCD,QCE,QCF,QCJ,QCI]
   repeat (first|go_big_quiet_skip|(go_big_quiet_want;(refine Qcp _ _ rfl 20 (PN.map W8) (D4.nth 1 rfl) rfl (Qww _ _ _) _ Tryz.underlying37 rfl (by rw[QCG,hyn];exact Qcb) ?_);simp only[Act.put,QCL,QCQ,QCP];go_big_quiet_on)|(go_big_quiet_step (fail)))
   refine wpQuiet_nil ?_
   go_wp2_with fail
   (refine (hBy.out _).mono ?_);rintro e wa ⟨Aa,ca,rfl,_,ja⟩
   have D5:=D4.later ja
   have lY:(P.map W8).length=768:=by rw[QCG,hyl]
   clear x1 k3 y1 D4
   go_wp2_with fail
   try refine⟨by first|assumption|exact Qab _|exact Qaa _ _|exact Later.refl _,?_⟩
   try simp only[Qai,pick,QCD,QCE,QCF,QCJ,QCI]
   repeat (go_big_quiet_step (fail))
   refine wpQuiet_nil ?_
   go_wp2_with (first
    | (refine go_l rfl ?_;refine Qay ?hw _ _ rfl w5.heap.size 20 (PN.map W8) (fun j v hv=>(D5.nth 1 rfl).cellD _ (Qww _ _ _ _ _ hv)) rfl _ Tryz.underlying37 rfl (by rw[QCG,hyn];exact Qcb) ?_;(case hw=>rfl))
    | (refine Qbg rfl ?_;refine Qa8 rfl rfl _ _ rfl (D5.nth 4 rfl) rfl rfl hyn lY ?_;intro wb hbb' hob
       have D6:=D5.write 4 rfl hob hbb')
    | fail)
   have D7:=D6.drop 4
   exact⟨⟨k+1,hjk,by go_num,by rw[hPN.out];exact D7⟩,by simp[intOf];omega⟩
end Go.Proofs.YtdhgpkdjdmlphaaGreat
