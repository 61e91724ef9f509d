/-
  Lemmas for the last text of this claim (part 20 of 20).
-/
import Derived.ArgAppend
import Derived.BigQuiet
import Derived.BigRegion
import Derived.ChangeOld
import Derived.Deep.RegionWith
import Derived.DeepKeys4
import Derived.JoinedCond
import Derived.LaidMore
import Derived.Laws.BytesArg
import Derived.Laws.CopyOwn
import Derived.Laws.Externs
import Derived.Laws.IdiomStrings
import Derived.Laws.Tables
import Derived.Lib.AppendStr
import Derived.Lib.AppendZerosOnto
import Derived.Lib.Mul64
import Derived.Lib.SlBytesConst
import Derived.LoopN
import Derived.Maps.OwnSet
import Derived.OpenShut
import Derived.OrdersHeld
import Derived.ProofKit
import Derived.Shelf.Spec.BitsCarry
import Derived.ShutString
import Derived.Test.YtdhgpkdjdmlphaaGreatProg
import Derived.Test.YtdhgpkdjdmlphaaGreatRows
import Derived.WalkKit
import Derived.WalkLawsBesides
import Derived.WalkSpells
import Derived.Test.YtdhgpkdjdmlphaaGreatPP
import Derived.Test.YtdhgpkdjdmlphaaGreatPQ
import Derived.Test.YtdhgpkdjdmlphaaGreatPS
open List renaming replicate → Qym, length_map → Qyn, getElem?_cons_succ → Qyo, getElem?_cons_zero → Qyp, nil_append → Qyt, cons_append → Qyu, length_append → Qyv, take_of_length_le → Qyx, length_replicate → Qyy, setIfInBounds_toArray → QyD, set_cons_zero → QyI, map_toArray → QyK, set_cons_succ → QyM, map_cons → QyT, map_nil → QyU, map_replicate → Qy4, mem_map → Qzb, take_append_of_le_length → Qzf, drop_zero → Qzn
open Nat renaming le_refl → Qyw, add_zero → QzO, zero_mul → Qz6
open Option renaming toList_some → Qyr
set_option linter.all false
namespace Go.Proofs.YtdhgpkdjdmlphaaGreat
open Go.RowKit
open Go.BigFrame
theorem QsW (p:Prt):prtE p≤3:=by
 unfold prtE
 split
 ·omega
 ·split
  ·omega
  ·split
   ·omega
   ·split
    ·omega
    ·split<;>omega
def Qei (p:Prt):List UInt8:=if prtE p=0 then QcN p else Qym 480 0
theorem Qd4 (p:Prt):(Qei p).length=480:=by
 unfold Qei
 split
 ·rename_i h
  exact QbV p (Qdw h).2.1
 ·exact Qyy
theorem Qgr (p:Prt):(Qfm p).length=480:=by
 unfold Qfm
 split
 ·rename_i h
  have h0:prtE p=0:=by
   unfold frmE at h
   split at h
   ·cases h
   ·exact h
  exact QbV p (Qdw h0).2.1
 ·exact Qyy
theorem QmU (e b:Nat):Qbe [0,e,b]=Qbe [e,b]:=rfl
theorem QkA (b:Nat):Qbe [3,0,b]=Qbe [3,b]:=rfl
theorem Qkp (e b:Nat) (h0:e≠0) (h:e≤3):Qbe [3,e,b]=Qbe [e,b]:=by
 have h1:(if e≠0∧((3:Nat)=0∨e<3) then e else 3)=(if e≠0∧((0:Nat)=0∨e<0) then e else 0):=by
  rw[if_pos (show e≠0∧((0:Nat)=0∨e<0) from ⟨h0,.inl rfl⟩)]
  split<;>omega
 show (if b≠0∧((if e≠0∧((3:Nat)=0∨e<3) then e else 3)=0∨b<(if e≠0∧((3:Nat)=0∨e<3) then e else 3)) then b else (if e≠0∧((3:Nat)=0∨e<3) then e else 3))=(if b≠0∧((if e≠0∧((0:Nat)=0∨e<0) then e else 0)=0∨b<(if e≠0∧((0:Nat)=0∨e<0) then e else 0)) then b else (if e≠0∧((0:Nat)=0∨e<0) then e else 0))
 rw[h1]
theorem QpX (p:Prt) (b:Nat):Qbe [if p.kd=3 then 3 else 0,prtE p,b]=Qbe [frmE p,b]:=by
 unfold frmE
 by_cases h3:p.kd=3
 ·rw[if_pos h3]
  by_cases h0:prtE p=0
  ·rw[if_pos ⟨h0,h3⟩,h0,QkA]
  ·rw[if_neg (fun h=>h0 h.1),Qkp _ _ h0 (QsW p)]
 ·rw[if_neg h3,if_neg (fun h=>h3 h.2),QmU]
theorem Qmo (x:List UInt8) (c:Cmd) {b1 b2:List UInt8} (hs:List Hp) (h:b1.length=b2.length):Qb6 x c b1 hs=Qb6 x c b2 hs:=by rw[Qb6,Qb6,h]
noncomputable def sndP (x:List UInt8) (p:Prt) (hs:List Hp):List UInt8:=if Qga x p hs=0 then QvP x p hs else Qym 768 0
theorem QfF (x:List UInt8) (p:Prt) (hs:List Hp):Qga x p hs=Qbe [if p.kd=3 then 3 else 0,prtE p,Qb6 x (QeX p) (Qei p) hs]∧(Qga x p hs=0→sndP x p hs=bldP x (QeX p) (Qei p) hs):=by
 have hb:=Qmo x (QeX p) hs ((Qgr p).trans (Qd4 p).symm)
 have h1:Qga x p hs=Qbe [frmE p,Qb6 x (QeX p) (Qei p) hs]:=by rw[Qga,hb]
 refine⟨by rw[QpX,h1],fun h=>?_⟩
 have h2:=h
 rw[h1,QbC]at h2
 have f0:frmE p=0:=h2 _ (by simp)
 have b0:Qb6 x (QeX p) (Qei p) hs=0:=h2 _ (by simp)
 have p0:prtE p=0:=by
  unfold frmE at f0
  split at f0
  ·cases f0
  ·exact f0
 rw[sndP,if_pos h,bldP,if_pos b0,QvP,Qfm,if_pos f0,Qei,if_pos p0]
theorem QnY (p:Prt):∃(KD:UInt8) (KE:Nat),(KD=2∨KD=3)∧QeX p=lcK KD∧(if p.kd=3 then 3 else 0)=KE∧(((p.kd==2)=true∧(p.kd==3)=false∧KD=3∧KE=0)∨((p.kd==2)=false∧(p.kd==3)=true∧KD=2∧KE=3)∨((p.kd==2)=false∧(p.kd==3)=false∧KD=2∧KE=0)):=by
 by_cases h2:p.kd=2
 ·exact⟨3,0,.inr rfl,by rw[QeX,if_pos h2];rfl,by rw[h2];rfl,.inl ⟨by rw[h2];rfl,by rw[h2];rfl,rfl,rfl⟩⟩
 ·by_cases h3:p.kd=3
  ·exact⟨2,3,.inl rfl,by rw[QeX,if_neg h2];rfl,if_pos h3,.inr (.inl ⟨by rw[h3];rfl,by rw[h3];rfl,rfl,rfl⟩)⟩
  ·exact⟨2,0,.inl rfl,by rw[QeX,if_neg h2];rfl,if_neg h3,.inr (.inr ⟨beq_eq_false_iff_ne.2 h2,beq_eq_false_iff_ne.2 h3,rfl,rfl⟩)⟩
theorem Qhh (x:List UInt8) (c:Cmd) {body:List UInt8} (hs:List Hp) (hb:body.length=480):(bldP x c body hs).length=768:=by
 unfold bldP
 split
 ·rename_i h
  rw[Qb6,QbC]at h
  obtain⟨_,_,hn1,hn5,_,_⟩:=Qeo (h (Qeb c hs) (by simp))
  rw[Qi9,pktA,Qyv,QcP (Qba x (pubH hs)) hb,hdrA,Qyv,Qyv,QdA (Qba x (pubH hs) _),Qce hn1 hn5 (fun k=>QcO _),tagA,QbA]
 ·exact Qyy
theorem Qmv (k:UInt8):Tryz.prog.built 64 [(0,W8 k)]=some (CC (lcK k)).toArray:=by
 rw[Qc9 (pl:=[(0,1),(1,1),(2,1),(3,1),(4,16)]) Tryz.underlying64 Qw6 (by kernel_rfl),QcL (vs:=[W8 k]) (off:=0) rfl rfl (by rw[QaR];simp),Qgm]
 rfl
set_option maxRecDepth 100000 in
set_option maxHeartbeats 16000000 in
theorem Qpa (A D H:Option Addr) (nx cx nd cd n ch:Nat) (x:List UInt8) (p:Prt) (hs:List Hp) (w:World) (hx:RdB w A nx x) (hxc:nx≤cx) (hnx:nx≤1048576) (hd:RdB w D nd p.da) (hnd:nd≤1048576) (hh:RdH w H n hs) (hn:n≤1048576):
 Calls Tryz.prog 10 #[.slice A nx cx,.agg (PaC p (.slice D nd cd)).toArray,.slice H n ch] w fun e w'=>e= .returned (.tuple #[.agg ((sndP x p hs).map W8).toArray,.int .i64 (Qga x p hs:Nat)])∧Later w w':=by
 have l0:(Qym 768 (0:UInt8)).length=768:=Qyy
 have B0:=(Qbi w 25 (PaC p (.slice D nd cd))).fresh (Qaa _ (.cells Tryz.zeroCells37 37)) (Qyw _) ((Blk.new (w.alloc (.cells (PaC p (.slice D nd cd)).toArray 25)) _ Tryz.zeroCells37.toList).cast zcP)
 have hsz:(w.alloc (.cells (PaC p (.slice D nd cd)).toArray 25)).heap.size=w.heap.size+1:=by simp only[World.alloc,Array.size_push]
 have hs2:((w.alloc (.cells (PaC p (.slice D nd cd)).toArray 25)).alloc (.cells Tryz.zeroCells37 37)).heap.size=w.heap.size+1+1:=by simp only[World.alloc,Array.size_push]
 have hCb:=Blk.new ((w.alloc (.cells (PaC p (.slice D nd cd)).toArray 25)).alloc (.cells Tryz.zeroCells37 37)) 64 cz0
 rw[hsz]at B0
 rw[hs2]at hCb
 clear hsz
 have HZ:=hid zcP
 have hz0:=hid Qfw
 have hbc:=hid Qmv
 have hFr:=hid (fun w h=>QmR p D nd cd w h hnd)
 obtain⟨KD,KE,hKD2,hsc,hKE,hcs⟩:=QnY p
 obtain⟨hE,hRB⟩:=QfF x p hs
 rw[hsc,hKE]at hE
 rw[hsc]at hRB
 have hR:Hid (Qga x p hs≠0→sndP x p hs=Qym 768 0):=hid (fun h=>by rw[sndP,if_neg h])
 have hFq:Hid (prtE p=0→frmR p=Qei p):=hid (fun h=>by rw[frmR,if_pos h,Qei,if_pos h])
 have hFz:Hid (prtE p≠0→Qei p=Qym 480 0):=hid (fun h=>by rw[Qei,if_neg h])
 have hql:=Qd4 p
 have hBu:=hid (fun Bs cb w h1 h2 hc h3=>Qnc KD hKD2 A Bs H nx cx 480 cb n ch x (Qei p) hs w h1 hxc hnx h2 hc (by omega) h3 hn)
 have hBl:(bldP x (lcK KD) (Qei p) hs).length=768:=by
  exact Qhh x (lcK KD) hs hql
 have hz8:Hid (Qym 480 (Value.int .u8 0)=(Qym 480 (0:UInt8)).map W8):=hid (by rw[Qy4];rfl)
 clear hKE hsc hKD2
 replace hE:=hid hE
 replace hRB:=hid hRB
 generalize frmR p=FR at *
 generalize Qei p=SQ at *
 generalize sndP x p hs=R at *
 generalize Qga x p hs=E at *
 generalize prtE p=PE at *
 generalize Qb6 x (lcK KD) SQ hs=BE at *
 generalize bldP x (lcK KD) SQ hs=BR at *
 generalize Qym 768 (0:UInt8)=Z at *
 have l1:(Z.map W8).length=768:=by rw[Qyn,l0]
 go_enter Tryz.func10,Tryz.ntmps10
 rcases hcs with ⟨h2,h3,rfl,rfl⟩|⟨h2,h3,rfl,rfl⟩|⟨h2,h3,rfl,rfl⟩
 ·go_wp2_with (first
   | (refine go_b rfl ?_;refine Qao ?hw 64 _ rfl (CC (lcK 2)) (by simp only[QyK,QyT,QyU];exact hbc.out 2) ?_;(case hw=>rfl))
   | (refine Qa1 rfl ?_;refine QfN rfl rfl _ _ rfl hCb rfl rfl rfl ?_;intro w3 hb3 ho3
      have B3:=B0.push (Qaa _ _) (Nat.le_of_eq hs2) ho3 hb3
      have kc3:=(QaD (B3.nth 2 rfl)).1
      have hl3:=(B3.nth 2 rfl).lt)
   | (refine Qa1 rfl ?_;refine Qae rfl rfl _ _ _ rfl _ 0 _ _ hb3 rfl (by rw[QaR];omega) rfl (by kernel_rfl) ?_;intro v4 w4 hv4 hb4 ho4;simp[go_sem]at hv4;subst hv4
      replace hb4:Blk w4 _ 64 (CC (lcK 3)):=hb4
      have B4:=B3.write 0 rfl ho4 hb4
      have kc4:=(QaD (B4.nth 2 rfl)).1
      have hl4:=(B4.nth 2 rfl).lt)
   | (refine go_l rfl ?_;refine Qed rfl _ rfl (B4.nth 2 rfl) rfl ?_)
   | fail)
  (refine (hFr.out _ (hd.later B4.lat)).mono ?_);rintro e w5 ⟨A1,c1,rfl,o1,j1⟩
  have B5:=B4.later j1
  have hBc:=hid (fun v=>hBu.out A1 c1 v)
  have hls:=hid (fun g (w:World) h=>Qdx (some ⟨g,0,none⟩) 3 3 [0,PE,BE] w h (by omega))
  rw[←hE.out]at hls
  by_cases hp0:PE=0
  ·subst hp0
   have hFv:=hFq.out rfl
   subst hFv
   rw[hql]at o1 ⊢
   go_wp2_with (first
    | (refine go_l rfl ?_;refine QcC rfl _ rfl (B5.nth 0 rfl) rfl ?_)
    | fail)
   (refine (hBc.out _ (hx.later B5.lat) (OwnB.rd o1) (OwnB.cap o1) (hh.later B5.lat)).mono ?_);rintro e w6 ⟨rfl,j6⟩
   have B6:=B5.later j6
   clear hBu hBc hFr hx hh hd B3 B5
   go_wp2_with (first
    | (refine Qa1 rfl ?_;refine QaJ rfl rfl _ _ rfl ((Blk.new w6 _ Tryz.zeroCells37.toList).cast HZ.out) rfl rfl hBl l1 ?_;intro w7 hb7 ho7
       have B7:=B6.push (Qaa _ _) (Qyw _) ho7 hb7)
    | fail)
   refine (hls.out _ _ ((Blk.new w7 27 [.int .i64 0,.int .i64 0,.int .i64 (BE:Int)]).rd rfl)).mono ?_;rintro e w8 ⟨rfl,j8⟩
   have B8:=(B7.later (Qaa w7 (.cells #[.int .i64 0,.int .i64 0,.int .i64 (BE:Int)] 27))).later j8
   by_cases hEz:E=0
   ·have hX:=hid (hRB.out hEz)
    subst hEz
    go_wp2_with (first
     | (refine go_l rfl ?_;refine Qdz rfl _ rfl (B8.nth 0 rfl) hBl rfl ?_)
     | (refine Qa1 rfl ?_;refine QaJ rfl rfl _ _ rfl (B8.nth 2 rfl) rfl rfl hBl l1 ?_;intro w9 hb9 ho9)
     | fail)
    exact bodyPost_ret (Qah rfl _ _ _ _ _ _ hb9 rfl Tryz.underlying37 rfl (by rw[Qyn,hBl];exact QbI)) rfl ⟨by rw[hX.out];rfl,B8.lat.only ho9 (by omega)⟩
   ·have hX:=hid (hR.out hEz)
    have hne9:((E:Int) != 0)=true:=bne_iff_ne.2 (by omega)
    go_wp2_with (first
     | (refine go_b rfl ?_;refine Qao ?hw 37 _ rfl (Z.map W8) (by simp only[QyK,QyU];exact hz0.out) ?_;(case hw=>rfl))
     | (refine Qa1 rfl ?_;refine QaJ rfl rfl _ _ rfl (B8.nth 2 rfl) rfl rfl l0 l1 ?_;intro w9 hb9 ho9)
     | fail)
    exact bodyPost_ret (Qah rfl _ _ _ _ _ _ hb9 rfl Tryz.underlying37 rfl (by rw[l1];exact QbI)) rfl ⟨by rw[hX.out];rfl,B8.lat.only ho9 (by omega)⟩
  ·have hFv:=hid (hFz.out hp0)
   have f1:((PE:Int) != 0)=true:=bne_iff_ne.2 (by omega)
   have hEn:Hid (E≠0):=hid (fun h=>by
    have:=hE.out
    rw[h]at this
    exact hp0 (((QbC _).1 this.symm) PE (by simp)))
   go_wp2_with (first
    | (refine Qar rfl _ _ _ rfl 5 _ 1 Tryz.underlying22 Qcg rfl _ _ _ _ 480 rfl rfl rfl rfl (by omega) (by omega) ?_;intro w6 hb6 hl6
       have B6:=B5.fresh hl6 (Qyw _) (hb6.cast hz8.out))
    | (refine go_l rfl ?_;refine QcC rfl _ rfl (B6.nth 1 rfl) rfl ?_)
    | fail)
   (refine (hBu.out _ 480 _ (hx.later B6.lat) (by rw[hFv.out];exact (B6.nth 0 rfl).rd (by rw[Qyn,Qyy])) (Qyw _) (hh.later B6.lat)).mono ?_);rintro e w7 ⟨rfl,j7⟩
   have B7:=B6.later j7
   clear hBu hBc hFr hx hh hd B3 B5 B6
   go_wp2_with (first
    | (refine Qa1 rfl ?_;refine QaJ rfl rfl _ _ rfl ((Blk.new w7 _ Tryz.zeroCells37.toList).cast HZ.out) rfl rfl hBl l1 ?_;intro w8 hb8 ho8
       have B8:=B7.push (Qaa _ _) (Qyw _) ho8 hb8)
    | fail)
   refine (hls.out _ _ ((Blk.new w8 27 [.int .i64 0,.int .i64 (PE:Int),.int .i64 (BE:Int)]).rd rfl)).mono ?_;rintro e w9 ⟨rfl,j9⟩
   have B9:=(B8.later (Qaa w8 (.cells #[.int .i64 0,.int .i64 (PE:Int),.int .i64 (BE:Int)] 27))).later j9
   have hX:=hid (hR.out hEn.out)
   have hne9:((E:Int) != 0)=true:=bne_iff_ne.2 (by have:=hEn.out;omega)
   go_wp2_with (first
    | (refine go_b rfl ?_;refine Qao ?hw 37 _ rfl (Z.map W8) (by simp only[QyK,QyU];exact hz0.out) ?_;(case hw=>rfl))
    | (refine Qa1 rfl ?_;refine QaJ rfl rfl _ _ rfl (B9.nth 3 rfl) rfl rfl l0 l1 ?_;intro wz hbz hoz)
    | fail)
   exact bodyPost_ret (Qah rfl _ _ _ _ _ _ hbz rfl Tryz.underlying37 rfl (by rw[l1];exact QbI)) rfl ⟨by rw[hX.out];rfl,B9.lat.only hoz (by omega)⟩
 ·go_wp2_with (first
   | (refine go_b rfl ?_;refine Qao ?hw 64 _ rfl (CC (lcK 2)) (by simp only[QyK,QyT,QyU];exact hbc.out 2) ?_;(case hw=>rfl))
   | (refine Qa1 rfl ?_;refine QfN rfl rfl _ _ rfl hCb rfl rfl rfl ?_;intro w3 hb3 ho3
      have B3:=B0.push (Qaa _ _) (Nat.le_of_eq hs2) ho3 hb3
      have kc3:=(QaD (B3.nth 2 rfl)).1
      have hl3:=(B3.nth 2 rfl).lt)
   | (refine go_l rfl ?_;refine Qed rfl _ rfl (B3.nth 2 rfl) rfl ?_)
   | fail)
  have B4:=B3
  (refine (hFr.out _ (hd.later B4.lat)).mono ?_);rintro e w5 ⟨A1,c1,rfl,o1,j1⟩
  have B5:=B4.later j1
  have hBc:=hid (fun v=>hBu.out A1 c1 v)
  have hls:=hid (fun g (w:World) h=>Qdx (some ⟨g,0,none⟩) 3 3 [3,PE,BE] w h (by omega))
  rw[←hE.out]at hls
  by_cases hp0:PE=0
  ·subst hp0
   have hFv:=hFq.out rfl
   subst hFv
   rw[hql]at o1 ⊢
   go_wp2_with (first
    | (refine go_l rfl ?_;refine QcC rfl _ rfl (B5.nth 0 rfl) rfl ?_)
    | fail)
   (refine (hBc.out _ (hx.later B5.lat) (OwnB.rd o1) (OwnB.cap o1) (hh.later B5.lat)).mono ?_);rintro e w6 ⟨rfl,j6⟩
   have B6:=B5.later j6
   clear hBu hBc hFr hx hh hd B3 B5
   go_wp2_with (first
    | (refine Qa1 rfl ?_;refine QaJ rfl rfl _ _ rfl ((Blk.new w6 _ Tryz.zeroCells37.toList).cast HZ.out) rfl rfl hBl l1 ?_;intro w7 hb7 ho7
       have B7:=B6.push (Qaa _ _) (Qyw _) ho7 hb7)
    | fail)
   refine (hls.out _ _ ((Blk.new w7 27 [.int .i64 3,.int .i64 0,.int .i64 (BE:Int)]).rd rfl)).mono ?_;rintro e w8 ⟨rfl,j8⟩
   have B8:=(B7.later (Qaa w7 (.cells #[.int .i64 3,.int .i64 0,.int .i64 (BE:Int)] 27))).later j8
   by_cases hEz:E=0
   ·have hX:=hid (hRB.out hEz)
    subst hEz
    go_wp2_with (first
     | (refine go_l rfl ?_;refine Qdz rfl _ rfl (B8.nth 0 rfl) hBl rfl ?_)
     | (refine Qa1 rfl ?_;refine QaJ rfl rfl _ _ rfl (B8.nth 2 rfl) rfl rfl hBl l1 ?_;intro w9 hb9 ho9)
     | fail)
    exact bodyPost_ret (Qah rfl _ _ _ _ _ _ hb9 rfl Tryz.underlying37 rfl (by rw[Qyn,hBl];exact QbI)) rfl ⟨by rw[hX.out];rfl,B8.lat.only ho9 (by omega)⟩
   ·have hX:=hid (hR.out hEz)
    have hne9:((E:Int) != 0)=true:=bne_iff_ne.2 (by omega)
    go_wp2_with (first
     | (refine go_b rfl ?_;refine Qao ?hw 37 _ rfl (Z.map W8) (by simp only[QyK,QyU];exact hz0.out) ?_;(case hw=>rfl))
     | (refine Qa1 rfl ?_;refine QaJ rfl rfl _ _ rfl (B8.nth 2 rfl) rfl rfl l0 l1 ?_;intro w9 hb9 ho9)
     | fail)
    exact bodyPost_ret (Qah rfl _ _ _ _ _ _ hb9 rfl Tryz.underlying37 rfl (by rw[l1];exact QbI)) rfl ⟨by rw[hX.out];rfl,B8.lat.only ho9 (by omega)⟩
  ·have hFv:=hid (hFz.out hp0)
   have f1:((PE:Int) != 0)=true:=bne_iff_ne.2 (by omega)
   have hEn:Hid (E≠0):=hid (fun h=>by
    have:=hE.out
    rw[h]at this
    exact hp0 (((QbC _).1 this.symm) PE (by simp)))
   go_wp2_with (first
    | (refine Qar rfl _ _ _ rfl 5 _ 1 Tryz.underlying22 Qcg rfl _ _ _ _ 480 rfl rfl rfl rfl (by omega) (by omega) ?_;intro w6 hb6 hl6
       have B6:=B5.fresh hl6 (Qyw _) (hb6.cast hz8.out))
    | (refine go_l rfl ?_;refine QcC rfl _ rfl (B6.nth 1 rfl) rfl ?_)
    | fail)
   (refine (hBu.out _ 480 _ (hx.later B6.lat) (by rw[hFv.out];exact (B6.nth 0 rfl).rd (by rw[Qyn,Qyy])) (Qyw _) (hh.later B6.lat)).mono ?_);rintro e w7 ⟨rfl,j7⟩
   have B7:=B6.later j7
   clear hBu hBc hFr hx hh hd B3 B5 B6
   go_wp2_with (first
    | (refine Qa1 rfl ?_;refine QaJ rfl rfl _ _ rfl ((Blk.new w7 _ Tryz.zeroCells37.toList).cast HZ.out) rfl rfl hBl l1 ?_;intro w8 hb8 ho8
       have B8:=B7.push (Qaa _ _) (Qyw _) ho8 hb8)
    | fail)
   refine (hls.out _ _ ((Blk.new w8 27 [.int .i64 3,.int .i64 (PE:Int),.int .i64 (BE:Int)]).rd rfl)).mono ?_;rintro e w9 ⟨rfl,j9⟩
   have B9:=(B8.later (Qaa w8 (.cells #[.int .i64 3,.int .i64 (PE:Int),.int .i64 (BE:Int)] 27))).later j9
   have hX:=hid (hR.out hEn.out)
   have hne9:((E:Int) != 0)=true:=bne_iff_ne.2 (by have:=hEn.out;omega)
   go_wp2_with (first
    | (refine go_b rfl ?_;refine Qao ?hw 37 _ rfl (Z.map W8) (by simp only[QyK,QyU];exact hz0.out) ?_;(case hw=>rfl))
    | (refine Qa1 rfl ?_;refine QaJ rfl rfl _ _ rfl (B9.nth 3 rfl) rfl rfl l0 l1 ?_;intro wz hbz hoz)
    | fail)
   exact bodyPost_ret (Qah rfl _ _ _ _ _ _ hbz rfl Tryz.underlying37 rfl (by rw[l1];exact QbI)) rfl ⟨by rw[hX.out];rfl,B9.lat.only hoz (by omega)⟩
 ·go_wp2_with (first
   | (refine go_b rfl ?_;refine Qao ?hw 64 _ rfl (CC (lcK 2)) (by simp only[QyK,QyT,QyU];exact hbc.out 2) ?_;(case hw=>rfl))
   | (refine Qa1 rfl ?_;refine QfN rfl rfl _ _ rfl hCb rfl rfl rfl ?_;intro w3 hb3 ho3
      have B3:=B0.push (Qaa _ _) (Nat.le_of_eq hs2) ho3 hb3
      have kc3:=(QaD (B3.nth 2 rfl)).1
      have hl3:=(B3.nth 2 rfl).lt)
   | (refine go_l rfl ?_;refine Qed rfl _ rfl (B3.nth 2 rfl) rfl ?_)
   | fail)
  have B4:=B3
  (refine (hFr.out _ (hd.later B4.lat)).mono ?_);rintro e w5 ⟨A1,c1,rfl,o1,j1⟩
  have B5:=B4.later j1
  have hBc:=hid (fun v=>hBu.out A1 c1 v)
  have hls:=hid (fun g (w:World) h=>Qdx (some ⟨g,0,none⟩) 3 3 [0,PE,BE] w h (by omega))
  rw[←hE.out]at hls
  by_cases hp0:PE=0
  ·subst hp0
   have hFv:=hFq.out rfl
   subst hFv
   rw[hql]at o1 ⊢
   go_wp2_with (first
    | (refine go_l rfl ?_;refine QcC rfl _ rfl (B5.nth 0 rfl) rfl ?_)
    | fail)
   (refine (hBc.out _ (hx.later B5.lat) (OwnB.rd o1) (OwnB.cap o1) (hh.later B5.lat)).mono ?_);rintro e w6 ⟨rfl,j6⟩
   have B6:=B5.later j6
   clear hBu hBc hFr hx hh hd B3 B5
   go_wp2_with (first
    | (refine Qa1 rfl ?_;refine QaJ rfl rfl _ _ rfl ((Blk.new w6 _ Tryz.zeroCells37.toList).cast HZ.out) rfl rfl hBl l1 ?_;intro w7 hb7 ho7
       have B7:=B6.push (Qaa _ _) (Qyw _) ho7 hb7)
    | fail)
   refine (hls.out _ _ ((Blk.new w7 27 [.int .i64 0,.int .i64 0,.int .i64 (BE:Int)]).rd rfl)).mono ?_;rintro e w8 ⟨rfl,j8⟩
   have B8:=(B7.later (Qaa w7 (.cells #[.int .i64 0,.int .i64 0,.int .i64 (BE:Int)] 27))).later j8
   by_cases hEz:E=0
   ·have hX:=hid (hRB.out hEz)
    subst hEz
    go_wp2_with (first
     | (refine go_l rfl ?_;refine Qdz rfl _ rfl (B8.nth 0 rfl) hBl rfl ?_)
     | (refine Qa1 rfl ?_;refine QaJ rfl rfl _ _ rfl (B8.nth 2 rfl) rfl rfl hBl l1 ?_;intro w9 hb9 ho9)
     | fail)
    exact bodyPost_ret (Qah rfl _ _ _ _ _ _ hb9 rfl Tryz.underlying37 rfl (by rw[Qyn,hBl];exact QbI)) rfl ⟨by rw[hX.out];rfl,B8.lat.only ho9 (by omega)⟩
   ·have hX:=hid (hR.out hEz)
    have hne9:((E:Int) != 0)=true:=bne_iff_ne.2 (by omega)
    go_wp2_with (first
     | (refine go_b rfl ?_;refine Qao ?hw 37 _ rfl (Z.map W8) (by simp only[QyK,QyU];exact hz0.out) ?_;(case hw=>rfl))
     | (refine Qa1 rfl ?_;refine QaJ rfl rfl _ _ rfl (B8.nth 2 rfl) rfl rfl l0 l1 ?_;intro w9 hb9 ho9)
     | fail)
    exact bodyPost_ret (Qah rfl _ _ _ _ _ _ hb9 rfl Tryz.underlying37 rfl (by rw[l1];exact QbI)) rfl ⟨by rw[hX.out];rfl,B8.lat.only ho9 (by omega)⟩
  ·have hFv:=hid (hFz.out hp0)
   have f1:((PE:Int) != 0)=true:=bne_iff_ne.2 (by omega)
   have hEn:Hid (E≠0):=hid (fun h=>by
    have:=hE.out
    rw[h]at this
    exact hp0 (((QbC _).1 this.symm) PE (by simp)))
   go_wp2_with (first
    | (refine Qar rfl _ _ _ rfl 5 _ 1 Tryz.underlying22 Qcg rfl _ _ _ _ 480 rfl rfl rfl rfl (by omega) (by omega) ?_;intro w6 hb6 hl6
       have B6:=B5.fresh hl6 (Qyw _) (hb6.cast hz8.out))
    | (refine go_l rfl ?_;refine QcC rfl _ rfl (B6.nth 1 rfl) rfl ?_)
    | fail)
   (refine (hBu.out _ 480 _ (hx.later B6.lat) (by rw[hFv.out];exact (B6.nth 0 rfl).rd (by rw[Qyn,Qyy])) (Qyw _) (hh.later B6.lat)).mono ?_);rintro e w7 ⟨rfl,j7⟩
   have B7:=B6.later j7
   clear hBu hBc hFr hx hh hd B3 B5 B6
   go_wp2_with (first
    | (refine Qa1 rfl ?_;refine QaJ rfl rfl _ _ rfl ((Blk.new w7 _ Tryz.zeroCells37.toList).cast HZ.out) rfl rfl hBl l1 ?_;intro w8 hb8 ho8
       have B8:=B7.push (Qaa _ _) (Qyw _) ho8 hb8)
    | fail)
   refine (hls.out _ _ ((Blk.new w8 27 [.int .i64 0,.int .i64 (PE:Int),.int .i64 (BE:Int)]).rd rfl)).mono ?_;rintro e w9 ⟨rfl,j9⟩
   have B9:=(B8.later (Qaa w8 (.cells #[.int .i64 0,.int .i64 (PE:Int),.int .i64 (BE:Int)] 27))).later j9
   have hX:=hid (hR.out hEn.out)
   have hne9:((E:Int) != 0)=true:=bne_iff_ne.2 (by have:=hEn.out;omega)
   go_wp2_with (first
    | (refine go_b rfl ?_;refine Qao ?hw 37 _ rfl (Z.map W8) (by simp only[QyK,QyU];exact hz0.out) ?_;(case hw=>rfl))
    | (refine Qa1 rfl ?_;refine QaJ rfl rfl _ _ rfl (B9.nth 3 rfl) rfl rfl l0 l1 ?_;intro wz hbz hoz)
    | fail)
   exact bodyPost_ret (Qah rfl _ _ _ _ _ _ hbz rfl Tryz.underlying37 rfl (by rw[l1];exact QbI)) rfl ⟨by rw[hX.out];rfl,B9.lat.only hoz (by omega)⟩
theorem QjZ (x:List UInt8) (p:Prt) (hs:List Hp):(sndP x p hs).length=768:=by
 by_cases h:Qga x p hs=0
 ·rw[(QfF x p hs).2 h]
  exact Qhh _ _ _ (Qd4 p)
 ·rw[sndP,if_neg h]
  exact Qyy
theorem QtD {x:List UInt8} {p:Prt} {hs:List Hp} (h:Qga x p hs=0):prtE p=0∧1≤hs.length∧hs.length≤5∧Qcp x (pubH hs)=0∧∃HD SB:List UInt8,sndP x p hs=HD++SB∧HD.length=288∧SB.length=480∧subB HD 0 32=kAlp (QbL x (pubH hs) 0)∧Qmw HD (QbL x (pubH hs) 0)=true∧
 allB rsO (Qbs (QaO x (pubH hs) hs.length)) SB=QcN p∧allE (Qbs (QaO x (pubH hs) hs.length)) SB=0:=by
 obtain⟨h1,h2⟩:=QfF x p hs
 have hv:=h2 h
 rw[h,eq_comm,QbC]at h1
 have p0:prtE p=0:=h1 _ (by simp)
 have b0:Qb6 x (QeX p) (Qei p) hs=0:=h1 _ (by simp)
 have hq:Qei p=QcN p:=by rw[Qei,if_pos p0]
 have hbl:(QcN p).length=480:=QbV p (Qdw p0).2.1
 rw[bldP,if_pos b0,Qi9,hq]at hv
 rw[Qb6,QbC]at b0
 have hpe:Qeb (QeX p) hs=0:=b0 _ (by simp)
 have hse:Qcp x (pubH hs)=0:=b0 _ (by simp)
 obtain⟨_,_,hn1,hn5,_,_⟩:=Qeo hpe
 have hst:=Qba x (pubH hs)
 generalize hn:hs.length=n at *
 have hps:(Qbs (QaO x (pubH hs) n)).length=n:=by rw[Qbo,QaO,Qyn,List.length_range]
 have hk:∀k,k<n→(Qbs (QaO x (pubH hs) n)).getD k []=kPay (QbL x (pubH hs) k):=fun k hk=>by
  rw[QeJ _ _ (by rw[QaO,Qyn,List.length_range];exact hk),QeU _ _ _ _ hk]
  rfl
 have hsl:∀k,((fun i=>encB (QdO (QeX p) hs i)) k).length=32:=fun k=>QcO _
 generalize (fun i=>encB (QdO (QeX p) hs i))=sl at *
 obtain⟨hA,_⟩:=Qlu hps hk hst hbl
 have hSl:=QcP (n:=n) hst hbl n
 have hal:∀k,(kAlp (QbL x (pubH hs) k)).length=32:=fun k=>QdA (hst k)
 have hok:Qgf (QcN p)∧okK (Qbs (QaO x (pubH hs) n)).reverse:=by
  by_cases e:Qgf (QcN p)∧okK (Qbs (QaO x (pubH hs) n)).reverse
  ·exact e
  ·rw[(QkD e).1]at hA
   rw[←hA]at hSl
   cases hSl
 have hok2:Qgf (seaA n (QbL x (pubH hs)) (QcN p) n)∧okK (Qbs (QaO x (pubH hs) n)):=⟨⟨by omega,by omega⟩,fun q hq=>hok.2 q (List.mem_reverse.2 hq)⟩
 have hback:=QhU rsS (Qbs (QaO x (pubH hs) n)).reverse (QcN p) (by omega)
 rw[List.reverse_reverse,show rsS.reverse=rsO by decide,←(@QgZ rsS _ _ hok).1,hA]at hback
 obtain⟨g1,g2⟩:= @QgZ rsO _ _ hok2
 have hz:n-1-(n-1)=0:=by omega
 refine⟨p0,hn1,hn5,hse,hdrA n sl (QbL x (pubH hs)) (n-1),seaA n (QbL x (pubH hs)) (QcN p) n,hv,?_,hSl,?_,?_,g1.trans hback,g2⟩
 ·exact Qkh hn1 hn5 hsl (n-1) (hal _)
 ·have:=(QkL hn1 hn5 hsl (st:=QbL x (pubH hs)) (n-1) (hal _)).1
  rwa [hz]at this
 ·have:=Qul (sl:=sl) hn1 hn5 hsl (st:=QbL x (pubH hs)) (n-1) (hal _)
  rwa [hz]at this
set_option maxRecDepth 100000 in
set_option maxHeartbeats 16000000 in
theorem Qhd (A D H:Option Addr) (nx cx nd cd n ch:Nat) (x:List UInt8) (p:Prt) (hs0:List Hp) (w:World) (hx:RdB w A nx x) (hxc:nx≤cx) (hnx:nx≤1048576) (hd:RdB w D nd p.da) (hnd:nd≤1048576) (hh:RdH w H n hs0) (hn:n≤1048576) (hnc:n≤ch):
 Calls Tryz.prog 3 #[.slice A nx cx,.agg (PaC p (.slice D nd cd)).toArray,.slice H n ch] w fun e w'=>e= .returned (.bool true)∧Later w w':=by
 have B0:=Qbi w 25 (PaC p (.slice D nd cd))
 have HZ:=hid zcP
 have hz0:=hid Qfw
 have hLe:=hid (fun g (w:World) h=>Qdx (some ⟨g,0,none⟩) 2 2 [0,5] w h (by omega))
 rw[show Qbe [0,5]=5 from rfl]at hLe
 have hFw:=hid (fun w h=>Qqw H n ch hs0 w h hn hnc)
 have hTw:=hid (fun w h=>Qnh p D nd cd w h hnd)
 have hFr:=hid (fun w h=>Qnj p D nd cd w h hnd)
 obtain⟨m,hm⟩:∃m,min n 4=m:=⟨_,rfl⟩
 obtain⟨hs,hhs⟩:∃hs,hs0.take 4=hs:=⟨_,rfl⟩
 rw[hm,hhs]at hFw
 have hm4:m≤4:=by omega
 have hHo:=hid (fun A2 c2 w h=>Qro A2 m c2 hs w h (by omega))
 have hSn:=hid (fun D2 d2 H2 h2 w h1 hd2 hh2=>Qpa A D2 H2 nx cx nd d2 m h2 x p hs w h1 hxc hnx hd2 hnd hh2 (by omega))
 have hPu:=hid (fun A2 c2 w h=>QfV A2 m c2 hs w h (by omega))
 have hSc:=hid (fun A2 c2 w h1 h2=>Qfb A A2 nx cx m c2 x (pubH hs) w h1 hxc (by omega) h2 (by omega))
 have hdp:=hid (fun hl (w:World) g (gs:List Nat) hb hg hgs=>QhA (w:=w) (g:=g) (n:=m) (gs:=gs) (hs:=hs) hl hb hg hgs)
 obtain⟨RP,hRP⟩:∃RP:Y768,RP.val=sndP x p hs:=⟨⟨_,QjZ x p hs⟩,rfl⟩
 obtain⟨ZP,hZP⟩:∃ZP:Y768,ZP.val=Qym 768 0:=⟨⟨_,Qyy⟩,rfl⟩
 have hRz:Hid (Qga x p hs≠0→RP=ZP):=hid (fun h=>Subtype.ext (by rw[hRP,hZP,sndP,if_neg h]))
 have hok:=hid (fun h=>QtD (x:=x) (p:=p) (hs:=hs) h)
 rw[←hRP]at hSn hok
 rw[←hZP]at HZ hz0
 have lR:RP.val.length=768:=RP.2
 have lZ:ZP.val.length=768:=ZP.2
 have l1:(ZP.val.map W8).length=768:=by rw[Qyn,lZ]
 clear hRP hZP
 generalize Qga x p hs=E at *
 go_enter Tryz.func3,Tryz.ntmps3
 go_wp2_with fail
 have J1:=Qaa (w.alloc (.cells (PaC p (.slice D nd cd)).toArray 25)) (.cells #[.int .i64 0,.int .i64 5] 27)
 have hsz:(w.alloc (.cells (PaC p (.slice D nd cd)).toArray 25)).heap.size=w.heap.size+1:=by simp only[World.alloc,Array.size_push]
 generalize hW:w.alloc (.cells (PaC p (.slice D nd cd)).toArray 25)=wA at *
 have hrd:Rd (wA.alloc (.cells #[.int .i64 0,.int .i64 5] 27)) (some ⟨w.heap.size+1,0,none⟩) 2 ([0,5].map eVM):=by
  rw[←hsz]
  exact (Blk.new wA 27 [.int .i64 0,.int .i64 5]).rd rfl
 (refine (hLe.out _ _ hrd).mono ?_);rintro e w1 ⟨rfl,j1⟩
 have B1:=(B0.later J1).later j1
 clear hW J1 j1 hLe B0 hrd hsz
 go_wp2_with fail
 (refine (hFw.out _ (hh.later B1.lat)).mono ?_);rintro e w2 ⟨A2,c2,rfl,r2,j2⟩
 have B2:=B1.later j2
 clear hFw hh B1
 go_wp2_with (first
  | (refine go_l rfl ?_;refine Qed rfl _ rfl (B2.nth 0 rfl) rfl ?_)
  | fail)
 (refine (hTw.out _ (hd.later B2.lat)).mono ?_);rintro e w3 ⟨A3,c3,rfl,o3,j3⟩
 have B3:=B2.later j3
 have r3:=r2.later j3
 clear hTw r2 B2
 go_wp2_with fail
 (refine (hHo.out _ _ _ r3).mono ?_);rintro e w4 ⟨A4,c4,rfl,r4,j4⟩
 have B4:=B3.later j4
 go_wp2_with fail
 (refine (hSn.out _ _ _ _ _ (hx.later B4.lat) (OwnB.rd (Qa0 o3 j4)) r4).mono ?_);rintro e w5 ⟨rfl,j5⟩
 have B5:=B4.later j5
 have r5:=r3.later (j4.trans j5)
 clear hSn o3 r4 B4 B3 r3
 by_cases hE:E=0
 case neg=>
  have hne:((E:Int) != 0)=true:=bne_iff_ne.2 (by omega)
  obtain rfl:=hRz.out hE
  go_wp2_with (first
   | (refine Qa1 rfl ?_;refine QaJ rfl rfl _ _ rfl ((Blk.new w5 _ Tryz.zeroCells37.toList).cast HZ.out) rfl rfl lR l1 ?_;intro w6 hb6 ho6
      have B6:=B5.push (Qaa _ _) (Qyw _) ho6 hb6)
   | (refine go_l rfl ?_;refine Qdz rfl _ rfl (B6.nth 0 rfl) lR rfl ?_)
   | (refine go_b rfl ?_;refine Qao ?hw 37 _ rfl (RP.val.map W8) (by simp only[QyK,QyU];exact hz0.out) ?_;(case hw=>rfl))
   | fail)
  go_ret
  exact⟨by simp,B6.lat⟩
 subst hE
 obtain⟨hp0,hm1,hm5,hse,HD,SB,hRv,hHl,hSl,hAl,hFit,hOpB,hOpE⟩:=hok.out rfl
 have hml:hs.length=m:=r5.1
 have hse':=hse
 generalize Qcp x (pubH hs)=SE at *
 rw[hml]at hOpB hOpE
 have hfrm:frmR p=QcN p:=by rw[frmR,if_pos hp0]
 have hPy:=hid (fun A2 c2 w h=>QlR A2 m c2 (QaO x (pubH hs) m) w h (Qdv x (pubH hs) m) (by omega))
 have hFi:=hid (fun w=>Qo3 HD (QbL x (pubH hs) 0) hHl (Qba x (pubH hs) 0) w)
 rw[hFit]at hFi
 have hBy:=hid (fun w=>Qmf RP.val lR w)
 have hPr:=hid (fun A2 c2 w h hc=>Qm5 A2 c2 RP.val w h hc)
 have hOp:=hid (fun A2 B2 d2 e2 w h1 h2 h3=>QkC A2 B2 480 d2 m e2 (Qbs (QaO x (pubH hs) m)) SB w h1 h2 h3 (by omega) (by omega))
 rw[hOpB,hOpE]at hOp
 have hfl:(QcN p).length=480:=QbV p (Qdw hp0).2.1
 rw[hfrm,hp0]at hFr
 rw[hfl]at hOp hFr
 have hSm:=hid (fun A2 B2 c2 d2 w h1 h2=>QpW A2 B2 480 480 c2 d2 (QcN p) (QcN p) w h1 h2)
 rw[decide_eq_true rfl]at hSm
 obtain⟨AL,hAL⟩:∃AL:Y32,AL.val=kAlp (QbL x (pubH hs) 0):=⟨⟨_,QdA (Qba x (pubH hs) 0)⟩,rfl⟩
 rw[←hAL]at hAl
 have hsA:subB RP.val 0 32=AL.val:=by
  rw[hRv,←hAl,subB,subB,Qzn,Qzn,Qzf (by omega)]
 have hsH:subB RP.val 0 288=HD:=by rw[hRv];exact QfR _ _ _ hHl
 have hsB:subB RP.val 288 480=SB:=by rw[hRv];exact QgU _ _ _ _ hHl hSl
 have hsg0:(QaO x (pubH hs) m).getD 0 []=QbL x (pubH hs) 0:=QeU x (pubH hs) m 0 (by omega)
 have hst0:=Qba x (pubH hs) 0
 have hpl:(Qbs (QaO x (pubH hs) m)).length=m:=by rw[Qbo,QaO,Qyn,List.length_range]
 have hp3:Hid (∀ p∈Qbs (QaO x (pubH hs) m),p.length=32):=hid (fun p hp=>by
  obtain⟨s,hs,rfl⟩:=Qzb.1 hp
  exact Qal (by rw[Qdv x _ m s hs];omega))
 have hAk:Hid (subB (QbL x (pubH hs) 0) 128 32=AL.val):=hid hAL.symm
 clear hok hse hRz hRv hAl hFit hOpB hOpE hp0 hfrm hAL
 rw[hml]at hm1 hm5
 generalize QbL x (pubH hs) 0=ST at *
 generalize QaO x (pubH hs) m=XS at *
 generalize QcN p=FB at *
 replace hsg0:=hid hsg0
 go_wp2_with (first
  | (refine Qa1 rfl ?_;refine QaJ rfl rfl _ _ rfl ((Blk.new w5 _ Tryz.zeroCells37.toList).cast HZ.out) rfl rfl lR l1 ?_;intro w6 hb6 ho6
     have B6:=B5.push (Qaa _ _) (Qyw _) ho6 hb6
     have r6:=r5.later ((Qaa w5 (.cells Tryz.zeroCells37 37)).only ho6 (Qyw _)))
  | (refine go_l rfl ?_;refine Qdz rfl _ rfl (B6.nth 0 rfl) lR rfl ?_)
  | fail)
 clear r5 B5 hb6 ho6
 (refine (hBy.out _).mono ?_);rintro e w7 ⟨A7,c7,rfl,o7,j7⟩
 have B7:=B6.later j7
 go_wp2_with fail
 (refine (hPr.out _ _ _ (OwnB.rd o7) (OwnB.cap o7)).mono ?_);rintro e w8 ⟨rfl,j8⟩
 have B8:=B7.later j8
 have r8:=r6.later (j7.trans j8)
 clear hBy hPr o7 j7 j8 B6 B7 r6
 go_wp2_with (first
  | (refine Qa1 rfl ?_;refine QaJ rfl rfl _ _ rfl ((Blk.new w8 _ Tryz.zeroCells37.toList).cast HZ.out) rfl rfl lR l1 ?_;intro w9 hb9 ho9
     have B9:=B8.push (Qaa _ _) (Qyw _) ho9 hb9
     have r9:=r8.later ((Qaa w8 (.cells Tryz.zeroCells37 37)).only ho9 (Qyw _)))
  | (refine Qdz rfl _ rfl (B9.nth 0 rfl) lR rfl ?_)
  | (refine Qdz rfl _ rfl (B9.nth 1 rfl) lR rfl ?_)
  | fail)
 (refine (hHo.out _ _ _ r9).mono ?_);rintro e w10 ⟨A10,c10,rfl,r10,j10⟩
 have B10:=B9.later j10
 go_wp2_with fail
 (refine (hPu.out _ _ _ r10).mono ?_);rintro e w11 ⟨gp,gs,rfl,_,hbg,hgl,hgs,_,j11⟩
 have hpu:=hdp.out hml _ _ _ hbg hgl hgs
 have B11:=B10.later j11
 clear hPu hHo hdp hbg hgl hgs r10 r9 B9 B10 j10 j11
 go_wp2_with fail
 (refine (hSc.out _ _ _ (hx.later B11.lat) hpu).mono ?_);rintro e w12 ⟨j12,hor⟩
 have B12:=B11.later j12
 obtain⟨A12,c12,rfl,hc12,hrk⟩:∃A' c',e= .returned (.tuple #[.slice A' m c',.int .i64 0])∧m≤c'∧RdK 192 w12 A' m XS:=by
  rcases hor with ⟨h,_⟩|⟨_,h⟩
  ·exact absurd hse' h
  ·exact h
 clear hor hSc hpu B11 j12
 obtain⟨b,o,rfl,hbb,hcS⟩:=hrk.sub (k:=0) (by omega)
 rw[hsg0.out]at hcS
 have hcA:Hid (∀ w',Later w12 w'→∀j v,(AL.val.map W8)[j]?=some v→w'.cell? ⟨b,o+128+j,none⟩=some v):=hid (fun w' l j v hv=>by
  have:=hcS w' l 128 32 _ hAk.out j v hv
  simpa only[Qz6,QzO] using this)
 have hcT:Hid (∀ w',Later w12 w'→∀j v,(ST.map W8)[j]?=some v→w'.cell? ⟨b,o+j,none⟩=some v):=hid (fun w' l j v hv=>by
  have:=hcS w' l 0 192 ST (by rw[subB,Qzn,Qyx (by omega)]) j v hv
  simpa only[Qz6,QzO] using this)
 clear hcS
 go_wp2_with fail
 have B13:=B12.drew
 refine Qaf [([0,1,2,3,4,5,6,7,8,9,10,11,12,13,14,15,16,17,18,19,20,21,22,23,24],25)] [26,27] [] (by as_aux_lemma=>kernel_rfl) (by as_aux_lemma=>kernel_rfl) (by intro _ _ d _ _ h;cases d<;>exact h) ?_
 simp only[Qaj,pick,Qyo,Qyp,Qyr,Qyu,Qyt]
 repeat (first|go_big_quiet_skip|(go_big_quiet_want;(first|refine QeP 0 32 _ rfl (B13.nth 1 rfl) rfl Tryz.underlying30 rfl QiN hsA AL.2 ?_|refine QeP 0 288 _ rfl (B13.nth 1 rfl) rfl Tryz.underlying34 rfl QeI hsH hHl ?_|refine Qbc 30 _ rfl b (o+128) (AL.val.map W8) (fun w' hw j v hv=>by obtain⟨y,rfl⟩:=hw;exact hcA.out _ ((Qad _).trans ⟨y,rfl⟩) j v hv) rfl _ Tryz.underlying30 rfl (by rw[Qyn,AL.2];exact QiN) ?_|refine Qbc 53 _ rfl b o (ST.map W8) (fun w' hw j v hv=>by obtain⟨y,rfl⟩:=hw;exact hcT.out _ ((Qad _).trans ⟨y,rfl⟩) j v hv) rfl _ Tryz.underlying53 rfl (by rw[Qyn,hst0];exact Qiz) ?_);simp only[Act.put,QyD,QyM,QyI];go_big_quiet_on)|(go_big_quiet_step (fail)))
 refine wpQuiet_nil ?_
 go_wp2_with fail
 (refine (hFi.out _).mono ?_);rintro e w14 ⟨rfl,j14⟩
 have B14:=B13.later j14
 have hrk14:=(hrk.later (Qad _)).later j14
 clear B13 B12 hrk hFi
 go_wp2_with fail
 try refine⟨by first|assumption|exact Qad _|exact Qaa _ _|exact Later.refl _,?_⟩
 try simp only[Qaj,pick,Qyo,Qyp,Qyr,Qyu,Qyt]
 repeat (go_big_quiet_step (fail))
 refine wpQuiet_nil ?_
 go_wp2_with fail
 have B15:=B14.drew
 have hrk15:=hrk14.later (Qad _)
 clear hrk14 B14
 refine Qaf [([0,1,2],3),([],4)] [5,6,7,8,9] [] (by as_aux_lemma=>kernel_rfl) (by as_aux_lemma=>kernel_rfl) (by intro _ _ d _ _ h;cases d<;>exact h) ?_
 simp only[Qaj,pick,Qyo,Qyp,Qyr,Qyu,Qyt]
 repeat (go_big_quiet_step (fail))
 refine wpQuiet_nil ?_
 go_wp2_with fail
 (refine (hPy.out _ _ _ hrk15).mono ?_);rintro e w16 ⟨gs2,rfl,hgs2,P16⟩
 have hpp:=QhY P16 hgs2 hpl hp3.out
 have j16:=P16.lat
 have B16:=B15.later j16
 clear hPy P16 B15 hrk15
 go_wp2_with fail
 try refine⟨by first|assumption|exact Qad _|exact Qaa _ _|exact Later.refl _,?_⟩
 try simp only[Qaj,pick,Qyo,Qyp,Qyr,Qyu,Qyt]
 repeat (go_big_quiet_step (fail))
 refine wpQuiet_nil ?_
 go_wp2_with fail
 (refine (hOp.out _ _ _ _ _ (QbN (B16.nth 1 rfl) hsB hSl) (Qyw _) hpp).mono ?_);rintro e w17 ⟨j17,A17,c17,rfl,o17⟩
 have B17:=B16.later j17
 clear hOp hpp B16
 go_wp2_with fail
 try refine⟨by first|assumption|exact Qad _|exact Qaa _ _|exact Later.refl _,?_⟩
 try simp only[Qaj,pick,Qyo,Qyp,Qyr,Qyu,Qyt]
 repeat (go_big_quiet_step (fail))
 refine wpQuiet_nil ?_
 go_wp2_with (first
  | (refine go_l rfl ?_;refine Qed rfl _ rfl (B17.nth 2 rfl) rfl ?_)
  | fail)
 (refine (hFr.out _ (hd.later B17.lat)).mono ?_);rintro e w18 ⟨A18,c18,rfl,o18,j18⟩
 have B18:=B17.later j18
 go_wp2_with fail
 (refine (hSm.out _ _ _ _ _ (OwnB.rd (Qa0 o17 j18)) (OwnB.rd o18)).mono ?_);rintro e w19 ⟨rfl,rfl⟩
 go_wp2_with fail
 go_ret
 exact⟨rfl,B18.lat⟩
end Go.Proofs.YtdhgpkdjdmlphaaGreat
