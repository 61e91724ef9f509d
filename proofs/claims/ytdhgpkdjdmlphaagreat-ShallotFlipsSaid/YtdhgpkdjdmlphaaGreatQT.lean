/-
  Lemmas for the last text of this claim (part 20 of 20).
-/
import Derived.ArgAppend
import Derived.BigQuiet
import Derived.BigRegion
import Derived.ChangeOld
import Derived.Deep.RegionWith
import Derived.DeepKeys4
import Derived.JoinedCond
import Derived.LaidMore
import Derived.Laws.BytesArg
import Derived.Laws.CopyOwn
import Derived.Laws.Externs
import Derived.Laws.IdiomStrings
import Derived.Laws.Tables
import Derived.Lib.AppendStr
import Derived.Lib.AppendZerosOnto
import Derived.Lib.Mul64
import Derived.Lib.SlBytesConst
import Derived.LoopN
import Derived.Maps.OwnSet
import Derived.OpenShut
import Derived.OrdersHeld
import Derived.ProofKit
import Derived.Shelf.Spec.BitsCarry
import Derived.ShutString
import Derived.Test.YtdhgpkdjdmlphaaGreatProg
import Derived.Test.YtdhgpkdjdmlphaaGreatRows
import Derived.WalkKit
import Derived.WalkLawsBesides
import Derived.WalkSpells
import Derived.Test.YtdhgpkdjdmlphaaGreatQK
import Derived.Test.YtdhgpkdjdmlphaaGreatQO
import Derived.Test.YtdhgpkdjdmlphaaGreatQQ
import Derived.Test.YtdhgpkdjdmlphaaGreatQR
import Derived.Test.YtdhgpkdjdmlphaaGreatQS
open List renaming replicate → QCA, getElem?_cons_succ → QCB, getElem?_cons_zero → QCC, length_map → QCE, cons_append → QCF, nil_append → QCG, getElem?_eq_getElem → QCH, getD_eq_getElem?_getD → QCI, setIfInBounds_toArray → QCJ, length_append → QCK, length_replicate → QCM, set_cons_zero → QCN, set_cons_succ → QCO, take_of_length_le → QCP, getElem?_append_right → QCQ, getElem?_map → QCS, getElem?_eq_some_iff → QCT, getElem?_append_left → QCU, map_toArray → QCW, length_take → QC1, map_nil → QC2, map_cons → QC7, take_succ_eq_append_getElem → QC8, map_replicate → QDg, all_eq_true → QDm, mem_map → QDt, getElem_mem → QD2, getElem?_range → QEB, length_reverse → QEC
open Nat renaming le_refl → QCL, lt_of_lt_of_le → QC0, zero_add → QC6, min_eq_left → QDv, lt_or_ge → QDC, sub_self → QDR
open Option renaming toList_some → QCD, bind_some → QDA, map_eq_some_iff → QD5
open UInt8 renaming ofInt → QDe
set_option linter.all false
namespace Go.Proofs.YtdhgpkdjdmlphaaGreat
open Go.RowKit
open Go.BigFrame
theorem QqE (kd:UInt8) (hs:List Hp) (n i:Nat) (h:i<n):(QeX kd hs n).getD i cmd0=QcN (lcK kd) hs i:=by
 rw[QeX,QCI,QCS,QEB h]
 rfl
theorem Qnz (x:List UInt8) (ps:List (List UInt8)) (n i:Nat) (h:i<n):(Qcj x ps n).getD i []=Qcl x ps i:=by
 rw[Qcj,QCI,QCS,QEB h]
 rfl
theorem QpG (b c:Nat):Qb0 [1,b,c]=1:=by
 have h1:∀e:Nat,(if e≠0∧((1:Nat)=0∨e<1) then e else 1)=1:=fun e=>if_neg (by omega)
 show (if c≠0∧((if b≠0∧((1:Nat)=0∨b<1) then b else 1)=0∨c<(if b≠0∧((1:Nat)=0∨b<1) then b else 1)) then c else (if b≠0∧((1:Nat)=0∨b<1) then b else 1))=1
 rw[h1,h1]
theorem Qjr (ks:List (List UInt8)) (j:Nat) (h:j<ks.length):ks.reverse.take (j+1)=ks.reverse.take j++[ks.getD (ks.length-1-j) []]:=by
 have hj:j<ks.reverse.length:=by rw[QEC];exact h
 rw[QC8 hj,List.getElem_reverse,QCI,QCH (show ks.length-1-j<ks.length by omega)]
 rfl
theorem Qp4 (rs:List Int) (p b:List UInt8):Qgf rs [p] b=Qdt p rs b:=rfl
theorem Ql0 {n:Nat} {st:Nat→List UInt8} {body:List UInt8} {ps:List (List UInt8)} (hn:ps.length=n) (hk:∀k,k<n→ps.getD k []=kPay (st k)) (hst:∀k,(st k).length=192) (hb:body.length=480):∀j,j≤n→Qgf rsS (ps.reverse.take j) body=seaA n st body j
 | 0,_=>rfl
 | j+1,hj=>by
   have ih:=Ql0 hn hk hst hb j (by omega)
   have hl:=QcZ (n:=n) hst hb j
   have hkl:(kPay (st (n-1-j))).length=32:=Qan (by rw[hst];omega)
   rw[Qjr _ _ (by omega),Qhw,ih,hn,hk _ (by omega),Qp4,seaA]
   generalize seaA n st body j=X at *
   generalize kPay (st (n-1-j))=K at *
   exact (Qs0 okS hkl (by omega) (by omega)).2.symm
theorem Qvy {n:Nat} {st:Nat→List UInt8} {body:List UInt8} {ps:List (List UInt8)} (hn:ps.length=n) (hk:∀k,k<n→ps.getD k []=kPay (st k)) (hst:∀k,(st k).length=192) (hb:body.length=480):allB rsS ps.reverse body=seaA n st body n∧allE ps.reverse body=0:=by
 have hok:Qk4 body∧okK ps.reverse:=⟨⟨by omega,by omega⟩,fun p hp=>by
  obtain⟨k,hk',rfl⟩:=List.getElem_of_mem (List.mem_reverse.1 hp)
  have:=hk k (by omega)
  rw[QCI,QCH hk']at this
  show ps[k].length=32
  have e:ps[k]=kPay (st k):=this
  rw[e]
  exact Qan (by rw[hst];omega)⟩
 obtain⟨h1,h2⟩:= @Qss rsS _ _ hok
 have:=Ql0 hn hk hst hb n (QCL _)
 rw[QCP (by rw[QEC];omega)]at this
 exact⟨h1.trans this,h2⟩
theorem QpP {w:World} {g n:Nat} {gs:List Nat} {hs:List Hp} (hl:hs.length=n) (hb:Blk w g 22 (gs.map S32)) (hg:gs.length=n) (hgs:∀(j b:Nat),gs[j]?=some b→g<b∧Blk w b 5 ((hs.getD j hp0).nod.pub.val.map W8)):Parts w (fun _=>False) (some ⟨g,0,none⟩) n (pubH hs):=by
 refine⟨gs.map S32,hb.rd (by rw[QCE,hg]),fun _ _ _ h=>h,by rw[QCE,hg,pubH,QCE,hl],fun j v p hv hp=>?_⟩
 rw[QCS,QD5]at hv
 obtain⟨b,hbj,rfl⟩:=hv
 rw[pubH,QCS,QD5]at hp
 obtain⟨x,hx,rfl⟩:=hp
 have:=(hgs j b hbj).2
 rw[QCI,hx]at this
 exact QaW (Qb8 this x.nod.pub.2) (QCL _)
noncomputable def bldP (x:List UInt8) (c:Cmd) (body:List UInt8) (hs:List Hp):List UInt8:=if Qcs x c body hs=0 then QjU x c body hs else QCA 768 0
set_option maxRecDepth 100000 in
set_option maxHeartbeats 16000000 in
theorem Qqc (kd:UInt8) (hkd:kd=2∨kd=3) (A B H:Option Addr) (nx cx nb cb n ch:Nat) (x body:List UInt8) (hs:List Hp) (w:World) (hx:RdB w A nx x) (hxc:nx≤cx) (hb:RdB w B nb body) (hbc:nb≤cb) (hnb:nb≤1048576) (hh:RdH w H n hs) (hn:n≤1048576):
 Calls Tryz.prog 51 #[.slice A nx cx,.agg (CC (lcK kd)).toArray,.slice B nb cb,.slice H n ch] w fun e w'=>e= .returned (.tuple #[.agg ((bldP x (lcK kd) body hs).map W8).toArray,.int .i64 (Qcs x (lcK kd) body hs:Nat)])∧Later w w':=by
 have hl:=hh.1
 have hbl:=hb.len
 have l0:(QCA 768 (0:UInt8)).length=768:=QCM
 have B0:=(Qbr w 64 (CC (lcK kd))).fresh (Qaa _ (.cells Tryz.zeroCells37 37)) (QCL _) ((Blk.new (w.alloc (.cells (CC (lcK kd)).toArray 64)) _ Tryz.zeroCells37.toList).cast zcP)
 have HZ:=hid zcP
 have HH:=hid zcH
 have hz0:=hid Qg1
 have hb1:=hid (fun h hl=>Qjt h hl)
 have hPa:=hid (fun w h=>QsU kd hkd H n ch hs w h hn)
 have hPu:=hid (fun w h=>Qk7 H n ch hs w h (by omega))
 have hSc:=hid (fun A2 c2 w h1 h2=>Qkx A A2 nx cx n c2 x (pubH hs) w h1 hxc h2 (by omega))
 have hEq:Hid (Qcs x (lcK kd) body hs=Qb0 [QeU (lcK kd) hs,Qdq x (pubH hs),if nb=480 then 0 else 2]):=hid (by rw[Qcs,hbl])
 have hR:Hid (Qcs x (lcK kd) body hs≠0→bldP x (lcK kd) body hs=QCA 768 0):=hid (fun h=>by rw[bldP,if_neg h])
 have hR0:Hid (Qcs x (lcK kd) body hs=0→bldP x (lcK kd) body hs=pktA n (fun i=>encB (QcN (lcK kd) hs i)) (Qcl x (pubH hs)) body 0):=hid (fun h=>by rw[bldP,if_pos h,QjU,hl])
 have hpok:=hid (fun h i (hi:i<n)=>Qkk (c:=lcK kd) (hs:=hs) h (i:=i) (by omega))
 have hp15:=hid (fun h=>Qel (c:=lcK kd) (hs:=hs) h)
 have hcg:=hid (QqE kd hs n)
 have hsg:=hid (Qnz x (pubH hs) n)
 have hpl:Hid (Qma kd hs=if QeU (lcK kd) hs=0 then QeX kd hs n else []):=hid (by rw[Qma,hl])
 have hcl:=hid (Qda kd hs n)
 have hstl:=hid (Qcd x (pubH hs))
 have hsal:=hid (QgT x (pubH hs) n)
 have hdp:=hid (fun (w:World) g (gs:List Nat) hb hg hgs=>QpP (w:=w) (g:=g) (n:=n) (gs:=gs) (hs:=hs) hl hb hg hgs)
 generalize Qcs x (lcK kd) body hs=E at *
 generalize bldP x (lcK kd) body hs=R at *
 generalize QeU (lcK kd) hs=PE at *
 generalize Qdq x (pubH hs)=SE at *
 generalize Qma kd hs=PL at *
 generalize hZ:QCA 768 (0:UInt8)=Z at *
 go_enter Tryz.func51,Tryz.ntmps51
 go_wp2_with (first
  | (refine go_l rfl ?_;refine QcG rfl _ rfl (B0.nth 1 rfl) rfl ?_)
  | fail)
 generalize hW:World.alloc (World.alloc w _) _=wA at *
 replace B0:Bag w wA [(w.heap.size+1,37,Z.map W8),(w.heap.size,64,CC (lcK kd))]:=by
  simpa only[World.alloc,Array.size_push] using B0
 clear hW
 refine (hPa.out _ (hh.later B0.lat)).mono ?_
 rintro e w1 ⟨A1,c1,rfl,o1,j1⟩
 have B1:=B0.later j1
 have l1:(Z.map W8).length=768:=by rw[QCE,l0]
 by_cases hP1:PE=1
 ·subst hP1
  have hE1:E=1:=hEq.out.trans (QpG _ _)
  have hX:=hid (hR.out (by omega))
  subst hE1
  clear hPa hPu hSc hEq hR hR0 hpok hp15 hcg hsg hpl hcl hstl hsal hdp
  go_wp2_with (first
   | (refine go_b rfl ?_;refine Qam ?hw 37 _ rfl (Z.map W8) (by simp only[QCW,QC2];exact hz0.out) ?_;(case hw=>rfl))
   | (refine Qa7 rfl ?_;refine QaL rfl rfl _ _ rfl (B1.nth 0 rfl) rfl rfl l0 l1 ?_;intro w2 hb2 ho2)
   | fail)
  exact bodyPost_ret (Qag rfl _ _ _ _ _ _ hb2 rfl Tryz.underlying37 rfl (by rw[l1];exact Qbs)) rfl ⟨by rw[hX.out];rfl,B1.lat.only ho2 (by omega)⟩
 have hne1:((PE:Int)==1)=false:=by
  rw[beq_eq_false_iff_ne]
  omega
 go_wp2_with fail
 (refine (hPu.out _ (hh.later B1.lat)).mono ?_);rintro e w2 ⟨gp,gs,rfl,_,hbg,hgl,hgs,_,j2⟩
 have hpu:=hdp.out _ _ _ hbg hgl hgs
 have B2:=B1.later j2
 clear hPa hPu hdp hbg hgl hgs B0
 go_wp2_with fail
 (refine (hSc.out _ _ _ (hx.later B2.lat) hpu).mono ?_);rintro e w3 ⟨j3,hor⟩
 have B3:=B2.later j3
 have o1':=o1.later (j2.trans j3)
 clear hSc o1 j1 j2 j3 B2 B1 hx hpu
 obtain⟨vS,hre,hok⟩:∃vS,e= .returned (.tuple #[vS,.int .i64 (SE:Nat)])∧(SE=0→∃A' c',vS= .slice A' n c'∧n≤c'∧RdK 192 w3 A' n (Qcj x (pubH hs) n)):=by
  rcases hor with ⟨h,rfl⟩|⟨h,A',c',rfl,h2,h3⟩
  ·exact⟨_,rfl,fun e=>absurd e h⟩
  ·exact⟨_,by rw[h];rfl,fun _=>⟨A',c',rfl,h2,h3⟩⟩
 subst hre
 clear hor
 replace hok:=hid hok
 obtain⟨BE,hBE⟩:∃BE,BE=if nb=480 then 0 else 2:=⟨_,rfl⟩
 rw[←hBE]at hEq
 have hBd:Hid (BE=0→nb=480):=hid (fun h=>by
  by_cases e:nb=480
  ·exact e
  ·rw[hBE,if_neg e]at h
   cases h)
 have hls:=hid (fun g (w:World) h=>Qfu (some ⟨g,0,none⟩) 3 3 [PE,SE,BE] w h (by omega))
 rw[←hEq.out]at hls
 have hlz:Hid (E=0→PE=0∧SE=0∧BE=0):=hid (fun h=>by
  rw[hEq.out,Qb3]at h
  exact⟨h _ (by simp),h _ (by simp),h _ (by simp)⟩)
 clear hEq
 by_cases hE:E=0
 case neg=>
  have hne:((E:Int) != 0)=true:=bne_iff_ne.2 (by omega)
  have hX:=hid (hR.out hE)
  clear hR hR0 hpok hp15 hcg hsg hpl hcl hstl hsal hok hlz hBd
  by_cases h480:nb=480
  ·have hne4:((nb:Int) != 480)=false:=by simp;omega
   obtain rfl:BE=0:=by rw[hBE,if_pos h480]
   clear h480 hBE
   go_wp2_with fail
   refine (hls.out _ _ ((Blk.new w3 27 [.int .i64 (PE:Int),.int .i64 (SE:Int),.int .i64 0]).rd rfl)).mono ?_;rintro e w4 ⟨rfl,j4⟩
   have B4:=(B3.later (Qaa w3 (.cells #[.int .i64 (PE:Int),.int .i64 (SE:Int),.int .i64 0] 27))).later j4
   go_wp2_with (first
    | (refine go_b rfl ?_;refine Qam ?hw 37 _ rfl (Z.map W8) (by simp only[QCW,QC2];exact hz0.out) ?_;(case hw=>rfl))
    | (refine Qa7 rfl ?_;refine QaL rfl rfl _ _ rfl (B4.nth 0 rfl) rfl rfl l0 l1 ?_;intro w5 hb5 ho5)
    | fail)
   exact bodyPost_ret (Qag rfl _ _ _ _ _ _ hb5 rfl Tryz.underlying37 rfl (by rw[l1];exact Qbs)) rfl ⟨by rw[hX.out];rfl,B4.lat.only ho5 (by omega)⟩
  ·have hne4:((nb:Int) != 480)=true:=by simp;omega
   obtain rfl:BE=2:=by rw[hBE,if_neg h480]
   clear h480 hBE
   go_wp2_with fail
   refine (hls.out _ _ ((Blk.new w3 27 [.int .i64 (PE:Int),.int .i64 (SE:Int),.int .i64 2]).rd rfl)).mono ?_;rintro e w4 ⟨rfl,j4⟩
   have B4:=(B3.later (Qaa w3 (.cells #[.int .i64 (PE:Int),.int .i64 (SE:Int),.int .i64 2] 27))).later j4
   go_wp2_with (first
    | (refine go_b rfl ?_;refine Qam ?hw 37 _ rfl (Z.map W8) (by simp only[QCW,QC2];exact hz0.out) ?_;(case hw=>rfl))
    | (refine Qa7 rfl ?_;refine QaL rfl rfl _ _ rfl (B4.nth 0 rfl) rfl rfl l0 l1 ?_;intro w5 hb5 ho5)
    | fail)
   exact bodyPost_ret (Qag rfl _ _ _ _ _ _ hb5 rfl Tryz.underlying37 rfl (by rw[l1];exact Qbs)) rfl ⟨by rw[hX.out];rfl,B4.lat.only ho5 (by omega)⟩
 obtain⟨hp0,hs0,hb0⟩:=hlz.out hE
 obtain rfl:=hBd.out hb0
 subst hE hp0 hs0 hb0
 have hR':=hR0.out rfl
 obtain⟨A4,c4,rfl,hc4,hrk⟩:=hok.out rfl
 rw[if_pos rfl]at hpl
 obtain⟨_,_,hn1,hn5,_,_⟩:=hp15.out rfl
 rw[hl]at hn1 hn5
 have hPL:PL=QeX kd hs n:=hpl.out
 subst hPL
 rw[hcl.out]at o1' ⊢
 have hcok:=hid (fun i (hi:i<n)=>show cmdE ((QeX kd hs n).getD i cmd0)=0∧(((QeX kd hs n).getD i cmd0).kd=1↔i+1<n) from by
  rw[hcg.out i hi]
  have:=hpok.out rfl i hi
  rwa [hl]at this)
 have hcg':=hid (fun i (hi:i<n)=>show encB ((QeX kd hs n).getD i cmd0)=(fun i=>encB (QcN (lcK kd) hs i)) i from by rw[hcg.out i hi])
 have hsa:Hid (∀ k,((fun i=>encB (QcN (lcK kd) hs i)) k).length=32):=hid (fun k=>QcC _)
 generalize QeX kd hs n=CS at *
 generalize (fun i=>encB (QcN (lcK kd) hs i))=sl at *
 obtain⟨hsA,hsZ⟩:=Qvy (n:=n) (st:=Qcl x (pubH hs)) (body:=body) (ps:=QdN (Qcj x (pubH hs) n)) (by rw[QcO];exact hrk.1) (fun k hk=>by rw[Qiy _ _ (by rw[hrk.1];exact hk),hsg.out k hk];rfl) hstl.out hbl
 have hsl8:=QcZ (n:=n) (st:=Qcl x (pubH hs)) hstl.out hbl n
 have hpyl:(QdN (Qcj x (pubH hs) n)).length=n:=by rw[QcO];exact hrk.1
 have hpy3:Hid (∀ p∈QdN (Qcj x (pubH hs) n),p.length=32):=hid (fun p hp=>by
  obtain⟨s,hs,rfl⟩:=QDt.1 hp
  exact Qan (by rw[hsal.out s hs];omega))
 have hHl:(hdrA n sl (Qcl x (pubH hs)) (n-1)).length=288:=by
  rw[hdrA,QCK,QCK,Qc4 (hstl.out _),Qbx hn1 hn5 hsa.out,tagA,Qbw]
 have hPy:=hid (fun w h=>Qu7 A4 n c4 (Qcj x (pubH hs) n) w h hsal.out (by omega))
 have hRt:=hid (fun j h=>Qjr (QdN (Qcj x (pubH hs) n)) j h)
 have hHb:=hid (fun (w:World) h1 h2=>Qpa A1 A4 n c1 c4 CS (Qcj x (pubH hs) n) w h1 h2 hsal.out hn1 hn5 hc4 hcok.out sl (Qcl x (pubH hs)) hsa.out hcg'.out hsg.out)
 have hRv:R=hdrA n sl (Qcl x (pubH hs)) (n-1)++seaA n (Qcl x (pubH hs)) body n:=hR'
 have hSa:=hid (fun A B d e0 w h1 h2 h3=>QmO A B 480 d n e0 (QdN (Qcj x (pubH hs) n)).reverse body w h1 h2 h3 (by omega) (by omega))
 rw[hsA,hsZ,hsl8]at hSa
 clear hsA hsZ hcok hcg' hsa hR hR0 hR' hpok hp15 hcg hpl hcl hok hlz hBd hBE
 generalize hdrA n sl (Qcl x (pubH hs)) (n-1)=HD at *
 generalize seaA n (Qcl x (pubH hs)) body n=SB at *
 clear hsg hstl
 generalize QdN (Qcj x (pubH hs) n)=PS at *
 generalize Qcj x (pubH hs) n=XS at *
 go_wp2_with fail
 refine (hls.out _ _ ((Blk.new w3 27 [.int .i64 0,.int .i64 0,.int .i64 0]).rd rfl)).mono ?_;rintro e w4 ⟨rfl,j4⟩
 have J4:=(Qaa w3 (.cells #[.int .i64 0,.int .i64 0,.int .i64 0] 27)).trans j4
 have B4:=B3.later J4
 clear hls
 go_wp2_with fail
 (refine (hHb.out _ (o1'.later J4) (hrk.later J4)).mono ?_);rintro e w5 ⟨rfl,j5⟩
 have B5:=B4.later j5
 have hrk5:=hrk.later (J4.trans j5)
 clear hHb o1' hrk B4 B3
 go_wp2_with (first
  | (refine Qa7 rfl ?_;refine QdC rfl rfl _ _ rfl ((Blk.new w5 _ Tryz.zeroCells34.toList).cast HH.out) rfl rfl hHl (by rw[QCE,QCM]) ?_;intro w6 hb6 ho6)
  | fail)
 have B6:=B5.push (Qaa _ _) (QCL _) ho6 hb6
 have hrk6:=hrk5.later ((Qaa w5 (.cells Tryz.zeroCells34 34)).only ho6 (QCL _))
 clear hrk5 B5 ho6 hb6
 go_wp2_with fail
 (refine (hPy.out _ hrk6).mono ?_);rintro e w7 ⟨gs,rfl,hgs,P7⟩
 have hpp:=Qpx P7 hgs hpyl hpy3.out
 have B7:=B6.later P7.lat
 clear hPy P7 B6 hrk6 hgs
 obtain⟨AP,hAP⟩:∃AP,AP=some (⟨w6.heap.size,0,none⟩:Addr):=⟨_,rfl⟩
 rw[←hAP]at hpp ⊢
 clear hAP
 go_wp2_with (first
  | (refine Qce rfl _ _ _ rfl 22 (.slice none 0 0) 24 Tryz.underlying48 Qr3 rfl _ _ _ _ 0 n rfl rfl ?hL ?hC (by omega) (by omega) (by omega) ?_;(case hL=>rfl);(case hC=>rfl);intro w8 hown8 hl8)
  | fail)
 go_loopw [19,20] (fun v i wr=>∃(j:Nat) (A':Option Addr) (c':Nat) (us:List Value),j≤n∧i= .int .i64 ((n:Int)-1-(j:Int))∧v= .slice A' j c'∧wr.ownsRow w7.heap.size 22 1 (.slice A' j c') j us∧us.length=j∧Hid (∀ (q:Nat) v p,us[q]?=some v→(PS.reverse.take j)[q]?=some p→Part w7 (fun _=>False) v p)∧Later w7 wr) (fun _ i _=>(intOf i+1).toNat)
 case atStart=>exact⟨0,_,_,[],by omega,by simp,rfl,hown8,rfl,hid (fun q v p h=>by simp at h),hl8⟩
 case round=>
  clear hown8 hl8
  obtain⟨j,A9,c9,us,hj,rfl,rfl,hown,hul,hu3,LB⟩:=hrel
  by_cases hjn:j<n
  ·obtain⟨i,hi⟩:∃i,i=n-1-j:=⟨_,rfl⟩
   have hcast:(n:Int)-1-(j:Int)=(i:Int):=by omega
   rw[hcast]
   have hik:i<n:=by omega
   obtain⟨b,o,Ak,nk,ck,rfl,hbb,hck,hcap,hrd,hav⟩:=hpp.at_ hik
   have hck':=(LB.below.cell (p:=⟨b,o+i,none⟩) hbb).trans hck
   have hbr:=QC0 hbb LB.size
   have HS:=hid (hRt.out j (by rw[hpyl];exact hjn))
   rw[hpyl,←hi]at HS
   generalize PS.getD i []=q at *
   replace hcast:=hid hcast
   replace hi:=hid hi
   have hge:(0:Int)≤(i:Int):=by omega
   clear hck
   go_wp2_with (first
    | (refine QaA rfl _ _ _ rfl 22 _ 24 Tryz.underlying48 Qr3 rfl w7 _ j us (Qbo hown (Qaa _ _)) (LB.trans (Qaa _ _)) _ 1 1 [.slice Ak nk ck] (Qhj (Qg8 wr _ [.slice Ak nk ck] (by simp))) ?h1 rfl rfl (by omega) (by omega) ?_;(case h1=>simp[Qr8]);intro A2 c2 w2 hown2 hl2 hg2 _)
    | fail)
   exact⟨⟨j+1,A2,c2,us++[.slice Ak nk ck],by omega,by rw[show (n:Int)-1-((j+1:Nat):Int)=(i:Int)-1 by have:=hcast.out;omega],rfl,hown2,by rw[QCK,hul];rfl,hid (fun q' v p hv hp=>by
    rw[HS.out]at hp
    rcases QDC q' j with h|h
    ·rw[QCU (by omega)]at hv
     rw[QCU (by rw[QC1,QEC];omega)]at hp
     exact hu3.out q' v p hv hp
    ·have hq:q'=j:=by
      have:=(QCT.1 hv).1
      simp[hul]at this
      omega
     subst hq
     rw[QCQ (by omega),hul,QDR]at hv
     rw[QCQ (by rw[QC1,QEC];omega),QC1,QEC,hpyl,QDv (by omega),QDR]at hp
     cases hv
     cases hp
     exact⟨Ak,nk,ck,rfl,hcap,hrd,fun _ _ _ h=>h⟩),hl2⟩,by simp only[intOf];omega⟩
  ·obtain rfl:j=n:=by omega
   have B8:=B7.later LB
   have hge: ¬(0:Int)≤(j:Int)-1-(j:Int):=by omega
   rw[QCP (by rw[QEC];omega)]at hu3
   have hpr:Parts wr (fun _=>False) A9 j PS.reverse:=⟨us,Qhj hown,fun _ _ _ h=>h,by rw[hul,QEC,hpyl],fun q v p hv hp=>(hu3.out q v p hv hp).later LB⟩
   clear hpp hu3 hown B7
   go_wp2_with fail
   (refine (hSa.out _ _ _ _ _ (hb.later B8.lat) hbc hpr).mono ?_);rintro e w9 ⟨j9,A10,c10,rfl,o10⟩
   have B9:=B8.later j9
   have hbu:=hid (hb1.out HD hHl)
   have hSl:=OwnB.len o10
   have lP:(HD++QCA 480 (0:UInt8)).length=768:=by rw[QCK,hHl,QCM]
   have hpt:Hid (putB (HD++QCA 480 (0:UInt8)) 288 SB=R):=hid (by rw[hRv,Qdb _ _ _ 288 hHl (by rw[QCM,hSl])])
   have hRl:R.length=768:=by rw[hRv,QCK,hHl,hSl]
   clear hSa hpr B8 hRv
   generalize HD++QCA 480 (0:UInt8)=P1 at *
   go_wp2_with (first
    | (refine go_l rfl ?_;refine Qj3 rfl _ rfl (B9.nth 0 rfl) hHl rfl ?_)
    | (refine go_b rfl ?_;refine Qam ?hw 37 _ rfl (P1.map W8) (by simp only[QCW,QC7,QC2];exact hbu.out) ?_;(case hw=>rfl))
    | (refine Qa7 rfl ?_;refine QaL rfl rfl _ _ rfl ((Blk.new w9 _ Tryz.zeroCells37.toList).cast HZ.out) rfl rfl lP l1 ?_;intro wa hba hoa
       have Ba:=B9.push (Qaa _ _) (QCL _) hoa hba
       have oa:=o10.later ((Qaa w9 (.cells Tryz.zeroCells37 37)).only hoa (QCL _)))
    | (refine Qh4 288 480 rfl _ _ _ _ rfl 5 Tryz.underlying22 Qbu (Ba.nth 0 rfl) (OwnB.rd oa) rfl rfl (by omega) ?_;intro wb hbb hob
       rw[hpt.out]at hbb
       have Bb:=Ba.write 0 rfl hob hbb)
    | (refine Qf4 rfl _ rfl (Bb.nth 0 rfl) hRl rfl ?_)
    | (refine QaL rfl rfl _ _ rfl (Bb.nth 2 rfl) rfl rfl hRl l1 ?_;intro wc hbc' hoc)
    | fail)
   exact bodyPost_ret (Qag rfl _ _ _ _ _ _ hbc' rfl Tryz.underlying37 rfl (by rw[QCE,hRl];exact Qbs)) rfl ⟨rfl,Bb.lat.only hoc (by omega)⟩
theorem QxK (p:Prt):prtE p≤3:=by
 unfold prtE
 split
 ·omega
 ·split
  ·omega
  ·split
   ·omega
   ·split
    ·omega
    ·split<;>omega
def Qgt (p:Prt):List UInt8:=if prtE p=0 then QeY p else QCA 480 0
theorem Qe8 (p:Prt):(Qgt p).length=480:=by
 unfold Qgt
 split
 ·rename_i h
  exact Qfb p (QiI h).2.1
 ·exact QCM
theorem Qip (p:Prt):(QdS p).length=480:=by
 unfold QdS
 split
 ·rename_i h
  have h0:prtE p=0:=by
   unfold frmE at h
   split at h
   ·cases h
   ·exact h
  exact Qfb p (QiI h0).2.1
 ·exact QCM
theorem Qpq (e b:Nat):Qb0 [0,e,b]=Qb0 [e,b]:=rfl
theorem QnV (b:Nat):Qb0 [3,0,b]=Qb0 [3,b]:=rfl
theorem Qne (e b:Nat) (h0:e≠0) (h:e≤3):Qb0 [3,e,b]=Qb0 [e,b]:=by
 have h1:(if e≠0∧((3:Nat)=0∨e<3) then e else 3)=(if e≠0∧((0:Nat)=0∨e<0) then e else 0):=by
  rw[if_pos (show e≠0∧((0:Nat)=0∨e<0) from ⟨h0,.inl rfl⟩)]
  split<;>omega
 show (if b≠0∧((if e≠0∧((3:Nat)=0∨e<3) then e else 3)=0∨b<(if e≠0∧((3:Nat)=0∨e<3) then e else 3)) then b else (if e≠0∧((3:Nat)=0∨e<3) then e else 3))=(if b≠0∧((if e≠0∧((0:Nat)=0∨e<0) then e else 0)=0∨b<(if e≠0∧((0:Nat)=0∨e<0) then e else 0)) then b else (if e≠0∧((0:Nat)=0∨e<0) then e else 0))
 rw[h1]
theorem Qsk (p:Prt) (b:Nat):Qb0 [if p.kd=3 then 3 else 0,prtE p,b]=Qb0 [frmE p,b]:=by
 unfold frmE
 by_cases h3:p.kd=3
 ·rw[if_pos h3]
  by_cases h0:prtE p=0
  ·rw[if_pos ⟨h0,h3⟩,h0,QnV]
  ·rw[if_neg (fun h=>h0 h.1),Qne _ _ h0 (QxK p)]
 ·rw[if_neg h3,if_neg (fun h=>h3 h.2),Qpq]
theorem QqC (x:List UInt8) (c:Cmd) {b1 b2:List UInt8} (hs:List Hp) (h:b1.length=b2.length):Qcs x c b1 hs=Qcs x c b2 hs:=by rw[Qcs,Qcs,h]
noncomputable def sndP (x:List UInt8) (p:Prt) (hs:List Hp):List UInt8:=if QfK x p hs=0 then QnQ x p hs else QCA 768 0
theorem QiB (x:List UInt8) (p:Prt) (hs:List Hp):QfK x p hs=Qb0 [if p.kd=3 then 3 else 0,prtE p,Qcs x (Qep p) (Qgt p) hs]∧(QfK x p hs=0→sndP x p hs=bldP x (Qep p) (Qgt p) hs):=by
 have hb:=QqC x (Qep p) hs ((Qip p).trans (Qe8 p).symm)
 have h1:QfK x p hs=Qb0 [frmE p,Qcs x (Qep p) (Qgt p) hs]:=by rw[QfK,hb]
 refine⟨by rw[Qsk,h1],fun h=>?_⟩
 have h2:=h
 rw[h1,Qb3]at h2
 have f0:frmE p=0:=h2 _ (by simp)
 have b0:Qcs x (Qep p) (Qgt p) hs=0:=h2 _ (by simp)
 have p0:prtE p=0:=by
  unfold frmE at f0
  split at f0
  ·cases f0
  ·exact f0
 rw[sndP,if_pos h,bldP,if_pos b0,QnQ,QdS,if_pos f0,Qgt,if_pos p0]
theorem QsR (p:Prt):∃(KD:UInt8) (KE:Nat),(KD=2∨KD=3)∧Qep p=lcK KD∧(if p.kd=3 then 3 else 0)=KE∧(((p.kd==2)=true∧(p.kd==3)=false∧KD=3∧KE=0)∨((p.kd==2)=false∧(p.kd==3)=true∧KD=2∧KE=3)∨((p.kd==2)=false∧(p.kd==3)=false∧KD=2∧KE=0)):=by
 by_cases h2:p.kd=2
 ·exact⟨3,0,.inr rfl,by rw[Qep,if_pos h2];rfl,by rw[h2];rfl,.inl ⟨by rw[h2];rfl,by rw[h2];rfl,rfl,rfl⟩⟩
 ·by_cases h3:p.kd=3
  ·exact⟨2,3,.inl rfl,by rw[Qep,if_neg h2];rfl,if_pos h3,.inr (.inl ⟨by rw[h3];rfl,by rw[h3];rfl,rfl,rfl⟩)⟩
  ·exact⟨2,0,.inl rfl,by rw[Qep,if_neg h2];rfl,if_neg h3,.inr (.inr ⟨beq_eq_false_iff_ne.2 h2,beq_eq_false_iff_ne.2 h3,rfl,rfl⟩)⟩
theorem Qh3 (x:List UInt8) (c:Cmd) {body:List UInt8} (hs:List Hp) (hb:body.length=480):(bldP x c body hs).length=768:=by
 unfold bldP
 split
 ·rename_i h
  rw[Qcs,Qb3]at h
  obtain⟨_,_,hn1,hn5,_,_⟩:=Qel (h (QeU c hs) (by simp))
  rw[QjU,pktA,QCK,QcZ (Qcd x (pubH hs)) hb,hdrA,QCK,QCK,Qc4 (Qcd x (pubH hs) _),Qbx hn1 hn5 (fun k=>QcC _),tagA,Qbw]
 ·exact QCM
theorem QpD (k:UInt8):Tryz.prog.built 64 [(0,W8 k)]=some (CC (lcK k)).toArray:=by
 rw[QbD (pl:=[(0,1),(1,1),(2,1),(3,1),(4,16)]) Tryz.underlying64 Qyg (by kernel_rfl),Qck (vs:=[W8 k]) (off:=0) rfl rfl (by rw[Qao];simp),Qdv]
 rfl
set_option maxRecDepth 100000 in
set_option maxHeartbeats 16000000 in
theorem Qs5 (A D H:Option Addr) (nx cx nd cd n ch:Nat) (x:List UInt8) (p:Prt) (hs:List Hp) (w:World) (hx:RdB w A nx x) (hxc:nx≤cx) (hd:RdB w D nd p.da) (hnd:nd≤1048576) (hh:RdH w H n hs) (hn:n≤1048576):
 Calls Tryz.prog 10 #[.slice A nx cx,.agg (PaC p (.slice D nd cd)).toArray,.slice H n ch] w fun e w'=>e= .returned (.tuple #[.agg ((sndP x p hs).map W8).toArray,.int .i64 (QfK x p hs:Nat)])∧Later w w':=by
 have l0:(QCA 768 (0:UInt8)).length=768:=QCM
 have B0:=(Qbr w 25 (PaC p (.slice D nd cd))).fresh (Qaa _ (.cells Tryz.zeroCells37 37)) (QCL _) ((Blk.new (w.alloc (.cells (PaC p (.slice D nd cd)).toArray 25)) _ Tryz.zeroCells37.toList).cast zcP)
 have hsz:(w.alloc (.cells (PaC p (.slice D nd cd)).toArray 25)).heap.size=w.heap.size+1:=by simp only[World.alloc,Array.size_push]
 have hs2:((w.alloc (.cells (PaC p (.slice D nd cd)).toArray 25)).alloc (.cells Tryz.zeroCells37 37)).heap.size=w.heap.size+1+1:=by simp only[World.alloc,Array.size_push]
 have hCb:=Blk.new ((w.alloc (.cells (PaC p (.slice D nd cd)).toArray 25)).alloc (.cells Tryz.zeroCells37 37)) 64 cz0
 rw[hsz]at B0
 rw[hs2]at hCb
 clear hsz
 have HZ:=hid zcP
 have hz0:=hid Qg1
 have hbc:=hid QpD
 have hFr:=hid (fun w h=>QqF p D nd cd w h hnd)
 obtain⟨KD,KE,hKD2,hsc,hKE,hcs⟩:=QsR p
 obtain⟨hE,hRB⟩:=QiB x p hs
 rw[hsc,hKE]at hE
 rw[hsc]at hRB
 have hR:Hid (QfK x p hs≠0→sndP x p hs=QCA 768 0):=hid (fun h=>by rw[sndP,if_neg h])
 have hFq:Hid (prtE p=0→frmR p=Qgt p):=hid (fun h=>by rw[frmR,if_pos h,Qgt,if_pos h])
 have hFz:Hid (prtE p≠0→Qgt p=QCA 480 0):=hid (fun h=>by rw[Qgt,if_neg h])
 have hql:=Qe8 p
 have hBu:=hid (fun Bs cb w h1 h2 hc h3=>Qqc KD hKD2 A Bs H nx cx 480 cb n ch x (Qgt p) hs w h1 hxc h2 hc (by omega) h3 hn)
 have hBl:(bldP x (lcK KD) (Qgt p) hs).length=768:=by
  exact Qh3 x (lcK KD) hs hql
 have hz8:Hid (QCA 480 (Value.int .u8 0)=(QCA 480 (0:UInt8)).map W8):=hid (by rw[QDg];rfl)
 clear hKE hsc hKD2
 replace hE:=hid hE
 replace hRB:=hid hRB
 generalize frmR p=FR at *
 generalize Qgt p=SQ at *
 generalize sndP x p hs=R at *
 generalize QfK x p hs=E at *
 generalize prtE p=PE at *
 generalize Qcs x (lcK KD) SQ hs=BE at *
 generalize bldP x (lcK KD) SQ hs=BR at *
 generalize QCA 768 (0:UInt8)=Z at *
 have l1:(Z.map W8).length=768:=by rw[QCE,l0]
 go_enter Tryz.func10,Tryz.ntmps10
 rcases hcs with ⟨h2,h3,rfl,rfl⟩|⟨h2,h3,rfl,rfl⟩|⟨h2,h3,rfl,rfl⟩
 ·go_wp2_with (first
   | (refine go_b rfl ?_;refine Qam ?hw 64 _ rfl (CC (lcK 2)) (by simp only[QCW,QC7,QC2];exact hbc.out 2) ?_;(case hw=>rfl))
   | (refine Qa7 rfl ?_;refine Qb9 rfl rfl _ _ rfl hCb rfl rfl rfl ?_;intro w3 hb3 ho3
      have B3:=B0.push (Qaa _ _) (Nat.le_of_eq hs2) ho3 hb3
      have kc3:=(Qb6 (B3.nth 2 rfl)).1
      have hl3:=(B3.nth 2 rfl).lt)
   | (refine Qa7 rfl ?_;refine Qac rfl rfl _ _ _ rfl _ 0 _ _ hb3 rfl (by rw[Qao];omega) rfl (by kernel_rfl) ?_;intro v4 w4 hv4 hb4 ho4;simp[go_sem]at hv4;subst hv4
      replace hb4:Blk w4 _ 64 (CC (lcK 3)):=hb4
      have B4:=B3.write 0 rfl ho4 hb4
      have kc4:=(Qb6 (B4.nth 2 rfl)).1
      have hl4:=(B4.nth 2 rfl).lt)
   | (refine go_l rfl ?_;refine QkG rfl _ rfl (B4.nth 2 rfl) rfl ?_)
   | fail)
  (refine (hFr.out _ (hd.later B4.lat)).mono ?_);rintro e w5 ⟨A1,c1,rfl,o1,j1⟩
  have B5:=B4.later j1
  have hBc:=hid (fun v=>hBu.out A1 c1 v)
  have hls:=hid (fun g (w:World) h=>Qfu (some ⟨g,0,none⟩) 3 3 [0,PE,BE] w h (by omega))
  rw[←hE.out]at hls
  by_cases hp0:PE=0
  ·subst hp0
   have hFv:=hFq.out rfl
   subst hFv
   rw[hql]at o1 ⊢
   go_wp2_with (first
    | (refine go_l rfl ?_;refine QcG rfl _ rfl (B5.nth 0 rfl) rfl ?_)
    | fail)
   (refine (hBc.out _ (hx.later B5.lat) (OwnB.rd o1) (OwnB.cap o1) (hh.later B5.lat)).mono ?_);rintro e w6 ⟨rfl,j6⟩
   have B6:=B5.later j6
   clear hBu hBc hFr hx hh hd B3 B5
   go_wp2_with (first
    | (refine Qa7 rfl ?_;refine QaL rfl rfl _ _ rfl ((Blk.new w6 _ Tryz.zeroCells37.toList).cast HZ.out) rfl rfl hBl l1 ?_;intro w7 hb7 ho7
       have B7:=B6.push (Qaa _ _) (QCL _) ho7 hb7)
    | fail)
   refine (hls.out _ _ ((Blk.new w7 27 [.int .i64 0,.int .i64 0,.int .i64 (BE:Int)]).rd rfl)).mono ?_;rintro e w8 ⟨rfl,j8⟩
   have B8:=(B7.later (Qaa w7 (.cells #[.int .i64 0,.int .i64 0,.int .i64 (BE:Int)] 27))).later j8
   by_cases hEz:E=0
   ·have hX:=hid (hRB.out hEz)
    subst hEz
    go_wp2_with (first
     | (refine go_l rfl ?_;refine Qf4 rfl _ rfl (B8.nth 0 rfl) hBl rfl ?_)
     | (refine Qa7 rfl ?_;refine QaL rfl rfl _ _ rfl (B8.nth 2 rfl) rfl rfl hBl l1 ?_;intro w9 hb9 ho9)
     | fail)
    exact bodyPost_ret (Qag rfl _ _ _ _ _ _ hb9 rfl Tryz.underlying37 rfl (by rw[QCE,hBl];exact Qbs)) rfl ⟨by rw[hX.out];rfl,B8.lat.only ho9 (by omega)⟩
   ·have hX:=hid (hR.out hEz)
    have hne9:((E:Int) != 0)=true:=bne_iff_ne.2 (by omega)
    go_wp2_with (first
     | (refine go_b rfl ?_;refine Qam ?hw 37 _ rfl (Z.map W8) (by simp only[QCW,QC2];exact hz0.out) ?_;(case hw=>rfl))
     | (refine Qa7 rfl ?_;refine QaL rfl rfl _ _ rfl (B8.nth 2 rfl) rfl rfl l0 l1 ?_;intro w9 hb9 ho9)
     | fail)
    exact bodyPost_ret (Qag rfl _ _ _ _ _ _ hb9 rfl Tryz.underlying37 rfl (by rw[l1];exact Qbs)) rfl ⟨by rw[hX.out];rfl,B8.lat.only ho9 (by omega)⟩
  ·have hFv:=hid (hFz.out hp0)
   have f1:((PE:Int) != 0)=true:=bne_iff_ne.2 (by omega)
   have hEn:Hid (E≠0):=hid (fun h=>by
    have:=hE.out
    rw[h]at this
    exact hp0 (((Qb3 _).1 this.symm) PE (by simp)))
   go_wp2_with (first
    | (refine Qax rfl _ _ _ rfl 5 _ 1 Tryz.underlying22 Qb4 rfl _ _ _ _ 480 rfl rfl rfl rfl (by omega) (by omega) ?_;intro w6 hb6 hl6
       have B6:=B5.fresh hl6 (QCL _) (hb6.cast hz8.out))
    | (refine go_l rfl ?_;refine QcG rfl _ rfl (B6.nth 1 rfl) rfl ?_)
    | fail)
   (refine (hBu.out _ 480 _ (hx.later B6.lat) (by rw[hFv.out];exact (B6.nth 0 rfl).rd (by rw[QCE,QCM])) (QCL _) (hh.later B6.lat)).mono ?_);rintro e w7 ⟨rfl,j7⟩
   have B7:=B6.later j7
   clear hBu hBc hFr hx hh hd B3 B5 B6
   go_wp2_with (first
    | (refine Qa7 rfl ?_;refine QaL rfl rfl _ _ rfl ((Blk.new w7 _ Tryz.zeroCells37.toList).cast HZ.out) rfl rfl hBl l1 ?_;intro w8 hb8 ho8
       have B8:=B7.push (Qaa _ _) (QCL _) ho8 hb8)
    | fail)
   refine (hls.out _ _ ((Blk.new w8 27 [.int .i64 0,.int .i64 (PE:Int),.int .i64 (BE:Int)]).rd rfl)).mono ?_;rintro e w9 ⟨rfl,j9⟩
   have B9:=(B8.later (Qaa w8 (.cells #[.int .i64 0,.int .i64 (PE:Int),.int .i64 (BE:Int)] 27))).later j9
   have hX:=hid (hR.out hEn.out)
   have hne9:((E:Int) != 0)=true:=bne_iff_ne.2 (by have:=hEn.out;omega)
   go_wp2_with (first
    | (refine go_b rfl ?_;refine Qam ?hw 37 _ rfl (Z.map W8) (by simp only[QCW,QC2];exact hz0.out) ?_;(case hw=>rfl))
    | (refine Qa7 rfl ?_;refine QaL rfl rfl _ _ rfl (B9.nth 3 rfl) rfl rfl l0 l1 ?_;intro wz hbz hoz)
    | fail)
   exact bodyPost_ret (Qag rfl _ _ _ _ _ _ hbz rfl Tryz.underlying37 rfl (by rw[l1];exact Qbs)) rfl ⟨by rw[hX.out];rfl,B9.lat.only hoz (by omega)⟩
 ·go_wp2_with (first
   | (refine go_b rfl ?_;refine Qam ?hw 64 _ rfl (CC (lcK 2)) (by simp only[QCW,QC7,QC2];exact hbc.out 2) ?_;(case hw=>rfl))
   | (refine Qa7 rfl ?_;refine Qb9 rfl rfl _ _ rfl hCb rfl rfl rfl ?_;intro w3 hb3 ho3
      have B3:=B0.push (Qaa _ _) (Nat.le_of_eq hs2) ho3 hb3
      have kc3:=(Qb6 (B3.nth 2 rfl)).1
      have hl3:=(B3.nth 2 rfl).lt)
   | (refine go_l rfl ?_;refine QkG rfl _ rfl (B3.nth 2 rfl) rfl ?_)
   | fail)
  have B4:=B3
  (refine (hFr.out _ (hd.later B4.lat)).mono ?_);rintro e w5 ⟨A1,c1,rfl,o1,j1⟩
  have B5:=B4.later j1
  have hBc:=hid (fun v=>hBu.out A1 c1 v)
  have hls:=hid (fun g (w:World) h=>Qfu (some ⟨g,0,none⟩) 3 3 [3,PE,BE] w h (by omega))
  rw[←hE.out]at hls
  by_cases hp0:PE=0
  ·subst hp0
   have hFv:=hFq.out rfl
   subst hFv
   rw[hql]at o1 ⊢
   go_wp2_with (first
    | (refine go_l rfl ?_;refine QcG rfl _ rfl (B5.nth 0 rfl) rfl ?_)
    | fail)
   (refine (hBc.out _ (hx.later B5.lat) (OwnB.rd o1) (OwnB.cap o1) (hh.later B5.lat)).mono ?_);rintro e w6 ⟨rfl,j6⟩
   have B6:=B5.later j6
   clear hBu hBc hFr hx hh hd B3 B5
   go_wp2_with (first
    | (refine Qa7 rfl ?_;refine QaL rfl rfl _ _ rfl ((Blk.new w6 _ Tryz.zeroCells37.toList).cast HZ.out) rfl rfl hBl l1 ?_;intro w7 hb7 ho7
       have B7:=B6.push (Qaa _ _) (QCL _) ho7 hb7)
    | fail)
   refine (hls.out _ _ ((Blk.new w7 27 [.int .i64 3,.int .i64 0,.int .i64 (BE:Int)]).rd rfl)).mono ?_;rintro e w8 ⟨rfl,j8⟩
   have B8:=(B7.later (Qaa w7 (.cells #[.int .i64 3,.int .i64 0,.int .i64 (BE:Int)] 27))).later j8
   by_cases hEz:E=0
   ·have hX:=hid (hRB.out hEz)
    subst hEz
    go_wp2_with (first
     | (refine go_l rfl ?_;refine Qf4 rfl _ rfl (B8.nth 0 rfl) hBl rfl ?_)
     | (refine Qa7 rfl ?_;refine QaL rfl rfl _ _ rfl (B8.nth 2 rfl) rfl rfl hBl l1 ?_;intro w9 hb9 ho9)
     | fail)
    exact bodyPost_ret (Qag rfl _ _ _ _ _ _ hb9 rfl Tryz.underlying37 rfl (by rw[QCE,hBl];exact Qbs)) rfl ⟨by rw[hX.out];rfl,B8.lat.only ho9 (by omega)⟩
   ·have hX:=hid (hR.out hEz)
    have hne9:((E:Int) != 0)=true:=bne_iff_ne.2 (by omega)
    go_wp2_with (first
     | (refine go_b rfl ?_;refine Qam ?hw 37 _ rfl (Z.map W8) (by simp only[QCW,QC2];exact hz0.out) ?_;(case hw=>rfl))
     | (refine Qa7 rfl ?_;refine QaL rfl rfl _ _ rfl (B8.nth 2 rfl) rfl rfl l0 l1 ?_;intro w9 hb9 ho9)
     | fail)
    exact bodyPost_ret (Qag rfl _ _ _ _ _ _ hb9 rfl Tryz.underlying37 rfl (by rw[l1];exact Qbs)) rfl ⟨by rw[hX.out];rfl,B8.lat.only ho9 (by omega)⟩
  ·have hFv:=hid (hFz.out hp0)
   have f1:((PE:Int) != 0)=true:=bne_iff_ne.2 (by omega)
   have hEn:Hid (E≠0):=hid (fun h=>by
    have:=hE.out
    rw[h]at this
    exact hp0 (((Qb3 _).1 this.symm) PE (by simp)))
   go_wp2_with (first
    | (refine Qax rfl _ _ _ rfl 5 _ 1 Tryz.underlying22 Qb4 rfl _ _ _ _ 480 rfl rfl rfl rfl (by omega) (by omega) ?_;intro w6 hb6 hl6
       have B6:=B5.fresh hl6 (QCL _) (hb6.cast hz8.out))
    | (refine go_l rfl ?_;refine QcG rfl _ rfl (B6.nth 1 rfl) rfl ?_)
    | fail)
   (refine (hBu.out _ 480 _ (hx.later B6.lat) (by rw[hFv.out];exact (B6.nth 0 rfl).rd (by rw[QCE,QCM])) (QCL _) (hh.later B6.lat)).mono ?_);rintro e w7 ⟨rfl,j7⟩
   have B7:=B6.later j7
   clear hBu hBc hFr hx hh hd B3 B5 B6
   go_wp2_with (first
    | (refine Qa7 rfl ?_;refine QaL rfl rfl _ _ rfl ((Blk.new w7 _ Tryz.zeroCells37.toList).cast HZ.out) rfl rfl hBl l1 ?_;intro w8 hb8 ho8
       have B8:=B7.push (Qaa _ _) (QCL _) ho8 hb8)
    | fail)
   refine (hls.out _ _ ((Blk.new w8 27 [.int .i64 3,.int .i64 (PE:Int),.int .i64 (BE:Int)]).rd rfl)).mono ?_;rintro e w9 ⟨rfl,j9⟩
   have B9:=(B8.later (Qaa w8 (.cells #[.int .i64 3,.int .i64 (PE:Int),.int .i64 (BE:Int)] 27))).later j9
   have hX:=hid (hR.out hEn.out)
   have hne9:((E:Int) != 0)=true:=bne_iff_ne.2 (by have:=hEn.out;omega)
   go_wp2_with (first
    | (refine go_b rfl ?_;refine Qam ?hw 37 _ rfl (Z.map W8) (by simp only[QCW,QC2];exact hz0.out) ?_;(case hw=>rfl))
    | (refine Qa7 rfl ?_;refine QaL rfl rfl _ _ rfl (B9.nth 3 rfl) rfl rfl l0 l1 ?_;intro wz hbz hoz)
    | fail)
   exact bodyPost_ret (Qag rfl _ _ _ _ _ _ hbz rfl Tryz.underlying37 rfl (by rw[l1];exact Qbs)) rfl ⟨by rw[hX.out];rfl,B9.lat.only hoz (by omega)⟩
 ·go_wp2_with (first
   | (refine go_b rfl ?_;refine Qam ?hw 64 _ rfl (CC (lcK 2)) (by simp only[QCW,QC7,QC2];exact hbc.out 2) ?_;(case hw=>rfl))
   | (refine Qa7 rfl ?_;refine Qb9 rfl rfl _ _ rfl hCb rfl rfl rfl ?_;intro w3 hb3 ho3
      have B3:=B0.push (Qaa _ _) (Nat.le_of_eq hs2) ho3 hb3
      have kc3:=(Qb6 (B3.nth 2 rfl)).1
      have hl3:=(B3.nth 2 rfl).lt)
   | (refine go_l rfl ?_;refine QkG rfl _ rfl (B3.nth 2 rfl) rfl ?_)
   | fail)
  have B4:=B3
  (refine (hFr.out _ (hd.later B4.lat)).mono ?_);rintro e w5 ⟨A1,c1,rfl,o1,j1⟩
  have B5:=B4.later j1
  have hBc:=hid (fun v=>hBu.out A1 c1 v)
  have hls:=hid (fun g (w:World) h=>Qfu (some ⟨g,0,none⟩) 3 3 [0,PE,BE] w h (by omega))
  rw[←hE.out]at hls
  by_cases hp0:PE=0
  ·subst hp0
   have hFv:=hFq.out rfl
   subst hFv
   rw[hql]at o1 ⊢
   go_wp2_with (first
    | (refine go_l rfl ?_;refine QcG rfl _ rfl (B5.nth 0 rfl) rfl ?_)
    | fail)
   (refine (hBc.out _ (hx.later B5.lat) (OwnB.rd o1) (OwnB.cap o1) (hh.later B5.lat)).mono ?_);rintro e w6 ⟨rfl,j6⟩
   have B6:=B5.later j6
   clear hBu hBc hFr hx hh hd B3 B5
   go_wp2_with (first
    | (refine Qa7 rfl ?_;refine QaL rfl rfl _ _ rfl ((Blk.new w6 _ Tryz.zeroCells37.toList).cast HZ.out) rfl rfl hBl l1 ?_;intro w7 hb7 ho7
       have B7:=B6.push (Qaa _ _) (QCL _) ho7 hb7)
    | fail)
   refine (hls.out _ _ ((Blk.new w7 27 [.int .i64 0,.int .i64 0,.int .i64 (BE:Int)]).rd rfl)).mono ?_;rintro e w8 ⟨rfl,j8⟩
   have B8:=(B7.later (Qaa w7 (.cells #[.int .i64 0,.int .i64 0,.int .i64 (BE:Int)] 27))).later j8
   by_cases hEz:E=0
   ·have hX:=hid (hRB.out hEz)
    subst hEz
    go_wp2_with (first
     | (refine go_l rfl ?_;refine Qf4 rfl _ rfl (B8.nth 0 rfl) hBl rfl ?_)
     | (refine Qa7 rfl ?_;refine QaL rfl rfl _ _ rfl (B8.nth 2 rfl) rfl rfl hBl l1 ?_;intro w9 hb9 ho9)
     | fail)
    exact bodyPost_ret (Qag rfl _ _ _ _ _ _ hb9 rfl Tryz.underlying37 rfl (by rw[QCE,hBl];exact Qbs)) rfl ⟨by rw[hX.out];rfl,B8.lat.only ho9 (by omega)⟩
   ·have hX:=hid (hR.out hEz)
    have hne9:((E:Int) != 0)=true:=bne_iff_ne.2 (by omega)
    go_wp2_with (first
     | (refine go_b rfl ?_;refine Qam ?hw 37 _ rfl (Z.map W8) (by simp only[QCW,QC2];exact hz0.out) ?_;(case hw=>rfl))
     | (refine Qa7 rfl ?_;refine QaL rfl rfl _ _ rfl (B8.nth 2 rfl) rfl rfl l0 l1 ?_;intro w9 hb9 ho9)
     | fail)
    exact bodyPost_ret (Qag rfl _ _ _ _ _ _ hb9 rfl Tryz.underlying37 rfl (by rw[l1];exact Qbs)) rfl ⟨by rw[hX.out];rfl,B8.lat.only ho9 (by omega)⟩
  ·have hFv:=hid (hFz.out hp0)
   have f1:((PE:Int) != 0)=true:=bne_iff_ne.2 (by omega)
   have hEn:Hid (E≠0):=hid (fun h=>by
    have:=hE.out
    rw[h]at this
    exact hp0 (((Qb3 _).1 this.symm) PE (by simp)))
   go_wp2_with (first
    | (refine Qax rfl _ _ _ rfl 5 _ 1 Tryz.underlying22 Qb4 rfl _ _ _ _ 480 rfl rfl rfl rfl (by omega) (by omega) ?_;intro w6 hb6 hl6
       have B6:=B5.fresh hl6 (QCL _) (hb6.cast hz8.out))
    | (refine go_l rfl ?_;refine QcG rfl _ rfl (B6.nth 1 rfl) rfl ?_)
    | fail)
   (refine (hBu.out _ 480 _ (hx.later B6.lat) (by rw[hFv.out];exact (B6.nth 0 rfl).rd (by rw[QCE,QCM])) (QCL _) (hh.later B6.lat)).mono ?_);rintro e w7 ⟨rfl,j7⟩
   have B7:=B6.later j7
   clear hBu hBc hFr hx hh hd B3 B5 B6
   go_wp2_with (first
    | (refine Qa7 rfl ?_;refine QaL rfl rfl _ _ rfl ((Blk.new w7 _ Tryz.zeroCells37.toList).cast HZ.out) rfl rfl hBl l1 ?_;intro w8 hb8 ho8
       have B8:=B7.push (Qaa _ _) (QCL _) ho8 hb8)
    | fail)
   refine (hls.out _ _ ((Blk.new w8 27 [.int .i64 0,.int .i64 (PE:Int),.int .i64 (BE:Int)]).rd rfl)).mono ?_;rintro e w9 ⟨rfl,j9⟩
   have B9:=(B8.later (Qaa w8 (.cells #[.int .i64 0,.int .i64 (PE:Int),.int .i64 (BE:Int)] 27))).later j9
   have hX:=hid (hR.out hEn.out)
   have hne9:((E:Int) != 0)=true:=bne_iff_ne.2 (by have:=hEn.out;omega)
   go_wp2_with (first
    | (refine go_b rfl ?_;refine Qam ?hw 37 _ rfl (Z.map W8) (by simp only[QCW,QC2];exact hz0.out) ?_;(case hw=>rfl))
    | (refine Qa7 rfl ?_;refine QaL rfl rfl _ _ rfl (B9.nth 3 rfl) rfl rfl l0 l1 ?_;intro wz hbz hoz)
    | fail)
   exact bodyPost_ret (Qag rfl _ _ _ _ _ _ hbz rfl Tryz.underlying37 rfl (by rw[l1];exact Qbs)) rfl ⟨by rw[hX.out];rfl,B9.lat.only hoz (by omega)⟩
theorem Qio (x:List UInt8) (p:Prt) (hs:List Hp):(sndP x p hs).length=768:=by
 by_cases h:QfK x p hs=0
 ·rw[(QiB x p hs).2 h]
  exact Qh3 _ _ _ (Qe8 p)
 ·rw[sndP,if_neg h]
  exact QCM
noncomputable def Qgu (hs:List Hp):Bool:=hs.all fun h=>Qbg h.nod.priv.val (nb 9)==h.nod.pub.val
theorem Qvi {hs:List Hp} {k:Nat} (hk:k<hs.length) (h:(Qbg (hs.getD k hp0).nod.priv.val (nb 9)==(hs.getD k hp0).nod.pub.val)=false):Qgu hs=false:=by
 rw[Qgu,List.all_eq_false]
 refine⟨hs[k],QD2 hk,?_⟩
 rw[QCI,QCH hk]at h
 exact Bool.eq_false_iff.1 h
theorem Qr9 {hs:List Hp} (h:∀j,j<hs.length→Qbg (hs.getD j hp0).nod.priv.val (nb 9)=(hs.getD j hp0).nod.pub.val):Qgu hs=true:=by
 rw[Qgu,QDm]
 intro x hx
 obtain⟨k,hk,rfl⟩:=List.getElem_of_mem hx
 have:=h k hk
 rw[QCI,QCH hk]at this
 exact beq_iff_eq.2 this
theorem Qs8 {hs:List Hp} (h:Qgu hs=true):∀j,j<hs.length→Qbg (hs.getD j hp0).nod.priv.val (nb 9)=(hs.getD j hp0).nod.pub.val:=by
 intro j hj
 rw[Qgu,QDm]at h
 have:=h hs[j] (QD2 hj)
 rw[QCI,QCH hj]
 exact beq_iff_eq.1 this
set_option maxRecDepth 100000 in
set_option maxHeartbeats 8000000 in
theorem QpV (A:Option Addr) (n c:Nat) (hs:List Hp) (w:World) (hh:RdH w A n hs) (hn:n≤1048576):
 Calls Tryz.prog 24 #[.slice A n c] w fun e w'=>e= .returned (.bool (Qgu hs))∧Later w w':=by
 have hl:=hh.1
 have hno:=hid (fun k h1 h2=>Qvi (hs:=hs) (k:=k) h1 h2)
 have hys:=hid (fun h=>Qr9 (hs:=hs) h)
 rw[hl]at hno hys
 generalize Qgu hs=R at *
 go_enter Tryz.func24,Tryz.ntmps24
 go_wp2_with fail
 go_loopw [9] (fun i wr=>∃k:Nat,k≤n∧i= .int .i64 k∧Hid (∀ j,j<k→Qbg (hs.getD j hp0).nod.priv.val (nb 9)=(hs.getD j hp0).nod.pub.val)∧Later w wr) (fun i _=>n-(intOf i).toNat)
 case atStart=>exact⟨0,by omega,rfl,hid (fun j hj=>absurd hj (by omega)),Later.refl w⟩
 case round=>
  obtain⟨k,hk,rfl,hm,L⟩:=hrel
  by_cases hlt:k<n
  ·obtain⟨b,o,rfl,hbb,hc⟩:=(hh.later L).at_ hlt
   have hgo:=hid (fun h:Qbg (hs.getD k hp0).nod.priv.val (nb 9)=(hs.getD k hp0).nod.pub.val=>(fun j hj=>by
    by_cases e:j=k
    ·rw[e];exact h
    ·exact hm.out j (by omega):∀j,j<k+1→Qbg (hs.getD j hp0).nod.priv.val (nb 9)=(hs.getD j hp0).nod.pub.val))
   have hnk:=hid (hno.out k hlt)
   clear hm hno hys
   generalize hs.getD k hp0=z at *
   obtain⟨MY,hMY⟩:∃MY:Y32,MY.val=Qbg z.nod.priv.val (nb 9):=⟨⟨_,QaP _ _⟩,rfl⟩
   rw[←hMY]at hgo hnk
   have hPu:=hid (fun A w h=>Qp1 A 32 32 z.nod.priv.val w h (by omega))
   rw[←hMY]at hPu
   clear hMY
   replace hc:=hid hc
   have hzz:Tryz.zeroCells76.toList.length=68:=by kernel_rfl
   replace hzz:=hid hzz
   go_wp2_with (first
    | (refine go_l rfl ?_;refine QaB rfl 76 _ rfl b (o+k*68) (HC z) hc.out rfl _ Tryz.underlying76 rfl (by rw[Qa4];exact Qha) ?_)
    | (refine Qa7 rfl ?_;refine QaO rfl rfl 76 _ _ rfl wr.heap.size _ _ (HC z) (Blk.new wr _ Tryz.zeroCells76.toList) rfl rfl 68 Qha (Qa4 _) hzz.out (Qoq _) ?_;intro w3 hb3 ho3
       have B3:Bag w w3 [(wr.heap.size,76,HC z)]:=((Bag.none w).later L).push (Qaa _ _) (QCL _) ho3 hb3
       have hl3:=(B3.nth 0 rfl).lt)
    | fail)
   (refine (hPu.out _ _ (Qc9 hl3 (fun j v hv=>(B3.nth 0 rfl).cellD _ (QfO z (Qg0 _ hv))) z.nod.priv.2)).mono ?_);rintro e w4 ⟨rfl,j4⟩
   have B4:=B3.later j4
   have hcp:∀(w':World),Bag w w' [(w4.heap.size,30,MY.val.map W8),(wr.heap.size,76,HC z)]→∀j v,(z.nod.pub.val.map W8)[j]?=some v→w'.cell? ⟨wr.heap.size,34+j,none⟩=some v:=fun w' B j v hv=>(B.nth 1 rfl).cellD _ (QfO z (Qwf _ hv))
   replace hcp:=hid hcp
   cases heq:(MY.val==z.nod.pub.val)
   ·have hnq:(MY.val != z.nod.pub.val)=true:=by rw[bne,heq];rfl
    obtain rfl:=hnk.out heq
    go_wp2_with (first
     | (refine Qa7 rfl ?_;refine QaJ rfl rfl _ _ rfl (Blk.new w4 _ (QCA 32 (.int .u8 0))) rfl rfl MY.2 rfl ?_;intro w5 hb5 ho5
        have B5:=B4.push (Qaa _ _) (QCL _) ho5 hb5)
     | (refine go_l rfl ?_;refine Qg4 rfl _ rfl (fun j v hv=>by rw[QC6];exact (B5.nth 0 rfl).cellD j hv) MY.2 rfl ?_)
     | (refine go_l rfl ?_;refine Qg4 rfl _ rfl (hcp.out _ B5) z.nod.pub.2 rfl ?_)
     | fail)
    go_ret
    exact⟨rfl,B5.lat⟩
   ·have hgo':=hid (hgo.out (by simpa using heq))
    have hnq:(MY.val != z.nod.pub.val)=false:=by rw[bne,heq];rfl
    go_wp2_with (first
     | (refine Qa7 rfl ?_;refine QaJ rfl rfl _ _ rfl (Blk.new w4 _ (QCA 32 (.int .u8 0))) rfl rfl MY.2 rfl ?_;intro w5 hb5 ho5
        have B5:=B4.push (Qaa _ _) (QCL _) ho5 hb5)
     | (refine go_l rfl ?_;refine Qg4 rfl _ rfl (fun j v hv=>by rw[QC6];exact (B5.nth 0 rfl).cellD j hv) MY.2 rfl ?_)
     | (refine go_l rfl ?_;refine Qg4 rfl _ rfl (hcp.out _ B5) z.nod.pub.2 rfl ?_)
     | fail)
    exact⟨⟨k+1,by omega,by go_num,hgo',B5.lat⟩,by simp[intOf];omega⟩
  ·obtain rfl:k=n:=by omega
   obtain rfl:=hys.out hm.out
   go_wp2_with fail
   go_ret
   exact⟨rfl,L⟩
def QfM:Prt:=⟨2,0,0,1,[]⟩
set_option maxRecDepth 100000 in
set_option maxHeartbeats 4000000 in
theorem Qs7 (A:Option Addr) (n c:Nat) (hs:List Hp) (w:World) (hh:RdH w A n hs) (hnc:n≤c):
 Calls Tryz.prog 9 #[.slice A n c,.int .i64 3] w fun e w'=>∃A' c',e= .returned (.slice A' (min n 3) c')∧RdH w' A' (min n 3) (hs.take 3)∧Later w w':=by
 have hl:=hh.1
 by_cases h:3<n
 ·have hm:min n 3=3:=by omega
  have hd:decide ((3:Int)<(n:Int))=true:=decide_eq_true (by omega)
  have hr:=Qtw hh (m:=3) (by omega)
  rw[hm]
  go_enter Tryz.func9,Tryz.ntmps9
  go_wp2_with (first
   | (refine Qfm (F:=HC) (d:=hp0) Qa4 (by omega) rfl _ _ _ rfl 76 _ 104 Tryz.underlying26 Qwc rfl w.heap.size A 3 c _ (hr.later (Qaa _ _)) rfl rfl (by omega) (by omega) ?_;intro A1 c1 w1 h1 l1)
   | fail)
  go_ret
  exact⟨A1,c1,rfl,h1,(Qaa _ _).trans l1⟩
 ·have hm:min n 3=n:=by omega
  have hd:decide ((3:Int)<(n:Int))=false:=decide_eq_false (by omega)
  rw[hm,QCP (by omega)]
  go_enter Tryz.func9,Tryz.ntmps9
  go_wp2_with (first
   | (refine Qfm (F:=HC) (d:=hp0) Qa4 (by omega) rfl _ _ _ rfl 76 _ 104 Tryz.underlying26 Qwc rfl w.heap.size A n c _ (hh.later (Qaa _ _)) rfl rfl (by omega) (by omega) ?_;intro A1 c1 w1 h1 l1)
   | fail)
  go_ret
  exact⟨A1,c1,rfl,h1,(Qaa _ _).trans l1⟩
theorem Qqw:Tryz.prog.built 25 [(0,.int .u8 2),(3,.int .i64 1)]=some (PaC QfM (.slice none 0 0)).toArray:=by kernel_rfl
set_option maxRecDepth 100000 in
set_option maxHeartbeats 4000000 in
theorem Qvd (A H:Option Addr) (nx cx n ch:Nat) (x:List UInt8) (hs:List Hp) (w:World) (hx:RdB w A nx x) (hxc:nx≤cx) (hh:RdH w H n hs) (hn:n≤1048576):
 Calls Tryz.prog 23 #[.slice A nx cx,.slice H n ch] w fun e w'=>e= .returned (.tuple #[.agg ((sndP x QfM hs).map W8).toArray,.int .i64 (QfK x QfM hs:Nat)])∧Later w w':=by
 have l0:(QCA 768 (0:UInt8)).length=768:=QCM
 have B0:Bag w (w.alloc (.cells Tryz.zeroCells37 37)) [(w.heap.size,37,(QCA 768 (0:UInt8)).map W8)]:=(Bag.none w).add (Qaa _ _) (by simp) (QCL _) ((Blk.new w _ Tryz.zeroCells37.toList).cast zcP)
 have hbh:=hid Qqw
 have hSn:=hid (fun w h1 h2 h3=>Qs5 A none H nx cx 0 0 n ch x QfM hs w h1 hxc h2 (by omega) h3 hn)
 have hRl:=Qio x QfM hs
 generalize sndP x QfM hs=R at *
 generalize QfK x QfM hs=E at *
 generalize QCA 768 (0:UInt8)=Z at *
 have l1:(Z.map W8).length=768:=by rw[QCE,l0]
 go_enter Tryz.func23,Tryz.ntmps23
 go_wp2_with (first
  | (refine go_b rfl ?_;refine Qam ?hw 25 _ rfl (PaC QfM (.slice none 0 0)) (by simp only[QCW,QC7,QC2];exact hbh.out) ?_;(case hw=>rfl))
  | fail)
 (refine (hSn.out _ (hx.later B0.lat) (QhS _) (hh.later B0.lat)).mono ?_);rintro e w2 ⟨rfl,j2⟩
 have B2:=B0.later j2
 go_wp2_with (first
  | (refine Qa7 rfl ?_;refine QaL rfl rfl _ _ rfl (B2.nth 0 rfl) rfl rfl hRl l1 ?_;intro w3 hb3 ho3)
  | fail)
 exact bodyPost_ret (Qag rfl _ _ _ _ _ _ hb3 rfl Tryz.underlying37 rfl (by rw[QCE,hRl];exact Qbs)) rfl ⟨rfl,B2.lat.only ho3 (QCL _)⟩
theorem QsG (us:List UInt8):QaX [] us=2:=by
 unfold QaX
 rw[if_neg (by simp)]
theorem QwF (p:List UInt8):unwE [] p=2∧unwC [] p=cmd0∧unwP [] p=QCA 768 0∧unwB [] p=[]:=by
 have h:=QsG (p.take 32)
 refine⟨?_,?_,?_,?_⟩
 ·rw[unwE,if_neg (by omega),h]
 ·rw[unwC,if_neg (by omega)]
 ·rw[unwP,if_neg (by omega)]
 ·rw[unwB,if_neg (by omega)]
section
variable {ops:Array Oper} {o:Oper} {a:Act} {w:World}
theorem QnZ (hw:Region.wanted o (yielded ops a.tmps)=true) (ho:o.op= .alloc 78):
 Makes Tryz.prog ops o (fun g=>.pointer (some ⟨g,0,none⟩)) (.cells Tryz.zeroCells78 78) a:=
 ⟨hw,fun w=>by
   unfold execOp
   rw[ho]
   simp[go_sem]⟩
end
set_option maxRecDepth 100000 in
set_option maxHeartbeats 16000000 in
theorem QkB (A H:Option Addr) (nx cx n ch:Nat) (x:List UInt8) (hs0:List Hp) (bit:Int) (w:World) (hx:RdB w A nx x) (hxc:nx≤cx) (hh:RdH w H n hs0) (hnc:n≤ch):
 Calls Tryz.prog 4 #[.slice A nx cx,.slice H n ch,.int .i64 bit] w fun e w'=>e= .returned (.bool true)∧Later w w':=by
 have HZ:=hid zcP
 have HZp:=hid zcPe
 have hz0:=hid Qg1
 have hzl:(PC cmd0 z768 nil8).length=789:=QbI _ QaN _
 have l0:(QCA 768 (0:UInt8)).length=768:=QCM
 have hU0:=hid (fun w=>QgV none 0 0 [] (QCA 768 (0:UInt8)) w (QhS w) (by omega) l0)
 obtain⟨q1,q2,q3,q4⟩:=QwF (QCA 768 (0:UInt8))
 rw[q1,q2,q3,q4]at hU0
 clear q1 q2 q3 q4
 have hFw:=hid (fun w h=>Qs7 H n ch hs0 w h hnc)
 obtain⟨m,hm⟩:∃m,min n 3=m:=⟨_,rfl⟩
 obtain⟨hs,hhs⟩:∃hs,hs0.take 3=hs:=⟨_,rfl⟩
 rw[hm,hhs]at hFw
 have hm3:m≤3:=by omega
 have hHo:=hid (fun A2 c2 w h=>Qvr A2 m c2 hs w h (by omega))
 have hHi:=hid (fun H2 h2 w h1 hh2=>Qvd A H2 nx cx m h2 x hs w h1 hxc hh2 (by omega))
 have hMa:=hid (fun A2 c2 w h=>QpV A2 m c2 hs w h (by omega))
 have hap:=hid (fun h h2=>QrS (x:=x) (p:=QfM) (hs:=hs) h h2)
 have hma:=hid (fun h=>Qs8 (hs:=hs) h)
 have hsv:Hid (QfK x QfM hs=0→sndP x QfM hs=QnQ x QfM hs):=hid (fun h=>by rw[sndP,if_pos h])
 have hRl:=Qio x QfM hs
 generalize sndP x QfM hs=R at *
 generalize QnQ x QfM hs=SB at *
 generalize QfK x QfM hs=E at *
 generalize QCA 768 (0:UInt8)=Z at *
 have l1:(Z.map W8).length=768:=by rw[QCE,l0]
 go_enter Tryz.func4,Tryz.ntmps4
 go_wp2_with (first
  | (refine go_b rfl ?_;refine Qam ?hw 37 _ rfl (Z.map W8) (by simp only[QCW,QC2];exact hz0.out) ?_;(case hw=>rfl))
  | fail)
 (refine (hU0.out _).mono ?_);rintro e w1 ⟨A1,c1,rfl,_,j1⟩
 go_wp2_with (first
  | (refine Qa7 rfl ?_;refine QcJ rfl rfl _ _ rfl ((Blk.new w1 _ Tryz.zeroCells68.toList).cast HZp.out) rfl rfl l0 rfl hzl ?_;intro w2 hb2 ho2
     have B2:Bag w w2 _:=((Bag.none w).later j1).push (Qaa _ _) (QCL _) ho2 hb2)
  | fail)
 (refine (hFw.out _ (hh.later B2.lat)).mono ?_);rintro e w3 ⟨A3,c3,rfl,r3,j3⟩
 have L3:=B2.lat.trans j3
 clear B2 hb2 ho2 j1 j3 hFw hh hU0
 go_wp2_with fail
 (refine (hHo.out _ _ _ r3).mono ?_);rintro e w4 ⟨A4,c4,rfl,r4,j4⟩
 go_wp2_with fail
 (refine (hHi.out _ _ _ (hx.later (L3.trans j4)) r4).mono ?_);rintro e w5 ⟨rfl,j5⟩
 have L5:=(L3.trans j4).trans j5
 have r5:=r3.later (j4.trans j5)
 clear hHo hHi r3 r4 L3 j4 j5 hx
 by_cases hE:E=0
 case neg=>
  have hne:((E:Int) != 0)=true:=bne_iff_ne.2 (by omega)
  go_wp2_with (first
   | (refine Qa7 rfl ?_;refine QaL rfl rfl _ _ rfl ((Blk.new w5 _ Tryz.zeroCells37.toList).cast HZ.out) rfl rfl hRl l1 ?_;intro w6 hb6 ho6
      have L6:=((Bag.none w).later L5).push (Qaa _ _) (QCL _) ho6 hb6)
   | fail)
  go_ret
  exact⟨rfl,L6.lat⟩
 subst hE
 have hRS:=hsv.out rfl
 subst hRS
 cases hM:Qgu hs
 ·rw[hM]at hMa
  go_wp2_with (first
   | (refine Qa7 rfl ?_;refine QaL rfl rfl _ _ rfl ((Blk.new w5 _ Tryz.zeroCells37.toList).cast HZ.out) rfl rfl hRl l1 ?_;intro w6 hb6 ho6
      have B6:=((Bag.none w).later L5).push (Qaa _ _) (QCL _) ho6 hb6
      have r6:=r5.later ((Qaa w5 (.cells Tryz.zeroCells37 37)).only ho6 (QCL _)))
   | fail)
  (refine (hMa.out _ _ _ r6).mono ?_);rintro e w7 ⟨rfl,j7⟩
  go_wp2_with fail
  go_ret
  exact⟨rfl,B6.lat.trans j7⟩
 obtain⟨Y,hm1,hY0,hYn,hY⟩:=hap.out rfl (hma.out hM)
 replace hYn:=hid hYn
 replace hY:=hid hY
 subst hY0
 rw[hM]at hMa
 by_cases hb0:bit<0
 ·have d0:decide (bit<0)=true:=decide_eq_true hb0
  go_wp2_with (first
   | (refine Qa7 rfl ?_;refine QaL rfl rfl _ _ rfl ((Blk.new w5 _ Tryz.zeroCells37.toList).cast HZ.out) rfl rfl hRl l1 ?_;intro w6 hb6 ho6
      have B6:=((Bag.none w).later L5).push (Qaa _ _) (QCL _) ho6 hb6
      have r6:=r5.later ((Qaa w5 (.cells Tryz.zeroCells37 37)).only ho6 (QCL _)))
   | fail)
  (refine (hMa.out _ _ _ r6).mono ?_);rintro e w7 ⟨rfl,j7⟩
  go_wp2_with fail
  go_ret
  exact⟨rfl,B6.lat.trans j7⟩
 have d0:decide (bit<0)=false:=decide_eq_false hb0
 by_cases hb1:2304≤bit
 ·have d1:decide (2304≤bit)=true:=decide_eq_true hb1
  go_wp2_with (first
   | (refine Qa7 rfl ?_;refine QaL rfl rfl _ _ rfl ((Blk.new w5 _ Tryz.zeroCells37.toList).cast HZ.out) rfl rfl hRl l1 ?_;intro w6 hb6 ho6
      have B6:=((Bag.none w).later L5).push (Qaa _ _) (QCL _) ho6 hb6
      have r6:=r5.later ((Qaa w5 (.cells Tryz.zeroCells37 37)).only ho6 (QCL _)))
   | fail)
  (refine (hMa.out _ _ _ r6).mono ?_);rintro e w7 ⟨rfl,j7⟩
  go_wp2_with fail
  go_ret
  exact⟨rfl,B6.lat.trans j7⟩
 have d1:decide (2304≤bit)=false:=decide_eq_false hb1
 go_wp2_with (first
  | (refine Qa7 rfl ?_;refine QaL rfl rfl _ _ rfl ((Blk.new w5 _ Tryz.zeroCells37.toList).cast HZ.out) rfl rfl hRl l1 ?_;intro w6 hb6 ho6
     have B6:=(Bag.none w5).push (Qaa _ _) (QCL _) ho6 hb6
     have r6:=r5.later ((Qaa w5 (.cells Tryz.zeroCells37 37)).only ho6 (QCL _)))
  | fail)
 (refine (hMa.out _ _ _ r6).mono ?_);rintro e w7 ⟨rfl,j7⟩
 have B7:=B6.later j7
 clear B6 r6 hMa hma hap
 go_wp2_with fail
 obtain⟨bi,rfl⟩:=Int.eq_ofNat_of_zero_le (show 0≤bit by omega)
 obtain⟨q,hq⟩:∃q,bi/8=q:=⟨_,rfl⟩
 obtain⟨r,hr⟩:∃r,bi%8=r:=⟨_,rfl⟩
 have hq288:q<288:=by omega
 have hr8:r<8:=by omega
 have h1:((bi:Int)).tdiv 8=(q:Int):=by rw[Int.tdiv_eq_ediv_of_nonneg (by omega)];omega
 have h2:((bi:Int)).tmod 8=(r:Int):=by rw[Int.tmod_eq_emod_of_nonneg (by omega)];omega
 have h3:((bi:Int))/8=(q:Int):=by omega
 have h4:((bi:Int))%8=(r:Int):=by omega
 clear hq hr hb0 hb1 d0 d1
 generalize hg9:w5.heap.size=g9 at B7
 go_loopw [53] (fun i wr=>∃k:Nat,k≤m∧i= .int .i64 k∧Bag w5 wr [(g9,37,(Y k).val.map W8)]) (fun i _=>m-(intOf i).toNat)
 case atStart=>exact⟨0,by omega,rfl,B7⟩
 case round=>
  clear B7
  obtain⟨k,hk,rfl,B⟩:=hrel
  by_cases hlt:k<m
  ·obtain⟨b,o,rfl,hbb,hc⟩:=(r5.later B.lat).at_ hlt
   have hml:hs.length=m:=r5.1
   obtain⟨u1,u2,_⟩:=hY.out k (by omega)
   have u3:unwP (hs.getD k hp0).nod.priv.val (Y k).val=(Y (k+1)).val:=congrArg (fun e=>e.P.val) u2
   have hyl:(Y k).val.length=768:=(Y k).2
   have hyn:(Y (k+1)).val.length=768:=(Y (k+1)).2
   clear u2 hml
   generalize hs.getD k hp0=z at *
   generalize (Y k).val=P at *
   generalize hPN:(Y (k+1)).val=PN at *
   replace hPN:=hid hPN
   have hBy:=hid (fun w=>Qpu P hyl w)
   replace hc:=hid hc
   have hzz:Tryz.zeroCells76.toList.length=68:=by kernel_rfl
   replace hzz:=hid hzz
   replace u1:=hid u1
   replace u3:=hid u3
   go_wp2_with (first
    | (refine go_l rfl ?_;refine QaB rfl 76 _ rfl b (o+k*68) (HC z) hc.out rfl _ Tryz.underlying76 rfl (by rw[Qa4];exact Qha) ?_)
    | (refine Qa7 rfl ?_;refine QaO rfl rfl 76 _ _ rfl wr.heap.size _ _ (HC z) (Blk.new wr _ Tryz.zeroCells76.toList) rfl rfl 68 Qha (Qa4 _) hzz.out (Qoq _) ?_;intro w3 hb3 ho3
       have B3:=B.push (Qaa _ _) (QCL _) ho3 hb3)
    | (refine go_l rfl ?_;refine Qf4 rfl _ rfl (B3.nth 1 rfl) hyl rfl ?_)
    | fail)
   (refine (hBy.out _).mono ?_);rintro e w4 ⟨A4,c4,rfl,o4,j4⟩
   obtain⟨g5,r6,rfl,hg5,hb5,hc5,hcc5⟩:=QhT o4 (by omega)
   have Ce:=B3.fresh j4 hg5 hb5
   clear B3 o4 j4 hg5 hb5 hc5 hBy
   have hfl:=QlS P q r
   rw[hyl]at hfl
   have hget:P[q]?=some (P.getD q 0):=by rw[QCI,QCH (by omega)];rfl
   have hfs:Hid (P.set q (P.getD q 0 ^^^ QDe (2^r))=Qxt P q r):=hid rfl
   generalize Qxt P q r=T at *
   have C1:=Ce.drew
   have d0:=(C1.nth 0 rfl).cellD q (u:=W8 (P.getD q 0)) (by rw[QCU (by rw[QCE];omega),QCS,hget];rfl)
   have y1:=(C1.nth 0 rfl).lt
   have hcol:q<(P.map W8++r6).length:=by rw[QCK,QCE];omega
   have hst:Hid (∀ v,(P.map W8++r6).set q (W8 v)=(P.set q v).map W8++r6):=hid (fun v=>by rw[List.set_append_left _ _ (by rw[QCE];omega),QbP])
   clear hget Ce
   generalize P.getD q 0=xq at *
   have hPr:=hid (fun A2 c2 w h hc=>Qp7 A2 c2 T w h hc)
   go_wp2_with fail
   refine Qaf [] [0,1,2,3,4,5,6,7,8,9] [10] (by as_aux_lemma=>kernel_rfl) (by as_aux_lemma=>kernel_rfl) (by intro _ _ d _ _ h;cases d<;>exact h) ?_
   simp only[Qah,pick,QCB,QCC,QCD,QCF,QCG]
   repeat (go_big_quiet_step (fail))
   refine wpQuiet_nil ?_
   go_wp2_with (first
    | (refine Qac rfl rfl _ _ _ rfl g5 q _ _ (C1.nth 0 rfl) rfl hcol rfl Qbu ?_;intro v6 w6 hv6 hb6 ho6;simp[go_sem]at hv6;subst hv6;rw[hst.out,hfs.out]at hb6
       have C2:=C1.write 0 rfl ho6 hb6)
    | fail)
   have hrt:=Qez (C2.nth 0 rfl) hfl
   clear hb6 ho6 d0 y1 C1 hst hcol
   (refine (hPr.out _ _ _ hrt hcc5).mono ?_);rintro e w7 ⟨rfl,j7⟩
   have C3:=C2.later j7
   go_wp2_with (first
    | (refine Qa7 rfl ?_;refine QaL rfl rfl _ _ rfl ((Blk.new w7 _ Tryz.zeroCells37.toList).cast HZ.out) rfl rfl hfl l1 ?_;intro w8 hb8 ho8
       have C4:=C3.push (Qaa _ _) (QCL _) ho8 hb8)
    | fail)
   have hU:=hid (fun (w:World) A' c' h=>QgV A' 32 c' z.nod.priv.val T w h (by omega) hfl)
   have hPl:=QiG z.nod.priv.val T hfl
   have hal:(T.take 32).length=32:=by rw[QC1];omega
   have hPe:=hid (fun (w:World) A' B' c' d' h1 h2=>QuE A' B' 32 c' 32 d' z.nod.priv.val (T.take 32) w h1 h2 (by omega) (by omega))
   have hsl:=Qc5 z.nod.priv.val (T.take 32)
   have hEr:=hid (fun h=>Qyw (k:=z.nod.priv.val) (p:=T) h)
   have hFit:=hid (QtK (k:=z.nod.priv.val) (t:=T))
   rw[Qu4]at hFit
   have hkm:(kMac (QbB z.nod.priv.val (T.take 32))).length=32:=Qan (by omega)
   have hTg:=hid (fun (w:World) A' B' c' d' h1 h2=>Qua A' B' 32 c' 240 d' (kMac (QbB z.nod.priv.val (T.take 32))) (T.take 32) (subB T 48 240) w hkm h1 h2 (by omega) (by omega))
   have hEq:=hid (fun (w:World) A' B' c' d' h1 h2=>Qrt A' B' 16 16 c' d' (tagB (kMac (QbB z.nod.priv.val (T.take 32))) (T.take 32) (subB T 48 240)) (subB T 32 16) w h1 h2)
   have hkm0:Hid (subB (QbB z.nod.priv.val (T.take 32)) 0 32=kMac (QbB z.nod.priv.val (T.take 32))):=hid rfl
   have hRd:=hid (fun w g c' (h:Blk w g 5 (T.map W8++c'))=>(⟨RdB.take (Qez h hfl) (m:=32) (by omega),QqQ (Qez h hfl) 32 16 (by omega) (by omega),QqQ (Qez h hfl) 48 240 (by omega) (by omega)⟩:RdB w (some ⟨g,0,none⟩) 32 (T.take 32)∧RdB w (some ⟨g,0+32,none⟩) 16 (subB T 32 16)∧RdB w (some ⟨g,0+48,none⟩) 240 (subB T 48 240)))
   have hU2:=hid (fun (w:World) A' c' h=>QgV A' 32 c' z.nod.priv.val P w h (by omega) hyl)
   rw[u1.out,u3.out]at hU2
   generalize decide (tagB (kMac (QbB z.nod.priv.val (T.take 32))) (T.take 32) (subB T 48 240)=subB T 32 16)=F at *
   generalize tagB (kMac (QbB z.nod.priv.val (T.take 32))) (T.take 32) (subB T 48 240)=TG at *
   generalize kMac (QbB z.nod.priv.val (T.take 32))=KM at *
   generalize QbB z.nod.priv.val (T.take 32)=S at *
   generalize QaX z.nod.priv.val (T.take 32)=ME at *
   generalize T.take 32=al at *
   generalize subB T 48 240=be at *
   generalize subB T 32 16=tg at *
   generalize unwE z.nod.priv.val T=UE at *
   generalize unwC z.nod.priv.val T=UC at *
   generalize unwP z.nod.priv.val T=UP at *
   generalize unwB z.nod.priv.val T=UB at *
   generalize unwC z.nod.priv.val P=VC0 at *
   generalize unwB z.nod.priv.val P=VB0 at *
   have C5:=C4.drew
   have hl5:=(C5.nth 2 rfl).lt
   have y0:=(C5.nth 0 rfl).lt
   clear C2 C3 C4 hb8 ho8 j7 hrt hPr
   refine Qau [0,1,2,3] [([],1,4),([5,6,7],2,8)] [] [9,10] [8] (fun _=>(fun g=>.pointer (some ⟨g,0,none⟩),.cells Tryz.zeroCells68 68)) (by as_aux_lemma=>kernel_rfl) (by as_aux_lemma=>kernel_rfl) (by intro _ _ d _ _ h;cases d<;>exact h) (by intro _ _ d _ _ h;cases d<;>exact h) ?_
   simp only[pick,QCB,QCC,QCD,QCF,QCG]
   repeat (first|go_big_quiet_skip|(go_big_quiet_want;(refine QeB 0 768 _ rfl (C5.nth 0 rfl) rfl Tryz.underlying37 rfl Qbs (Qex _ _ hfl) hfl ?_);simp only[Act.put,QCJ,QCO,QCN];go_big_quiet_on)|(go_big_quiet_step (fail)))
   refine wpQuiet_nil ?_
   refine⟨?mk,?_⟩
   case mk=>
    refine⟨fun o ho=>?_,trivial⟩
    simp only[QCB,QCC,Option.some.injEq]at ho
    subst ho
    exact QfB rfl rfl
   simp only[Qa5,pick,QCB,QCC,QCD,QCF,QCG]
   refine wpQuiet_nil ?_
   intro m1 j1
   go_wp2_with fail
   (refine (hU.out _ _ _ (Qc9 hl5 (fun j v hv=>(C5.nth 2 rfl).cellD _ (QfO z (Qg0 _ hv))) z.nod.priv.2 |>.later j1)).mono ?_);rintro e m2 ⟨A6,c6,rfl,o6,j2⟩
   go_wp2_with fail
   try refine⟨by first|assumption|exact Qab _|exact Qaa _ _|exact Later.refl _,?_⟩
   try simp only[Qah,pick,QCB,QCC,QCD,QCF,QCG]
   repeat (go_big_quiet_step (fail))
   refine wpQuiet_nil ?_
   intro m5 gq j5 hgq _ hbq
   refine wpQuiet_nil ?_
   intro m6 j6
   simp only[QDA,Act.put,QCJ,QCO,QCN]
   have jj:=((j1.trans j2).trans j5).trans j6
   have hB6:Blk m6 gq 68 (PC cmd0 z768 nil8):=(Blk.later (show Blk m5 gq _ Tryz.zeroCells68.toList from hbq) j6).cast HZp.out
   refine QcJ rfl rfl _ _ rfl hB6 rfl rfl hPl rfl hzl ?_
   intro m7 hb7 ho7
   have C6:=C5.push jj (by have:=hgq;simpa using this) ho7 hb7
   clear hB6 jj j1 j2 j5 j6 hb7 ho7 hbq C5 o6
   go_wp2_with fail
   have C7:=C6.drew
   have hlz:=(C7.nth 3 rfl).lt
   have y7:=(C7.nth 2 rfl).lt
   clear C6
   refine Qau [0,1,2,3,4] [([],1,5),([6,7,8],2,9)] [] [10,11] [9] (fun _=>(fun g=>.pointer (some ⟨g,0,none⟩),.cells Tryz.zeroCells78 78)) (by as_aux_lemma=>kernel_rfl) (by as_aux_lemma=>kernel_rfl) (by intro _ _ d _ _ h;cases d<;>exact h) (by intro _ _ d _ _ h;cases d<;>exact h) ?_
   simp only[pick,QCB,QCC,QCD,QCF,QCG]
   repeat (go_big_quiet_step (fail))
   refine wpQuiet_nil ?_
   refine⟨?mk,?_⟩
   case mk=>
    refine⟨fun o ho=>?_,trivial⟩
    simp only[QCB,QCC,Option.some.injEq]at ho
    subst ho
    exact QnZ rfl rfl
   simp only[Qa5,pick,QCB,QCC,QCD,QCF,QCG]
   refine wpQuiet_nil ?_
   intro n1 i1
   go_wp2_with fail
   (refine (hPe.out _ _ _ _ _ (Qc9 hlz (fun j v hv=>(C7.nth 3 rfl).cellD _ (QfO z (Qg0 _ hv))) z.nod.priv.2 |>.later i1) ((hRd.out _ _ _ (C7.nth 2 rfl)).1.later i1)).mono ?_);rintro e n2 ⟨rfl,i2⟩
   go_wp2_with fail
   try refine⟨by first|assumption|exact Qab _|exact Qaa _ _|exact Later.refl _,?_⟩
   try simp only[Qah,pick,QCB,QCC,QCD,QCF,QCG]
   repeat (go_big_quiet_step (fail))
   refine wpQuiet_nil ?_
   intro n5 gs5 i5 hgs _ hbs
   refine wpQuiet_nil ?_
   intro n6 i6
   simp only[QDA,Act.put,QCJ,QCO,QCN]
   have hS6:Blk n6 gs5 78 Tryz.zeroCells78.toList:=Blk.later (show Blk n5 gs5 _ Tryz.zeroCells78.toList from hbs) i6
   have hzR:Tryz.zeroCells78.toList.length=192:=by rw[QvP,QCE,QCM]
   have ii:=((i1.trans i2).trans i5).trans i6
   refine Qkf rfl rfl _ _ rfl hS6 rfl rfl hsl hzR ?_
   intro n7 hb7 ho7
   have C8:=C7.push ii (by have:=hgs;simpa using this) ho7 hb7
   clear hS6 ii i1 i2 i5 i6 hb7 ho7 hbs C7 hzR
   by_cases hm:ME=0
   ·have e1:((ME:Int) != 0)=false:=by simp[hm]
    have hf6:=hid (hFit.out.2.1 hm)
    have hf7:=hid (hFit.out.2.2 hm)
    clear hm hFit
    have C9:=C8.drew
    clear C8
    go_wp2_with fail
    have y1:=(C9.nth 3 rfl).lt
    have y2:=(C9.nth 0 rfl).lt
    refine Qaf [([0,1,2,3,4,5,6,8,9],7),([],10)] [11] [] (by as_aux_lemma=>kernel_rfl) (by as_aux_lemma=>kernel_rfl) (by intro _ _ d _ _ h;cases d<;>exact h) ?_
    simp only[Qah,pick,QCB,QCC,QCD,QCF,QCG]
    repeat (first|go_big_quiet_skip|(go_big_quiet_want;(refine QqA _ _ rfl 0 (KM.map W8) (C9.nth 0 rfl) rfl (Qq6 hkm0.out) _ Tryz.underlying30 rfl (by rw[QCE,hkm];exact Qdn) ?_);simp only[Act.put,QCJ,QCO,QCN];go_big_quiet_on)|(go_big_quiet_step (fail)))
    refine wpQuiet_nil ?_
    go_wp2_with fail
    (refine (hTg.out _ _ _ _ _ (hRd.out _ _ _ (C9.nth 3 rfl)).1 (hRd.out _ _ _ (C9.nth 3 rfl)).2.2).mono ?_);rintro e q1 ⟨A12,c12,rfl,o12,j12⟩
    have CX:=C9.later j12
    go_wp2_with fail
    try refine⟨by first|assumption|exact Qab _|exact Qaa _ _|exact Later.refl _,?_⟩
    try simp only[Qah,pick,QCB,QCC,QCD,QCF,QCG]
    repeat (go_big_quiet_step (fail))
    refine wpQuiet_nil ?_
    go_wp2_with fail
    (refine (hEq.out _ _ _ _ _ o12.rd (hRd.out _ _ _ (CX.nth 3 rfl)).2.1).mono ?_);rintro e q2 ⟨rfl,rfl⟩
    have jr:=Later.refl q2
    go_wp2_with fail
    try refine⟨by first|assumption|exact Qab _|exact Qaa _ _|exact Later.refl _,?_⟩
    try simp only[Qah,pick,QCB,QCC,QCD,QCF,QCG]
    repeat (go_big_quiet_step (fail))
    refine wpQuiet_nil ?_
    cases F
    ·have hu6:=hf6.out rfl
     have e2:((UE:Int) != 6)=false:=by simp[hu6]
     have hub:=(hEr.out (by omega)).2.2
     subst hub
     have x8:=(CX.nth 1 rfl).cellD 788 (Qyi UC hPl _)
     clear hu6 hf6 hf7 hEr
     go_wp2_with fail
     have C9:=CX
     clear CX x8
     have hl9:=(C9.nth 4 rfl).lt
     have y9:=(C9.nth 5 rfl).lt
     refine Qau [0,1,2,3] [([],1,4),([5,6,7],2,8)] [] [9,10] [8] (fun _=>(fun g=>.pointer (some ⟨g,0,none⟩),.cells Tryz.zeroCells68 68)) (by as_aux_lemma=>kernel_rfl) (by as_aux_lemma=>kernel_rfl) (by intro _ _ d _ _ h;cases d<;>exact h) (by intro _ _ d _ _ h;cases d<;>exact h) ?_
     simp only[pick,QCB,QCC,QCD,QCF,QCG]
     repeat (first|go_big_quiet_skip|(go_big_quiet_want;(refine QeB 0 768 _ rfl (C9.nth 5 rfl) rfl Tryz.underlying37 rfl Qbs (Qex _ _ hyl) hyl ?_);simp only[Act.put,QCJ,QCO,QCN];go_big_quiet_on)|(go_big_quiet_step (fail)))
     refine wpQuiet_nil ?_
     refine⟨?mk,?_⟩
     case mk=>
      refine⟨fun o ho=>?_,trivial⟩
      simp only[QCB,QCC,Option.some.injEq]at ho
      subst ho
      exact QfB rfl rfl
     simp only[Qa5,pick,QCB,QCC,QCD,QCF,QCG]
     refine wpQuiet_nil ?_
     intro k1 i1
     go_wp2_with fail
     (refine (hU2.out _ _ _ (Qc9 hl9 (fun j v hv=>(C9.nth 4 rfl).cellD _ (QfO z (Qg0 _ hv))) z.nod.priv.2 |>.later i1)).mono ?_);rintro e k2 ⟨A9,c9,rfl,_,i2⟩
     go_wp2_with fail
     try refine⟨by first|assumption|exact Qab _|exact Qaa _ _|exact Later.refl _,?_⟩
     try simp only[Qah,pick,QCB,QCC,QCD,QCF,QCG]
     repeat (go_big_quiet_step (fail))
     refine wpQuiet_nil ?_
     intro k5 gk i5 hgk _ hbk
     refine wpQuiet_nil ?_
     intro k6 i6
     simp only[QDA,Act.put,QCJ,QCO,QCN]
     have kk:=((i1.trans i2).trans i5).trans i6
     have hK6:Blk k6 gk 68 (PC cmd0 z768 nil8):=(Blk.later (show Blk k5 gk _ Tryz.zeroCells68.toList from hbk) i6).cast HZp.out
     refine QcJ rfl rfl _ _ rfl hK6 rfl rfl hyn rfl hzl ?_
     intro k7 hb8 ho8
     have CA:=C9.push kk (by have:=hgk;simpa using this) ho8 hb8
     clear hK6 kk i1 i2 i5 i6 hbk C9
     go_wp2_with (first
      | (refine go_l rfl ?_;refine QaB rfl 37 _ rfl gk 20 (PN.map W8) (fun j v hv=>(CA.nth 0 rfl).cellD _ (Qsz _ _ _ _ _ hv)) rfl _ Tryz.underlying37 rfl (by rw[QCE,hyn];exact Qbs) ?_)
      | (refine Qa7 rfl ?_;refine QaL rfl rfl _ _ rfl (CA.nth 6 rfl) rfl rfl hyn (by rw[QCE,hyl]) ?_;intro k9 hb9 ho9
         have CB:=CA.write 6 rfl ho9 hb9)
      | fail)
     have CD:=CB.drop 6
     exact⟨⟨k+1,by omega,by go_num,by rw[hPN.out];exact CD⟩,by simp[intOf];omega⟩
    ·have hu6:=hf7.out rfl
     have e2:((UE:Int)==6)=false:=beq_eq_false_iff_ne.2 (by omega)
     clear hu6 hf6 hf7 hEr
     go_wp2_with fail
     have C9:=CX
     clear CX
     have hl9:=(C9.nth 4 rfl).lt
     have y9:=(C9.nth 5 rfl).lt
     refine Qau [0,1,2,3] [([],1,4),([5,6,7],2,8)] [] [9,10] [8] (fun _=>(fun g=>.pointer (some ⟨g,0,none⟩),.cells Tryz.zeroCells68 68)) (by as_aux_lemma=>kernel_rfl) (by as_aux_lemma=>kernel_rfl) (by intro _ _ d _ _ h;cases d<;>exact h) (by intro _ _ d _ _ h;cases d<;>exact h) ?_
     simp only[pick,QCB,QCC,QCD,QCF,QCG]
     repeat (first|go_big_quiet_skip|(go_big_quiet_want;(refine QeB 0 768 _ rfl (C9.nth 5 rfl) rfl Tryz.underlying37 rfl Qbs (Qex _ _ hyl) hyl ?_);simp only[Act.put,QCJ,QCO,QCN];go_big_quiet_on)|(go_big_quiet_step (fail)))
     refine wpQuiet_nil ?_
     refine⟨?mk,?_⟩
     case mk=>
      refine⟨fun o ho=>?_,trivial⟩
      simp only[QCB,QCC,Option.some.injEq]at ho
      subst ho
      exact QfB rfl rfl
     simp only[Qa5,pick,QCB,QCC,QCD,QCF,QCG]
     refine wpQuiet_nil ?_
     intro k1 i1
     go_wp2_with fail
     (refine (hU2.out _ _ _ (Qc9 hl9 (fun j v hv=>(C9.nth 4 rfl).cellD _ (QfO z (Qg0 _ hv))) z.nod.priv.2 |>.later i1)).mono ?_);rintro e k2 ⟨A9,c9,rfl,_,i2⟩
     go_wp2_with fail
     try refine⟨by first|assumption|exact Qab _|exact Qaa _ _|exact Later.refl _,?_⟩
     try simp only[Qah,pick,QCB,QCC,QCD,QCF,QCG]
     repeat (go_big_quiet_step (fail))
     refine wpQuiet_nil ?_
     intro k5 gk i5 hgk _ hbk
     refine wpQuiet_nil ?_
     intro k6 i6
     simp only[QDA,Act.put,QCJ,QCO,QCN]
     have kk:=((i1.trans i2).trans i5).trans i6
     have hK6:Blk k6 gk 68 (PC cmd0 z768 nil8):=(Blk.later (show Blk k5 gk _ Tryz.zeroCells68.toList from hbk) i6).cast HZp.out
     refine QcJ rfl rfl _ _ rfl hK6 rfl rfl hyn rfl hzl ?_
     intro k7 hb8 ho8
     have CA:=C9.push kk (by have:=hgk;simpa using this) ho8 hb8
     clear hK6 kk i1 i2 i5 i6 hbk C9
     go_wp2_with (first
      | (refine go_l rfl ?_;refine QaB rfl 37 _ rfl gk 20 (PN.map W8) (fun j v hv=>(CA.nth 0 rfl).cellD _ (Qsz _ _ _ _ _ hv)) rfl _ Tryz.underlying37 rfl (by rw[QCE,hyn];exact Qbs) ?_)
      | (refine Qa7 rfl ?_;refine QaL rfl rfl _ _ rfl (CA.nth 6 rfl) rfl rfl hyn (by rw[QCE,hyl]) ?_;intro k9 hb9 ho9
         have CB:=CA.write 6 rfl ho9 hb9)
      | fail)
     have CD:=CB.drop 6
     exact⟨⟨k+1,by omega,by go_num,by rw[hPN.out];exact CD⟩,by simp[intOf];omega⟩
   ·have hue:=hFit.out.1 hm
    subst hue
    have e1:((UE:Int) != 0)=true:=bne_iff_ne.2 (by omega)
    have C9:=C8.drew
    clear C8
    go_wp2_with fail
    have hl9:=(C9.nth 4 rfl).lt
    have y9:=(C9.nth 5 rfl).lt
    refine Qau [0,1,2,3] [([],1,4),([5,6,7],2,8)] [] [9,10] [8] (fun _=>(fun g=>.pointer (some ⟨g,0,none⟩),.cells Tryz.zeroCells68 68)) (by as_aux_lemma=>kernel_rfl) (by as_aux_lemma=>kernel_rfl) (by intro _ _ d _ _ h;cases d<;>exact h) (by intro _ _ d _ _ h;cases d<;>exact h) ?_
    simp only[pick,QCB,QCC,QCD,QCF,QCG]
    repeat (first|go_big_quiet_skip|(go_big_quiet_want;(refine QeB 0 768 _ rfl (C9.nth 5 rfl) rfl Tryz.underlying37 rfl Qbs (Qex _ _ hyl) hyl ?_);simp only[Act.put,QCJ,QCO,QCN];go_big_quiet_on)|(go_big_quiet_step (fail)))
    refine wpQuiet_nil ?_
    refine⟨?mk,?_⟩
    case mk=>
     refine⟨fun o ho=>?_,trivial⟩
     simp only[QCB,QCC,Option.some.injEq]at ho
     subst ho
     exact QfB rfl rfl
    simp only[Qa5,pick,QCB,QCC,QCD,QCF,QCG]
    refine wpQuiet_nil ?_
    intro k1 i1
    go_wp2_with fail
    (refine (hU2.out _ _ _ (Qc9 hl9 (fun j v hv=>(C9.nth 4 rfl).cellD _ (QfO z (Qg0 _ hv))) z.nod.priv.2 |>.later i1)).mono ?_);rintro e k2 ⟨A9,c9,rfl,_,i2⟩
    go_wp2_with fail
    try refine⟨by first|assumption|exact Qab _|exact Qaa _ _|exact Later.refl _,?_⟩
    try simp only[Qah,pick,QCB,QCC,QCD,QCF,QCG]
    repeat (go_big_quiet_step (fail))
    refine wpQuiet_nil ?_
    intro k5 gk i5 hgk _ hbk
    refine wpQuiet_nil ?_
    intro k6 i6
    simp only[QDA,Act.put,QCJ,QCO,QCN]
    have kk:=((i1.trans i2).trans i5).trans i6
    have hK6:Blk k6 gk 68 (PC cmd0 z768 nil8):=(Blk.later (show Blk k5 gk _ Tryz.zeroCells68.toList from hbk) i6).cast HZp.out
    refine QcJ rfl rfl _ _ rfl hK6 rfl rfl hyn rfl hzl ?_
    intro k7 hb8 ho8
    have CA:=C9.push kk (by have:=hgk;simpa using this) ho8 hb8
    clear hK6 kk i1 i2 i5 i6 hbk C9
    go_wp2_with (first
     | (refine go_l rfl ?_;refine QaB rfl 37 _ rfl gk 20 (PN.map W8) (fun j v hv=>(CA.nth 0 rfl).cellD _ (Qsz _ _ _ _ _ hv)) rfl _ Tryz.underlying37 rfl (by rw[QCE,hyn];exact Qbs) ?_)
     | (refine Qa7 rfl ?_;refine QaL rfl rfl _ _ rfl (CA.nth 6 rfl) rfl rfl hyn (by rw[QCE,hyl]) ?_;intro k9 hb9 ho9
        have CB:=CA.write 6 rfl ho9 hb9)
     | fail)
    have CD:=CB.drop 6
    exact⟨⟨k+1,by omega,by go_num,by rw[hPN.out];exact CD⟩,by simp[intOf];omega⟩
  ·obtain rfl:k=m:=by omega
   go_wp2_with fail
   go_ret
   exact⟨rfl,L5.trans B.lat⟩
end Go.Proofs.YtdhgpkdjdmlphaaGreat
