/-
  Lemmas for the last text of this claim (part 16 of 20).
-/
import Derived.ArgAppend
import Derived.BigQuiet
import Derived.BigRegion
import Derived.ChangeOld
import Derived.Deep.RegionWith
import Derived.DeepKeys4
import Derived.JoinedCond
import Derived.LaidMore
import Derived.Laws.BytesArg
import Derived.Laws.CopyOwn
import Derived.Laws.Externs
import Derived.Laws.IdiomStrings
import Derived.Laws.Tables
import Derived.Lib.AppendStr
import Derived.Lib.AppendZerosOnto
import Derived.Lib.Mul64
import Derived.Lib.SlBytesConst
import Derived.LoopN
import Derived.Maps.OwnSet
import Derived.OpenShut
import Derived.OrdersHeld
import Derived.ProofKit
import Derived.Shelf.Spec.BitsCarry
import Derived.ShutString
import Derived.Test.YtdhgpkdjdmlphaaGreatProg
import Derived.Test.YtdhgpkdjdmlphaaGreatRows
import Derived.WalkKit
import Derived.WalkLawsBesides
import Derived.WalkSpells
import Derived.Test.YtdhgpkdjdmlphaaGreatQC
import Derived.Test.YtdhgpkdjdmlphaaGreatQF
import Derived.Test.YtdhgpkdjdmlphaaGreatQM
import Derived.Test.YtdhgpkdjdmlphaaGreatQN
import Derived.Test.YtdhgpkdjdmlphaaGreatQO
open List renaming replicate → QCA, getElem?_cons_succ → QCB, getElem?_cons_zero → QCC, length_map → QCE, cons_append → QCF, nil_append → QCG, getElem?_eq_getElem → QCH, getD_eq_getElem?_getD → QCI, setIfInBounds_toArray → QCJ, length_append → QCK, length_replicate → QCM, set_cons_zero → QCN, set_cons_succ → QCO, take_of_length_le → QCP, getElem?_append_right → QCQ, append_assoc → QCR, getElem?_map → QCS, getElem?_eq_some_iff → QCT, getElem?_append_left → QCU, map_toArray → QCW, length_take → QC1, map_nil → QC2, length_drop → QC3, map_cons → QC7, take_append_drop → QC9, set_append_right → QDb, append_nil → QDf, map_replicate → QDg, length_set → QDi, take_append_of_le_length → QDk, drop_left' → QDn, drop_append_of_le_length → QDH, replicate_append_replicate → QDJ, flatten_cons → QDN, take_left' → QDY, map_take → QD1, mem_append → QD8, drop_zero → QEb, drop_eq_nil_of_le → QEj, drop_drop → QEo, flatten_nil → QEN, mem_singleton → QEP, take_zero → QET
open Nat renaming le_refl → QCL, lt_of_lt_of_le → QC0, zero_add → QC6, add_zero → QD9, add_sub_cancel_left → QEw
open Option renaming toList_some → QCD
open UInt64 renaming ofNat → QC5
set_option linter.all false
namespace Go.Proofs.YtdhgpkdjdmlphaaGreat
open Go.RowKit
open Go.BigFrame
def kMac (s:List UInt8):List UInt8:=subB s 0 32
def kStr (s:List UInt8):List UInt8:=subB s 32 32
def kPay (s:List UInt8):List UInt8:=subB s 64 32
def kBli (s:List UInt8):List UInt8:=subB s 96 32
def kAlp (s:List UInt8):List UInt8:=subB s 128 32
def tagB (key al be:List UInt8):List UInt8:=(Qbb key (al++be)).take 16
def QgG (h s:List UInt8):Bool:=decide (tagB (kMac s) (subB h 0 32) (subB h 48 240)=subB h 32 16)
def Qcr (h s:List UInt8):List UInt8:=xorB (subB h 48 240++QCA 48 0) (chaS (kStr s) 288)
def Qjl (s:List UInt8):List UInt8:=Qbg (kBli s) (kAlp s)
def Qlz (s:List UInt8):Nat:=QaX (kBli s) (kAlp s)
def QfI (h s:List UInt8):Nat:=if QgG h s=false then 6 else if decE ((Qcr h s).take 32)≠0 then 3 else if (decC ((Qcr h s).take 32)).kd=1 then Qlz s else 0
def Qji (h s:List UInt8):Cmd:=if QfI h s=0 then decC ((Qcr h s).take 32) else cmd0
def Qjd (h s:List UInt8):List UInt8:=if QfI h s=0∧(decC ((Qcr h s).take 32)).kd=1 then Qjl s++(Qcr h s).drop 32 else QCA 288 0
theorem QgB (h s:List UInt8) (hl:h.length=288):(Qcr h s).length=288:=by
 have h1:(subB h 48 240).length=240:=Qan (by omega)
 rw[Qcr,QaZ (by simp[h1,QaD]),QaD]
theorem Qhn (h s:List UInt8) (hl:h.length=288):(Qjd h s).length=288:=by
 unfold Qjd
 split
 ·rw[QCK,QC3,QgB h s hl,Qjl,QaP]
 ·rw[QCM]
def relE (s p:List UInt8):Nat:=QfI (p.take 288) s
def relC (s p:List UInt8):Cmd:=Qji (p.take 288) s
def Qdh (s p:List UInt8):List UInt8:=Qc1 (kPay s) (p.drop 288) rsO
def relP (s p:List UInt8):List UInt8:=if relE s p=0∧(relC s p).kd=1 then Qjd (p.take 288) s++Qdh s p else QCA 768 0
def relB (s p:List UInt8):List UInt8:=if relE s p=0∧(relC s p).kd≠1 then Qdh s p else []
def unwE (k p:List UInt8):Nat:=if QaX k (p.take 32)=0 then relE (QbB k (p.take 32)) p else QaX k (p.take 32)
def unwC (k p:List UInt8):Cmd:=if QaX k (p.take 32)=0 then relC (QbB k (p.take 32)) p else cmd0
def unwP (k p:List UInt8):List UInt8:=if QaX k (p.take 32)=0 then relP (QbB k (p.take 32)) p else QCA 768 0
def unwB (k p:List UInt8):List UInt8:=if QaX k (p.take 32)=0 then relB (QbB k (p.take 32)) p else []
theorem QdI {P:Program} {fn:Func} {p q u:Tmp} {ty ty2:TypeId} (h:fn.results= #[.cell p ty,.cell q ty2,.tmp u]) (tmps:Array Value) (w:World) (g g2:Nat) (t t2:TypeId) (l l2:List Value) (d d2:TypeDesc)
 (hg:Blk w g t l) (hp:tmps.getD p undef= .pointer (some ⟨g,0,none⟩)) (hu:P.underlying ty=some d) (hd:QbM d=true) (hi:(P.info? ty).map (·.size)=some l.length)
 (hg2:Blk w g2 t2 l2) (hp2:tmps.getD q undef= .pointer (some ⟨g2,0,none⟩)) (hu2:P.underlying ty2=some d2) (hd2:QbM d2=true) (hi2:(P.info? ty2).map (·.size)=some l2.length):
 (results fn tmps).run P w= .ok (.tuple #[.agg l.toArray,.agg l2.toArray,tmps.getD u undef]) w:=by
 have h1:=Qbn (P:=P) w g 0 ty l d (fun j v hv=>by rw[QC6];exact hg.cellD j hv) hu hd hi
 have h2:=Qbn (P:=P) w g2 0 ty2 l2 d2 (fun j v hv=>by rw[QC6];exact hg2.cellD j hv) hu2 hd2 hi2
 have hp':tmps[p]?.getD undef= .pointer (some ⟨g,0,none⟩):=by simpa using hp
 have hq':tmps[q]?.getD undef= .pointer (some ⟨g2,0,none⟩):=by simpa using hp2
 simp[results,h,Sem.run_bind,Result.andThen,hp',hq',asAddr,h1,h2]
theorem Qmk (h:List UInt8) (hl:h.length=288):[subB h 0 32,subB h 32 16,subB h 48 240].flatten=h:=by
 rw[subB,subB,subB,QDN,QDN,QDN,QEN,QDf,QEb,QCP (l:=h.drop 48) (by rw[QC3];omega),show h.drop 48=(h.drop 32).drop 16 by rw[QEo],QC9,QC9]
set_option maxRecDepth 100000 in
set_option maxHeartbeats 2000000 in
theorem Qpy (h:List UInt8) (hl:h.length=288) (w:World):
 Calls Tryz.prog 54 #[.agg (h.map W8).toArray] w fun e w'=>∃A' c',e= .returned (.slice A' 288 c')∧OwnB w' w.heap.size A' 288 c' h∧Later w w':=by
 have hb:=Blk.new w 34 (h.map W8)
 have hJ:=hid (fun B d (w:World) hp=>QcP B 3 d [subB h 0 32,subB h 32 16,subB h 48 240] w hp (by omega) (by rw[Qmk h hl];omega))
 rw[Qmk h hl,hl]at hJ
 have s0:(subB h 0 32).length=32:=Qan (by omega)
 have s1:(subB h 32 16).length=16:=Qan (by omega)
 have s2:(subB h 48 240).length=240:=Qan (by omega)
 have L:=Qaa w (.cells (h.map W8).toArray 34)
 go_enter Tryz.func54,Tryz.ntmps54
 go_wp2_with fail
 refine Qaf [([0,1,2,3,4,5],6),([],7)] [8] [] (by as_aux_lemma=>kernel_rfl) (by as_aux_lemma=>kernel_rfl) (by intro _ _ d _ _ h;cases d<;>exact h) ?_
 simp only[Qah,pick,QCB,QCC,QCD,QCF,QCG]
 repeat (go_big_quiet_step (fail))
 refine wpQuiet_nil ?_
 go_wp2_with fail
 try refine⟨by first|assumption|exact Qab _|exact Qaa _ _|exact Later.refl _,?_⟩
 try simp only[Qah,pick,QCB,QCC,QCD,QCF,QCG]
 repeat (go_big_quiet_step (fail))
 refine wpQuiet_nil ?_
 have l2:=(Qab (w.alloc (.cells (h.map W8).toArray 34))).trans (Qaa _ (.cells #[.slice (some ⟨w.heap.size,0,none⟩) 32 32,.slice (some ⟨w.heap.size,32,none⟩) 16 16,.slice (some ⟨w.heap.size,48,none⟩) 240 240] 22))
 have hb2:=hb.later l2
 have P3:=Qfn (bad:=fun _=>False) (ps:=[subB h 0 32,subB h 32 16,subB h 48 240]) ((Blk.new' (n:=w.heap.size+1) (w.alloc (.cells (h.map W8).toArray 34)).drew 22 [.slice (some ⟨w.heap.size,0,none⟩) 32 32,.slice (some ⟨w.heap.size,32,none⟩) 16 16,.slice (some ⟨w.heap.size,48,none⟩) 240 240] (by simp)).rd rfl) (QbL _ _) ⟨QaW (QbU hb2 rfl s0) (QCL _),QaW (QbU hb2 rfl s1) (QCL _),QaW (QbU hb2 rfl s2) (QCL _),trivial⟩
 go_wp2_with fail
 (with_reducible refine (hJ.out _ _ _ P3).mono ?_);rintro e w3 ⟨A3,c3,rfl,o3,l3⟩
 go_wp2_with fail
 try refine⟨by first|assumption|exact Qab _|exact Qaa _ _|exact Later.refl _,?_⟩
 try simp only[Qah,pick,QCB,QCC,QCD,QCF,QCG]
 repeat (go_big_quiet_step (fail))
 refine wpQuiet_nil ?_
 go_wp2_with fail
 go_ret
 exact⟨_,_,rfl,o3.mono (L.trans l2).size,(L.trans l2).trans l3⟩
set_option maxRecDepth 100000 in
set_option maxHeartbeats 2000000 in
theorem Qrr (h s:List UInt8) (hl:h.length=288) (hs:s.length=192) (w:World):
 Calls Tryz.prog 17 #[.agg (h.map W8).toArray,.agg (s.map W8).toArray] w fun e w'=>e= .returned (.bool (QgG h s))∧Later w w':=by
 have C1:=Qbr w 34 (h.map W8)
 have C2:Bag w ((w.alloc (.cells (h.map W8).toArray 34)).alloc (.cells (s.map W8).toArray 53)) [(w.heap.size+1,53,s.map W8),(w.heap.size,34,h.map W8)]:=
  C1.add (Qaa _ _) (by simp) (by omega) (Blk.new' _ _ _ (by simp))
 clear C1
 have s0:(subB h 0 32).length=32:=Qan (by omega)
 have s1:(subB h 32 16).length=16:=Qan (by omega)
 have s2:(subB h 48 240).length=240:=Qan (by omega)
 have k0:(kMac s).length=32:=Qan (by omega)
 have hC:=hid (fun A B C d e0 (w:World) h1 h2 h3=>Qq2 A B C 32 32 2 d 16 e0 (kMac s) (subB h 32 16) [subB h 0 32,subB h 48 240] w h1 (by omega) (by omega) h2 (by omega) h3 (by omega) (by simp[s0,s2]))
 have hF:=hid (show QgG h s=decide ((Qbb (kMac s) [subB h 0 32,subB h 48 240].flatten).take 16=subB h 32 16) by
  rw[QgG,tagB,QDN,QDN,QEN,QDf])
 go_enter Tryz.func17,Tryz.ntmps17
 go_wp2_with fail
 generalize hW:(w.alloc _).alloc _=w1
 replace C2:Bag w w1 [(w.heap.size+1,53,s.map W8),(w.heap.size,34,h.map W8)]:=by rw[←hW];exact C2
 clear hW
 refine Qaf [([0,1,2,3,4,5,6,7,8],9),([],10)] [11] [] (by as_aux_lemma=>kernel_rfl) (by as_aux_lemma=>kernel_rfl) (by intro _ _ d _ _ h;cases d<;>exact h) ?_
 simp only[Qah,pick,QCB,QCC,QCD,QCF,QCG]
 repeat (go_big_quiet_step (fail))
 refine wpQuiet_nil ?_
 go_wp2_with fail
 try refine⟨by first|assumption|exact Qab _|exact Qaa _ _|exact Later.refl _,?_⟩
 try simp only[Qah,pick,QCB,QCC,QCD,QCF,QCG]
 repeat (go_big_quiet_step (fail))
 refine wpQuiet_nil ?_
 have l2:=(Qab w1).trans (Qaa _ (.cells #[.slice (some ⟨w.heap.size,0,none⟩) 32 32,.slice (some ⟨w.heap.size,48,none⟩) 240 240] 22))
 have B2:=C2.later l2
 have P3:=Qfn (bad:=fun _=>False) (ps:=[subB h 0 32,subB h 48 240]) ((Blk.new w1.drew 22 [.slice (some ⟨w.heap.size,0,none⟩) 32 32,.slice (some ⟨w.heap.size,48,none⟩) 240 240]).rd rfl) (QbL _ _) ⟨QaW (QbU (B2.nth 1 rfl) rfl s0) (QCL _),QaW (QbU (B2.nth 1 rfl) rfl s2) (QCL _),trivial⟩
 go_wp2_with fail
 (refine (hC.out _ _ _ _ _ _ (QbU (B2.nth 0 rfl) rfl k0) (QbU (B2.nth 1 rfl) rfl s1) P3).mono ?_);rintro e w3 ⟨rfl,l3⟩
 rw[←hF.out]
 go_wp2_with fail
 try refine⟨by first|assumption|exact Qab _|exact Qaa _ _|exact Later.refl _,?_⟩
 try simp only[Qah,pick,QCB,QCC,QCD,QCF,QCG]
 repeat (go_big_quiet_step (fail))
 refine wpQuiet_nil ?_
 go_wp2_with fail
 go_ret
 exact⟨rfl,B2.lat.trans l3⟩
abbrev cz0:List Value:=[.int .u8 0,.int .u8 0,.int .u32 0,.int .u64 0,.int .u8 0,.int .u8 0,.int .u8 0,.int .u8 0,.int .u8 0,.int .u8 0,.int .u8 0,.int .u8 0,.int .u8 0,.int .u8 0,.int .u8 0,.int .u8 0,.int .u8 0,.int .u8 0,.int .u8 0,.int .u8 0]
theorem Qgi {w:World} {b p n:Nat} {bs:List UInt8} (h:RdB w (some ⟨b,p,none⟩) n bs) (i:Nat) (hi:i<n):w.cell? ⟨b,p+i,none⟩=some (W8 (bs.getD i 0)):=by
 obtain⟨b',o',he,_,hc⟩:=h.2 (by omega)
 have hl:=h.len
 cases he
 exact hc i _ (by rw[QCS,QCI,QCH (by omega)];rfl)
theorem Qpr (b:List UInt8) (hb:b.length=32) (d:UInt32) (x:UInt64) (hd:d=(Qgg b).dl) (hx:x=(Qgg b).nx):
 Qaq (((CC ⟨b.getD 0 0,b.getD 1 0,0,0,QbJ⟩).set 2 (W32 d)).set 3 (W64 x)) 4 (((b.drop 14).map W8).take 16)=CC (Qgg b):=by
 subst hd hx
 have hm:=Qj0 b hb
 have hml:((b.drop 14).map W8).take 16=(subB b 14 16).map W8:=by rw[←QD1];rfl
 have hl:=Qan (bs:=b) (off:=14) (n:=16) (by omega)
 rw[hml,Qaq,QCE,hl,QEj (by rw[QDi,QDi,Qao];omega),QDf,CC,CC,hm]
 rfl
theorem Qrq (b:List UInt8):decE b=if (!(cmdE (Qgg b)==1)&&(!(b.getD 30 0==0)|| !(b.getD 31 0==0)))=true then 3 else cmdE (Qgg b):=by
 rw[decE]
 congr 1
 simp
theorem Qpv (c:Cmd):cmdE c=0∨cmdE c=1∨cmdE c=3∨cmdE c=11:=by
 unfold cmdE
 split
 ·simp
 ·split
  ·simp
  ·split<;>simp
set_option maxRecDepth 100000 in
set_option maxHeartbeats 8000000 in
theorem QmM (A:Option Addr) (c:Nat) (b:List UInt8) (w:World) (hb:RdB w A 32 b) (hc:32≤c):
 Calls Tryz.prog 134 #[.slice A 32 c] w fun e w'=>e= .returned (.tuple #[.agg (CC (decC b)).toArray,.int .i64 (decE b:Nat)])∧Later w w':=by
 have hbl:=hb.len
 obtain⟨b0,p,rfl,_,_⟩:=hb.2 (by omega)
 have B0:=Qbr w 64 cz0
 have hz0:cz0.length=20:=rfl
 have hG1:Hid (∀ w,RdB w (some ⟨b0,p,none⟩) 32 b→Calls Tryz.prog 77 #[.int .i64 2,.slice (some ⟨b0,p,none⟩) 32 c,.int .i64 2,.int .i64 4] w fun e w'=>e= .returned (.tuple #[W64 (QC5 (beN (subB b 2 4) 0)),.int .i64 0])∧Later w w'):=
  hid (fun w h=>Qog _ 32 c 2 4 b w h (by omega) (by omega) (by omega) (by omega))
 have hG2:Hid (∀ w,RdB w (some ⟨b0,p,none⟩) 32 b→Calls Tryz.prog 77 #[.int .i64 2,.slice (some ⟨b0,p,none⟩) 32 c,.int .i64 6,.int .i64 8] w fun e w'=>e= .returned (.tuple #[W64 (QC5 (beN (subB b 6 8) 0)),.int .i64 0])∧Later w w'):=
  hid (fun w h=>Qog _ 32 c 6 8 b w h (by omega) (by omega) (by omega) (by omega))
 have hfill:=hid (Qpr b hbl _ (QC5 (beN (subB b 6 8) 0)) (QwQ (beN (subB b 2 4) 0)) rfl)
 have hcut:cutA (some ⟨b0,p,none⟩) 30 c=some ⟨b0,p+30,none⟩:=by rw[cutA,if_neg (by omega)];rfl
 have hcutc:cutA (some ⟨b0,p,none⟩) 14 c=some ⟨b0,p+14,none⟩:=by rw[cutA,if_neg (by omega)];rfl
 have hCk:=hid (QgN (Qgg b))
 have hE:=Qpv (Qgg b)
 have hD:=hid (Qrq b)
 have hC:=hid (show decC b=if decE b=0 then Qgg b else cmd0 from rfl)
 have hcd:=hb.cut (c:=c) (show 14≤32 by omega) hc
 rw[hcutc]at hcd
 generalize QC5 (beN (subB b 2 4) 0)=x1 at *
 generalize QC5 (beN (subB b 6 8) 0)=x2 at *
 generalize decC b=DC at *
 generalize decE b=DE at *
 generalize cmdE (Qgg b)=e9 at *
 have hb0:=QjE
 go_enter Tryz.func134,Tryz.ntmps134
 go_wp2_with fail
 generalize hW:w.alloc _=w1
 replace B0:Bag w w1 [(w.heap.size,64,cz0)]:=by rw[←hW];exact B0
 clear hW
 have r1:=(hb.later B0.lat).later (Qab _)
 have c0:=Qgi r1 0 (by omega)
 have c1:=Qgi r1 1 (by omega)
 have hlb:b0<w1.drew.heap.size:=by
  obtain⟨_,_,he,h,_⟩:=r1.2 (by omega)
  cases he
  exact h
 rw[QD9]at c0
 have hbc:=Qp2 (b.getD 0 0) (b.getD 1 0)
 generalize b.getD 0 0=k0 at *
 generalize b.getD 1 0=k1 at *
 refine Qaf [([0,1,2,3,4,5,6],7)] [] [8] (by as_aux_lemma=>kernel_rfl) (by as_aux_lemma=>kernel_rfl) (by intro _ _ d _ _ h;cases d<;>exact h) ?_
 simp only[Qah,pick,QCB,QCC,QCD,QCF,QCG]
 repeat (first|go_big_quiet_skip|(go_big_quiet_want;(refine QcB _ _ rfl (CC ⟨k0,k1,0,0,QbJ⟩) (by simp only[QCW,QC7,QC2];exact hbc) ?_);simp only[Act.put,QCJ,QCO,QCN];go_big_quiet_on)|(go_big_quiet_step (fail)))
 refine wpQuiet_nil ?_
 go_wp2_with fail
 try refine⟨by first|assumption|exact Qab _|exact Qaa _ _|exact Later.refl _,?_⟩
 try simp only[Qah,pick,QCB,QCC,QCD,QCF,QCG]
 repeat (go_big_quiet_step (fail))
 refine wpQuiet_nil ?_
 go_wp2_with (first
  | (refine Qb9 rfl rfl _ _ rfl (Blk.new w1.drew _ cz0) rfl rfl rfl ?_;intro w3 hb3 ho3)
  | fail)
 have B1:=B0.push ((Qab _).trans (Qaa _ _)) (QCL _) ho3 hb3
 clear hb3 ho3 r1 c0 c1 hlb B0
 generalize w1.heap.size=g3 at *
 (with_reducible refine (hG1.out _ (hb.later B1.lat)).mono ?_);rintro e w4 ⟨rfl,j4⟩
 go_wp2_with fail
 (with_reducible refine (hG2.out _ (hb.later (B1.lat.trans j4))).mono ?_);rintro e w5 ⟨rfl,j5⟩
 replace B1:=(B1.later j4).later j5
 clear j4 j5 hG1 hG2
 go_wp2_with (first
  | (refine Qac rfl rfl _ _ _ rfl g3 2 _ _ (B1.nth 0 rfl) rfl (by rw[Qao];omega) rfl (by kernel_rfl) ?_;intro v6 w6 hv6 hb6 ho6;simp[go_sem]at hv6;subst hv6
     have B2:=B1.write 0 rfl ho6 hb6)
  | (refine Qac rfl rfl _ _ _ rfl g3 3 _ _ (B2.nth 0 rfl) rfl (by rw[QDi,Qao];omega) rfl (by kernel_rfl) ?_;intro v7 w7 hv7 hb7 ho7;simp[go_sem]at hv7;subst hv7
     have B3:=B2.write 0 rfl ho7 hb7)
  | fail)
 clear hb6 ho6 hb7 ho7 B1 B2
 have B4:=B3.drew
 have hlb:b0<w7.drew.heap.size:=by
  obtain⟨_,_,he,h,_⟩:=(hb.later B4.lat).2 (by omega)
  cases he
  exact h
 refine Qaf [] [0,1,2,3] [4] (by as_aux_lemma=>kernel_rfl) (by as_aux_lemma=>kernel_rfl) (by intro _ _ d _ _ h;cases d<;>exact h) ?_
 simp only[Qah,pick,QCB,QCC,QCD,QCF,QCG]
 repeat (go_big_quiet_step (fail))
 refine wpQuiet_nil ?_
 go_wp2_with (first
  | (refine Qar rfl _ _ _ _ rfl 5 Tryz.underlying22 Qbu g3 4 16 16 _ _ (B4.nth 0 rfl) (some ⟨b0,p+14,none⟩) 18 (c-14) ((b.drop 14).map W8) (Rd.later hcd B4.lat) (QaC _) rfl rfl (by have:=Qao ⟨k0,k1,0,0,QbJ⟩;simp only[QDi];omega) ?_;intro w8 hb8 ho8;rw[hfill.out]at hb8
     have B5:=B4.write 0 rfl ho8 hb8)
  | (refine QcG rfl _ rfl (B5.nth 0 rfl) rfl ?_)
  | fail)
 (with_reducible refine (hCk.out _).mono ?_);rintro e w9 ⟨rfl,j9⟩
 have B6:=B5.later j9
 have r9:=hb.later B6.lat
 have c30:=Qgi r9 30 (by omega)
 have c31:=Qgi r9 31 (by omega)
 clear hb8 ho8 B5 B4 B3 j9 hcd hcutc hfill hCk r9 hlb hbc
 generalize b.getD 30 0=d30 at *
 generalize b.getD 31 0=d31 at *
 generalize Qgg b=cm at *
 rcases hE with rfl|rfl|rfl|rfl
 all_goals
  cases h30:(d30==0)<;>cases h31:(d31==0)
  all_goals
   have hDE:=hD.out
   have hDC:=hC.out
   rw[h30,h31]at hDE
   simp at hDE
   rw[hDE]at hDC
   simp at hDC
   replace hDE:=hid hDE
   replace hDC:=hid hDC
   have n30:(d30 != 0)= !(d30==0):=rfl
   have n31:(d31 != 0)= !(d31==0):=rfl
   rw[h30]at n30
   rw[h31]at n31
   clear hD hC
   go_wp2_with (first
    | (refine QcG rfl _ rfl (B6.nth 0 rfl) rfl ?_)
    | (refine Qam rfl _ _ rfl (CC cmd0) (by simp only[QCW,QC2];exact hb0) ?_)
    | (refine Qb9 rfl rfl _ _ rfl (B6.nth 1 rfl) rfl rfl hz0 ?_;intro w10 hb10 ho10)
    | fail)
   exact bodyPost_ret (Qag rfl _ _ _ _ _ _ hb10 rfl Tryz.underlying64 rfl (by rw[Qao];exact Qen)) rfl ⟨by rw[hDE.out,hDC.out];rfl,(B6.write 1 rfl ho10 hb10).lat⟩
section
variable {ops:Array Oper} {rest:List Oper} {o:Oper} {a:Act} {w:World} {Q:Exit→Act→World→Prop}
theorem QjH {P:Program} {J:Act→Prop} (ty:TypeId) (x:Operand) (ho:o.op= .load ty x) {w0:World} {bad:List Nat} {g:Nat} {t:TypeId} {l:List Value} (off:Nat) (vs:List Value) (hb:Blk w0 g t l) (hn:∀b∈bad,g≠b) (hx:a.eval x= .pointer (some ⟨g,off,none⟩))
 (hv:∀j v,vs[j]?=some v→l[off+j]?=some v) (d:TypeDesc) (hu:P.underlying ty=some d) (hd:QbM d=true) (hi:(P.info? ty).map (·.size)=some vs.length) (h:J (a.put o.dst (.agg vs.toArray))):o.quiet P a (Spared w0 bad) J:=
 Qa2 _ x ho g off vs (fun _ hw j v hv'=>Blk.cellD (hw.blk hb hn) _ (hv j v hv')) hx d hu hd hi h
end
theorem Qk6 (l:List Value):∀j v,l[j]?=some v→l[0+j]?=some v:=fun j v h=>by rw[QC6];exact h
theorem QoZ {w:World} {g n k:Nat} {t:TypeId} {bs:List UInt8} {rest:List Value} (h:Blk w g t (bs.map W8++rest)) (hn:bs.length=n) (hk:k<n):Rd w (some ⟨g,k,none⟩) (n-k) ((bs.drop k).map W8):=by
 have h1:=(QfC h hn).cut (k:=k) (c:=n+1) (by omega) (by omega)
 rw[show cutA (some ⟨g,0,none⟩) k (n+1)=some ⟨g,k,none⟩ by
  rw[cutA,if_neg (by omega)]
  show some ((⟨g,0,none⟩:Addr).add k)=_
  rw[Qdr,QC6]]at h1
 exact h1
theorem QuL (nb pl:List UInt8) (hn:nb.length=32) (hp:pl.length=288):putB (putB (putB (QCA 288 0) 0 nb) 32 ((pl.drop 32).take 16)) 48 (pl.drop 48)=nb++pl.drop 32:=by
 have h:=Qq1 (nb++pl.drop 32) (by rw[QCK,QC3];omega)
 rw[QDY hn,QDn hn,show (nb++pl.drop 32).drop 48=pl.drop 48 by rw[List.drop_append,QEj (by omega),QCG,hn,QEo]]at h
 exact h
theorem Qpn (h s:List UInt8) (hl:h.length=288):[subB h 48 240,QCA 48 0].flatten.length=288∧xorB [subB h 48 240,QCA 48 0].flatten (chaS (kStr s) 288)=Qcr h s:=by
 have s2:(subB h 48 240).length=240:=Qan (by omega)
 rw[QDN,QDN,QEN,QDf]
 exact⟨by rw[QCK,s2,QCM],rfl⟩
set_option maxRecDepth 100000 in
set_option maxHeartbeats 8000000 in
theorem QqW (h s:List UInt8) (hl:h.length=288) (hs:s.length=192) (w:World):
 Calls Tryz.prog 101 #[.agg (h.map W8).toArray,.agg (s.map W8).toArray] w fun e w'=>e= .returned (.tuple #[.agg (CC (Qji h s)).toArray,.agg ((Qjd h s).map W8).toArray,.int .i64 (QfI h s:Nat)])∧Later w w':=by
 have HZ:=hid zcH
 have l0:(QCA 288 (0:UInt8)).length=288:=QCM
 have C1:=Qbr w 34 (h.map W8)
 have C2:=C1.add (Qaa _ (.cells (s.map W8).toArray 53)) (k:=w.heap.size+1) (by simp) (by omega) (Blk.new' _ _ _ (by simp))
 have C3:=C2.add (Qaa _ (.cells cz0.toArray 64)) (k:=w.heap.size+2) (by simp) (by omega) (Blk.new' _ _ _ (by simp))
 have C4:=C3.add (Qaa _ (.cells Tryz.zeroCells34 34)) (k:=w.heap.size+3) (by simp) (by omega) ((Blk.new' _ _ Tryz.zeroCells34.toList (by simp)).cast HZ.out)
 clear C1 C2 C3
 have s2:(subB h 48 240).length=240:=Qan (by omega)
 have k1:(kStr s).length=32:=Qan (by omega)
 have hF:=hid (Qrr h s hl hs)
 have hpf:=Qpn h s hl
 have hT:=hid (fun B d g (w:World) hk hp=>QiJ (some ⟨g,32,none⟩) 32 2 d B (kStr s) [subB h 48 240,QCA 48 0] w hk hp (by omega) (by rw[hpf.1];omega))
 rw[hpf.1,hpf.2]at hT
 have hpl:=QgB h s hl
 have hD:=hid (fun A c (w:World) h1 h2=>QmM A c ((Qcr h s).take 32) w h1 h2)
 have hE:Hid (QfI h s=if QgG h s=false then 6 else if decE ((Qcr h s).take 32)≠0 then 3 else if (decC ((Qcr h s).take 32)).kd=1 then Qlz s else 0):=hid rfl
 have hC:Hid (Qji h s=if QfI h s=0 then decC ((Qcr h s).take 32) else cmd0):=hid rfl
 have hN:Hid (Qjd h s=if QfI h s=0∧(decC ((Qcr h s).take 32)).kd=1 then Qjl s++(Qcr h s).drop 32 else QCA 288 0):=hid rfl
 have hX:=hid (fun (w:World)=>QoK s (kBli s) (kAlp s) hs rfl rfl w)
 have hput:=hid (QuL (Qjl s) (Qcr h s) (QaP _ _) hpl)
 have hXb:Hid (Qbg (kBli s) (kAlp s)=Qjl s∧QaX (kBli s) (kAlp s)=Qlz s):=hid ⟨rfl,rfl⟩
 rw[hXb.out.1,hXb.out.2]at hX
 have nbl:(Qjl s).length=32:=QaP _ _
 have hb0:=QjE
 have hbh:=Qqf
 clear hpf hXb
 generalize Qji h s=OC at *
 generalize Qjd h s=ON at *
 generalize QfI h s=OE at *
 generalize QgG h s=F at *
 generalize Qcr h s=pl at *
 generalize decE (pl.take 32)=dE at *
 generalize decC (pl.take 32)=dC at *
 generalize Qlz s=nE at *
 generalize Qjl s=nb at *
 have hnbl:=nbl
 generalize QCA 288 (0:UInt8)=Z at *
 have hzl:(Z.map W8).length=288:=by rw[QCE];exact l0
 have hz0:cz0.length=20:=rfl
 go_enter Tryz.func101,Tryz.ntmps101
 go_wp2_with (first
  | (refine Qj3 rfl _ rfl (C4.nth 3 rfl) hl rfl ?_)
  | (refine Qfh rfl _ rfl (C4.nth 2 rfl) hs rfl ?_)
  | fail)
 (with_reducible refine (hF.out _).mono ?_);rintro e w5 ⟨rfl,l5⟩
 replace C4:=C4.later l5
 clear l5 hF
 cases F
 ·have HE:=hE.out
  rw[if_pos rfl]at HE
  have HC:=hC.out
  rw[HE,if_neg (by decide)]at HC
  have HN:=hN.out
  rw[HE,if_neg (by simp)]at HN
  replace HE:=hid HE
  replace HC:=hid HC
  replace HN:=hid HN
  clear hE hC hN
  go_wp2_with (first
   | (refine Qam rfl 64 _ rfl (CC cmd0) (by simp only[QCW,QC2];exact hb0) ?_)
   | (refine Qam rfl 34 _ rfl (Z.map W8) (by simp only[QCW,QC2];exact hbh) ?_)
   | (refine Qb9 rfl rfl _ _ rfl (C4.nth 1 rfl) rfl rfl hz0 ?_;intro w6 hb6 ho6
      have C5:=C4.write 1 rfl ho6 hb6)
   | (refine QdC rfl rfl _ _ rfl (C5.nth 0 rfl) rfl rfl l0 hzl ?_;intro w7 hb7 ho7
      have C6:=C5.write 0 rfl ho7 hb7)
   | fail)
  exact bodyPost_ret (QdI rfl _ _ _ _ _ _ _ _ _ _ (C6.nth 1 rfl) rfl Tryz.underlying64 rfl (by rw[Qao];exact Qen) (C6.nth 0 rfl) rfl Tryz.underlying34 rfl (by rw[QCE,l0];exact QcK)) rfl ⟨by rw[HE.out,HC.out,HN.out];rfl,C6.lat⟩
 ·replace hE:Hid (OE=if dE≠0 then 3 else if dC.kd=1 then nE else 0):=hid (by rw[hE.out,if_neg (by decide)])
  go_wp2_with fail
  have C5:=C4.drew
  clear C4
  refine Qaf [([0,1,2,3,4],5),([],6),([],7)] [8,9,10,11,12] [] (by as_aux_lemma=>kernel_rfl) (by as_aux_lemma=>kernel_rfl) (by intro _ _ d _ _ h;cases d<;>exact h) ?_
  simp only[Qah,pick,QCB,QCC,QCD,QCF,QCG]
  repeat (go_big_quiet_step (fail))
  refine wpQuiet_nil ?_
  go_wp2_with (first
   | (refine Qax rfl _ _ _ rfl 5 _ 1 Tryz.underlying22 Qb4 rfl _ _ _ _ 48 rfl rfl rfl rfl (by omega) (by omega) ?_;intro w6 hb6 hl6)
   | fail)
  try refine⟨by first|assumption|exact Qab _|exact Qaa _ _|exact Later.refl _,?_⟩
  try simp only[Qah,pick,QCB,QCC,QCD,QCF,QCG]
  repeat (go_big_quiet_step (fail))
  refine wpQuiet_nil ?_
  have C6:=C5.later hl6
  go_wp2_with fail
  try refine⟨by first|assumption|exact Qab _|exact Qaa _ _|exact Later.refl _,?_⟩
  try simp only[Qah,pick,QCB,QCC,QCD,QCF,QCG]
  repeat (go_big_quiet_step (fail))
  refine wpQuiet_nil ?_
  have l7:=Qaa w6 (.cells #[.slice (some ⟨w.heap.size,48,none⟩) 240 240,.slice (some ⟨w5.drew.heap.size,0,none⟩) 48 48] 22)
  have C7:=C6.later l7
  have P7:=Qfn (bad:=fun _=>False) (ps:=[subB h 48 240,QCA 48 0]) ((Blk.new w6 22 [.slice (some ⟨w.heap.size,48,none⟩) 240 240,.slice (some ⟨w5.drew.heap.size,0,none⟩) 48 48]).rd rfl) (QbL _ _) ⟨QaW (QbU (C7.nth 3 rfl) rfl s2) (QCL _),QaW (show RdB _ (some ⟨w5.drew.heap.size,0,none⟩) 48 (QCA 48 0) from (hb6.later l7).rd rfl) (QCL _),trivial⟩
  have hk7:=QbU (C7.nth 2 rfl) rfl k1
  go_wp2_with fail
  (refine (hT.out _ _ _ _ hk7 P7).mono ?_);rintro e w8 ⟨A8,c8,rfl,o8,l8⟩
  obtain⟨g8,r8,rfl,hg8,hb8,hc8,hcc8⟩:=QhT o8 (by omega)
  have C8:=C7.fresh l8 hg8 hb8
  clear C5 C6 C7 P7 hk7 l7 hl6 hb6 hT o8 hb8 hg8 hc8
  go_wp2_with fail
  try refine⟨by first|assumption|exact Qab _|exact Qaa _ _|exact Later.refl _,?_⟩
  try simp only[Qah,pick,QCB,QCC,QCD,QCF,QCG]
  repeat (go_big_quiet_step (fail))
  refine wpQuiet_nil ?_
  go_wp2_with fail
  (refine (hD.out _ _ _ ((QfC (C8.nth 0 rfl) hpl).take (m:=32) (by omega)) (by omega)).mono ?_);rintro e w9 ⟨rfl,l9⟩
  have C9:=C8.later l9
  clear C8 l9 hD
  by_cases hd0:dE=0
  ·subst hd0
   replace hE:Hid (OE=if dC.kd=1 then nE else 0):=hid (by rw[hE.out,if_neg (by simp)])
   cases hk1:(dC.kd==1)
   ·have hkn: ¬dC.kd=1:=by simpa using hk1
    have n1:(dC.kd != 1)=true:=by rw[bne,hk1];rfl
    have HE:OE=0:=by rw[hE.out,if_neg hkn]
    have HC:OC=dC:=by rw[hC.out,HE,if_pos rfl]
    have HN:ON=Z:=by rw[hN.out,if_neg (fun h=>hkn h.2)]
    replace HE:=hid HE
    replace HC:=hid HC
    replace HN:=hid HN
    clear hE hC hN hkn
    go_wp2_with (first
     | (refine Qb9 rfl rfl _ _ rfl (Blk.new w9 _ cz0) rfl rfl rfl ?_;intro w10 hb10 ho10
        have C10:=C9.push (Qaa _ _) (QCL _) ho10 hb10
        have hc0:=(QeR hb10).1)
     | (refine QcG rfl _ rfl (C10.nth 0 rfl) rfl ?_)
     | (refine Qam rfl 34 _ rfl (Z.map W8) (by simp only[QCW,QC2];exact hbh) ?_)
     | (refine Qb9 rfl rfl _ _ rfl (C10.nth 3 rfl) rfl rfl hz0 ?_;intro w11 hb11 ho11
        have C11:=C10.write 3 rfl ho11 hb11)
     | (refine QdC rfl rfl _ _ rfl (C11.nth 2 rfl) rfl rfl l0 hzl ?_;intro w12 hb12 ho12
        have C12:=C11.write 2 rfl ho12 hb12)
     | fail)
    exact bodyPost_ret (QdI rfl _ _ _ _ _ _ _ _ _ _ (C12.nth 3 rfl) rfl Tryz.underlying64 rfl (by rw[Qao];exact Qen) (C12.nth 2 rfl) rfl Tryz.underlying34 rfl (by rw[QCE,l0];exact QcK)) rfl ⟨by rw[HE.out,HC.out,HN.out];rfl,C12.lat⟩
   ·have hky:dC.kd=1:=by simpa using hk1
    have n1:(dC.kd != 1)=false:=by rw[bne,hk1];rfl
    replace hE:Hid (OE=nE):=hid (by rw[hE.out,if_pos hky])
    have l1:(putB Z 0 nb).length=288:=by rw[Qbc (by omega)];exact l0
    have l2:(putB (putB Z 0 nb) 32 ((pl.drop 32).take 16)).length=288:=by rw[Qbc (by rw[QC1,QC3];omega)];exact l1
    have e3:((pl.drop 48).take 240)=pl.drop 48:=QCP (by rw[QC3];omega)
    have HNL:(nb++pl.drop 32).length=288:=by rw[QCK,QC3];omega
    replace e3:=hid e3
    generalize hZ2:putB (putB Z 0 nb) 32 ((pl.drop 32).take 16)=Z2 at *
    generalize hZ1:putB Z 0 nb=Z1 at *
    replace hZ1:=hid hZ1
    replace hZ2:=hid hZ2
    replace hky:=hid hky
    go_wp2_with (first
     | (refine Qb9 rfl rfl _ _ rfl (Blk.new w9 _ cz0) rfl rfl rfl ?_;intro w10 hb10 ho10
        have C10:=C9.push (Qaa _ _) (QCL _) ho10 hb10
        have hc0:=(QeR hb10).1)
     | (refine Qfh rfl _ rfl ((C10.later (Qaa _ _)).nth 4 rfl) hs rfl ?_)
     | fail)
    (with_reducible refine (hX.out _).mono ?_);rintro e w11 ⟨rfl,l11⟩
    have C11:=(C10.fresh (Qaa _ _) (QCL _) ((Blk.new w10 _ Tryz.zeroCells34.toList).cast HZ.out)).later l11
    clear hb10 ho10 l11 C10 C9
    have hc0':=(QeR (C11.nth 1 rfl)).1
    by_cases hn0:nE=0
    ·subst hn0
     have HE:=hE.out
     have HC:OC=dC:=by rw[hC.out,HE,if_pos rfl]
     have HN:ON=nb++pl.drop 32:=by rw[hN.out,if_pos ⟨HE,hky.out⟩]
     replace HE:=hid HE
     replace HC:=hid HC
     replace HN:=hid HN
     clear hE hC hN
     generalize nb++pl.drop 32=NX at *
     have hNX:=hid (Qex NX 288 HNL)
     go_wp2_with (first
      | (refine Qf1 0 32 rfl rfl _ _ rfl (C11.nth 0 rfl) rfl rfl Qdn hnbl (by omega) ?_;intro w12 hb12 ho12;rw[hZ1.out]at hb12
         have C12:=C11.write 0 rfl ho12 hb12)
      | fail)
     have C13:=C12.drew
     clear C11 C12 hb12 ho12
     have r32:=QoZ (k:=32) (C13.nth 2 rfl) hpl (by omega)
     refine Qaf [] [0,1,2,3] [4] (by as_aux_lemma=>kernel_rfl) (by as_aux_lemma=>kernel_rfl) (by intro _ _ d _ _ h;cases d<;>exact h) ?_
     simp only[Qah,pick,QCB,QCC,QCD,QCF,QCG]
     repeat (go_big_quiet_step (fail))
     refine wpQuiet_nil ?_
     go_wp2_with (first
      | (refine Qar rfl _ _ _ _ rfl 5 Tryz.underlying22 Qbu w10.heap.size 32 16 16 _ _ (C13.nth 0 rfl) (some ⟨g8,32,none⟩) 256 (c8-32) ((pl.drop 32).map W8) r32 (QaC _) rfl rfl (by rw[QCE];omega) ?_;intro w14 hb14 ho14;rw[←QD1,Qcn,hZ2.out]at hb14
         have C14:=C13.write 0 rfl ho14 hb14)
      | fail)
     have C15:=C14.drew
     simp only[Act.put,QCJ,QCO,QCN]
     have r48:=QoZ (k:=48) (C15.nth 2 rfl) hpl (by omega)
     refine Qaf [] [0,1,2,3] [4] (by as_aux_lemma=>kernel_rfl) (by as_aux_lemma=>kernel_rfl) (by intro _ _ d _ _ h;cases d<;>exact h) ?_
     simp only[Qah,pick,QCB,QCC,QCD,QCF,QCG]
     repeat (go_big_quiet_step (fail))
     refine wpQuiet_nil ?_
     go_wp2_with (first
      | (refine Qar rfl _ _ _ _ rfl 5 Tryz.underlying22 Qbu w10.heap.size 48 240 240 _ _ (C15.nth 0 rfl) (some ⟨g8,48,none⟩) 240 (c8-48) ((pl.drop 48).map W8) r48 (QaC _) rfl rfl (by rw[QCE];omega) ?_;intro w16 hb16 ho16;rw[←QD1,Qcn,e3.out,hput.out]at hb16
         have C16:=C15.write 0 rfl ho16 hb16)
      | fail)
     simp only[Act.put,QCJ,QCO,QCN]
     clear hb14 ho14 hb16 ho16 C13 C14 C15 r32 r48
     have hne03:=C16.ne 0 4 rfl rfl (by decide)
     refine Qeh [0,1] [2,3,4] (fun i=>if i=1 then [2] else []) (fun i=>if i=2 then w.heap.size+2 else w.heap.size+3) (by as_aux_lemma=>kernel_rfl) (by as_aux_lemma=>kernel_rfl) (by intro _ _ d _ _ h;cases d<;>exact h) ?_
     refine⟨_,rfl,rfl,?_⟩
     refine QjH _ _ rfl 0 (CC dC) (C16.nth 1 rfl) (by simp) rfl (Qk6 _) _ Tryz.underlying64 rfl (by rw[Qao];exact Qen) ?_
     simp only[Act.put,QCJ,QCO,QCN]
     refine⟨_,rfl,rfl,?_⟩
     refine QjH _ _ rfl 0 (NX.map W8) (C16.nth 0 rfl) (by intro b hb;simp at hb;subst hb;exact hne03) rfl (Qk6 _) _ Tryz.underlying34 rfl (by rw[QCE,HNL];exact QcK) ?_
     simp only[Act.put,QCJ,QCO,QCN]
     simp only[Qj6,QgJ,pick,QCB,QCC,QCD,QCF,QCG]
     refine Qb9 rfl rfl _ _ rfl (C16.drew.nth 4 rfl) rfl rfl hz0 ?_
     intro w17 hb17 ho17
     have C17:=C16.drew.write 4 rfl ho17 hb17
     refine⟨ho17,?_⟩
     refine QdC rfl rfl _ _ rfl (C17.nth 3 rfl) rfl rfl HNL hzl ?_
     intro w18 hb18 ho18
     have C18:=C17.write 3 rfl ho18 hb18
     refine⟨ho18,?_⟩
     go_wp2_with fail
     refine⟨World.grownBy.refl _ _,?_⟩
     go_wp2_with fail
     exact bodyPost_ret (QdI rfl _ _ _ _ _ _ _ _ _ _ (C18.nth 4 rfl) rfl Tryz.underlying64 rfl (by rw[Qao];exact Qen) (C18.nth 3 rfl) rfl Tryz.underlying34 rfl (by rw[QCE,HNL];exact QcK)) rfl ⟨by rw[HE.out,HC.out,HN.out];rfl,C18.lat⟩
    ·have hne:((nE:Int) != 0)=true:=by simp;omega
     have HE:=hE.out
     have HC:OC=cmd0:=by rw[hC.out,HE,if_neg hn0]
     have HN:ON=Z:=by rw[hN.out,HE,if_neg (fun h=>hn0 h.1)]
     replace HE:=hid HE
     replace HC:=hid HC
     replace HN:=hid HN
     clear hE hC hN
     go_wp2_with (first
      | (refine Qf1 0 32 rfl rfl _ _ rfl (C11.nth 0 rfl) rfl rfl Qdn hnbl (by omega) ?_;intro w12 hb12 ho12;rw[hZ1.out]at hb12
         have C12:=C11.write 0 rfl ho12 hb12)
      | (refine Qam rfl 64 _ rfl (CC cmd0) (by simp only[QCW,QC2];exact hb0) ?_)
      | (refine Qam rfl 34 _ rfl (Z.map W8) (by simp only[QCW,QC2];exact hbh) ?_)
      | (refine Qb9 rfl rfl _ _ rfl (C12.nth 4 rfl) rfl rfl hz0 ?_;intro w13 hb13 ho13
         have C13:=C12.write 4 rfl ho13 hb13)
      | (refine QdC rfl rfl _ _ rfl (C13.nth 3 rfl) rfl rfl l0 hzl ?_;intro w14 hb14 ho14
         have C14:=C13.write 3 rfl ho14 hb14)
      | fail)
     exact bodyPost_ret (QdI rfl _ _ _ _ _ _ _ _ _ _ (C14.nth 4 rfl) rfl Tryz.underlying64 rfl (by rw[Qao];exact Qen) (C14.nth 3 rfl) rfl Tryz.underlying34 rfl (by rw[QCE,l0];exact QcK)) rfl ⟨by rw[HE.out,HC.out,HN.out];rfl,C14.lat⟩
  ·have HE:OE=3:=by rw[hE.out,if_pos hd0]
   have HC:OC=cmd0:=by rw[hC.out,HE,if_neg (by decide)]
   have HN:ON=Z:=by rw[hN.out,HE,if_neg (by simp)]
   have hne:((dE:Int) != 0)=true:=by simp;omega
   replace HE:=hid HE
   replace HC:=hid HC
   replace HN:=hid HN
   clear hE hC hN
   go_wp2_with (first
    | (refine Qb9 rfl rfl _ _ rfl (Blk.new w9 _ cz0) rfl rfl rfl ?_;intro w10 hb10 ho10
       have C10:=C9.push (Qaa _ _) (QCL _) ho10 hb10)
    | (refine Qam rfl 64 _ rfl (CC cmd0) (by simp only[QCW,QC2];exact hb0) ?_)
    | (refine Qam rfl 34 _ rfl (Z.map W8) (by simp only[QCW,QC2];exact hbh) ?_)
    | (refine Qb9 rfl rfl _ _ rfl (C10.nth 3 rfl) rfl rfl hz0 ?_;intro w11 hb11 ho11
       have C11:=C10.write 3 rfl ho11 hb11)
    | (refine QdC rfl rfl _ _ rfl (C11.nth 2 rfl) rfl rfl l0 hzl ?_;intro w12 hb12 ho12
       have C12:=C11.write 2 rfl ho12 hb12)
    | fail)
   exact bodyPost_ret (QdI rfl _ _ _ _ _ _ _ _ _ _ (C12.nth 3 rfl) rfl Tryz.underlying64 rfl (by rw[Qao];exact Qen) (C12.nth 2 rfl) rfl Tryz.underlying34 rfl (by rw[QCE,l0];exact QcK)) rfl ⟨by rw[HE.out,HC.out,HN.out];rfl,C12.lat⟩
theorem Qvl (b:List UInt8) (h:b.length=768):putB (b.take 288++QCA 480 0) 288 ((b.drop 288).take 480)=b:=by
 rw[Qdb _ _ _ 288 (by rw[QC1];omega) (by rw[QCM,QC1,QC3];omega),QCP (l:=b.drop 288) (by rw[QC3];omega),QC9]
set_option maxRecDepth 100000 in
set_option maxHeartbeats 4000000 in
theorem Qp7 (A:Option Addr) (c:Nat) (b:List UInt8) (w:World) (hb:RdB w A 768 b) (hc:768≤c):
 Calls Tryz.prog 14 #[.slice A 768 c] w fun e w'=>e= .returned (.tuple #[.agg (b.map W8).toArray,.int .i64 0])∧Later w w':=by
 have hbl:=hb.len
 obtain⟨b0,p,rfl,hb00,_⟩:=hb.2 (by omega)
 have HZ:=hid zcP
 have HH:=hid zcH
 have B0:Bag w (w.alloc (.cells Tryz.zeroCells37 37)) [(w.heap.size,37,(QCA 768 (0:UInt8)).map W8)]:=(Bag.none w).add (Qaa _ _) (by simp) (QCL _) ((Blk.new w _ Tryz.zeroCells37.toList).cast zcP)
 have l0:((QCA 768 (0:UInt8)).map W8).length=768:=by rw[QCE,QCM]
 have lh:((QCA 288 (0:UInt8)).map W8).length=288:=by rw[QCE,QCM]
 have hhl:(b.take 288).length=288:=by rw[QC1];omega
 have hH:=hid (fun (w:World) h=>QpW (some ⟨b0,p,none⟩) c (b.take 288) w h (by omega))
 have hp1:=Qjt (b.take 288) hhl
 have hp1l:(b.take 288++QCA 480 (0:UInt8)).length=768:=by rw[QCK,hhl,QCM]
 have hput:=hid (Qvl b hbl)
 have h288:Hid (∀ w,RdB w (some ⟨b0,p,none⟩) 768 b→RdB w (some ⟨b0,p+288,none⟩) 480 (b.drop 288)):=hid (fun w h=>by
  have:=RdB.cut h (k:=288) (c:=769) (by omega) (by omega)
  rw[show cutA (some ⟨b0,p,none⟩) 288 769=some ⟨b0,p+288,none⟩ by rw[cutA,if_neg (by omega)];rfl]at this
  exact this)
 have hcc:cutA (some ⟨b0,p,none⟩) 288 c=some ⟨b0,p+288,none⟩:=by rw[cutA,if_neg (by omega)];rfl
 have HT:Hid (∀ w,RdB w (some ⟨b0,p,none⟩) 768 b→RdB w (some ⟨b0,p,none⟩) 288 (b.take 288)):=hid (fun w h=>RdB.take h (by omega))
 generalize QCA 768 (0:UInt8)=Z at *
 generalize QCA 288 (0:UInt8)=ZH at *
 generalize b.take 288++QCA 480 (0:UInt8)=P1 at *
 generalize b.take 288=hd at *
 go_enter Tryz.func14,Tryz.ntmps14
 go_wp2_with fail
 generalize hW:w.alloc _=w1
 replace B0:Bag w w1 [(w.heap.size,37,Z.map W8)]:=by rw[←hW];exact B0
 clear hW
 (with_reducible refine (hH.out _ (HT.out _ (hb.later B0.lat))).mono ?_);rintro e w2 ⟨rfl,l2⟩
 replace B0:=B0.later l2
 go_wp2_with (first
  | (refine QdC rfl rfl _ _ rfl ((Blk.new w2 _ Tryz.zeroCells34.toList).cast HH.out) rfl rfl hhl lh ?_;intro w3 hb3 ho3
     have B1:=B0.push (Qaa _ _) (QCL _) ho3 hb3)
  | (refine Qj3 rfl _ rfl (B1.nth 0 rfl) hhl rfl ?_)
  | (refine Qam rfl 37 _ rfl (P1.map W8) (by simp only[QCW,QC7,QC2];exact hp1) ?_)
  | (refine QaL rfl rfl _ _ rfl ((Blk.new w3 _ Tryz.zeroCells37.toList).cast HZ.out) rfl rfl hp1l l0 ?_;intro w4 hb4 ho4
     have B2:=B1.push (Qaa _ _) (QCL _) ho4 hb4)
  | fail)
 have B3:=B2.drew
 have hlb:b0<w4.drew.heap.size:=QC0 hb00 B3.lat.size
 refine Qaf [] [0,1,2,3] [4] (by as_aux_lemma=>kernel_rfl) (by as_aux_lemma=>kernel_rfl) (by intro _ _ d _ _ h;cases d<;>exact h) ?_
 simp only[Qah,pick,QCB,QCC,QCD,QCF,QCG]
 repeat (go_big_quiet_step (fail))
 refine wpQuiet_nil ?_
 go_wp2_with (first
  | (refine Qar rfl _ _ _ _ rfl 5 Tryz.underlying22 Qbu w3.heap.size 288 480 480 _ _ (B3.nth 0 rfl) (some ⟨b0,p+288,none⟩) 480 (c-288) ((b.drop 288).map W8) (h288.out _ (hb.later B3.lat)) (QaC _) rfl rfl (by rw[QCE];omega) ?_;intro w5 hb5 ho5;rw[←QD1,Qcn,hput.out]at hb5
     have B4:=B3.write 0 rfl ho5 hb5)
  | (refine Qf4 rfl _ rfl (B4.nth 0 rfl) hbl rfl ?_)
  | (refine QaL rfl rfl _ _ rfl (B4.nth 2 rfl) rfl rfl hbl l0 ?_;intro w6 hb6 ho6)
  | fail)
 exact bodyPost_ret (Qag rfl _ _ _ _ _ _ hb6 rfl Tryz.underlying37 rfl (by rw[QCE,hbl];exact Qbs)) rfl ⟨rfl,(B4.write 2 rfl ho6 hb6).lat⟩
set_option maxRecDepth 100000 in
set_option maxHeartbeats 2000000 in
theorem Qpu (b:List UInt8) (hl:b.length=768) (w:World):
 Calls Tryz.prog 13 #[.agg (b.map W8).toArray] w fun e w'=>∃A' c',e= .returned (.slice A' 768 c')∧OwnB w' w.heap.size A' 768 c' b∧Later w w':=by
 have hb:Blk (w.alloc (.cells (b.map W8).toArray 37)) w.heap.size 37 (b.map W8):=Blk.new _ _ _
 have s0:(subB b 0 288).length=288:=Qan (by omega)
 have s1:(subB b 288 480).length=480:=Qan (by omega)
 have hfl:[subB b 0 288,subB b 288 480].flatten=b:=by
  rw[subB,subB,QDN,QDN,QEN,QDf,QEb,QCP (l:=b.drop 288) (by rw[QC3];omega),QC9]
 have hJ:=hid (fun B d (w:World) hp=>QcP B 2 d [subB b 0 288,subB b 288 480] w hp (by omega) (by rw[hfl];omega))
 rw[hfl,hl]at hJ
 have hB:=hid (fun (w:World)=>Qpy (subB b 0 288) s0 w)
 have L:=Qaa w (.cells (b.map W8).toArray 37)
 have Rs:Hid (subB b 0 288=subB b 0 288):=hid rfl
 generalize hS:subB b 0 288=S0 at *
 replace hS:=hid hS
 go_enter Tryz.func13,Tryz.ntmps13
 go_wp2_with fail
 generalize hW:w.alloc _=w1 at *
 clear hW
 refine Qaf [([0,1,3,4],2),([],5),([],6)] [7] [] (by as_aux_lemma=>kernel_rfl) (by as_aux_lemma=>kernel_rfl) (by intro _ _ d _ _ h;cases d<;>exact h) ?_
 simp only[Qah,pick,QCB,QCC,QCD,QCF,QCG]
 repeat (first|go_big_quiet_skip|(go_big_quiet_want;(refine QeB 0 288 _ rfl hb.drew rfl Tryz.underlying34 rfl QcK hS.out s0 ?_);simp only[Act.put,QCJ,QCO,QCN];go_big_quiet_on)|(go_big_quiet_step (fail)))
 refine wpQuiet_nil ?_
 go_wp2_with fail
 (with_reducible refine (hB.out _).mono ?_);rintro e w2 ⟨A2,c2,rfl,o2,l2⟩
 go_wp2_with fail
 try refine⟨by first|assumption|exact Qab _|exact Qaa _ _|exact Later.refl _,?_⟩
 try simp only[Qah,pick,QCB,QCC,QCD,QCF,QCG]
 repeat (go_big_quiet_step (fail))
 refine wpQuiet_nil ?_
 have l3:=Qaa w2 (.cells #[.slice A2 288 c2,.slice (some ⟨w.heap.size,288,none⟩) 480 480] 22)
 have hb3:=((hb.later (Qab _)).later l2).later l3
 have P3:=Qfn (bad:=fun _=>False) (ps:=[S0,subB b 288 480]) ((Blk.new w2 22 [.slice A2 288 c2,.slice (some ⟨w.heap.size,288,none⟩) 480 480]).rd rfl) (QbL _ _) ⟨QaW (o2.later l3).rd o2.cap,QaW (QbU hb3 rfl s1) (QCL _),trivial⟩
 go_wp2_with fail
 try refine⟨by first|assumption|exact Qab _|exact Qaa _ _|exact Later.refl _,?_⟩
 try simp only[Qah,pick,QCB,QCC,QCD,QCF,QCG]
 repeat (go_big_quiet_step (fail))
 refine wpQuiet_nil ?_
 go_wp2_with fail
 (refine (hJ.out _ _ _ P3).mono ?_);rintro e w4 ⟨A4,c4,rfl,o4,l4⟩
 go_wp2_with fail
 try refine⟨by first|assumption|exact Qab _|exact Qaa _ _|exact Later.refl _,?_⟩
 try simp only[Qah,pick,QCB,QCC,QCD,QCF,QCG]
 repeat (go_big_quiet_step (fail))
 refine wpQuiet_nil ?_
 go_wp2_with fail
 go_ret
 exact⟨_,_,rfl,o4.mono (((L.trans (Qab _)).trans l2).trans l3).size,(((L.trans (Qab _)).trans l2).trans l3).trans l4⟩
theorem QwM:(Tryz.prog.info? 66).map (·.size)=some 20:=by kernel_rfl
theorem QBA:(Tryz.prog.info? 66).bind (·.zero)=some (.agg (CC cmd0).toArray):=by kernel_rfl
theorem Qo9 (c:Cmd):Tryz.prog.built 66 [(0,.agg (CC c).toArray)]=some (CC c).toArray:=by
 rw[QbD (pl:=[(0,20)]) Tryz.underlying66 QBA (by kernel_rfl),Qck (vs:=CC c) (off:=0) rfl (by rw[Qao];rfl) (by rw[Qao,Qao];omega),Qdv,Qal _ _ (by rw[Qao,Qao])]
def PC (c:Cmd) (P:List UInt8) (v:Value):List Value:=CC c++(P.map W8++[v])
def nil8:Value:=.slice none 0 0
def z768:List UInt8:=QCA 768 0
theorem QaN:z768.length=768:=QCM
theorem QbI (c:Cmd) {P:List UInt8} (h:P.length=768) (v:Value):(PC c P v).length=789:=by
 rw[PC,QCK,QCK,Qao,QCE,h]
 rfl
theorem Qzx (c:Cmd) (P:List UInt8) {v:Value} (h:v.oneCell'=true):∀u∈PC c P v,u.oneCell'=true:=by
 intro u hu
 rw[PC]at hu
 rcases QD8.1 hu with hu|hu
 ·exact Qor c u hu
 ·rcases QD8.1 hu with hu|hu
  ·exact QaC P u hu
  ·rw[QEP.1 hu];exact h
theorem Qf2:(Tryz.prog.info? 68).map (·.size)=some 789:=by kernel_rfl
theorem QvW:(Tryz.prog.info? 68).bind (·.zero)=some (.agg (PC cmd0 z768 nil8).toArray):=by
 rw[PC,z768,QDg]
 kernel_rfl
theorem zcPe:Tryz.zeroCells68.toList=PC cmd0 z768 nil8:=by
 rw[PC,z768,QDg]
 kernel_rfl
theorem Qlm:Tryz.prog.built 68 []=some (PC cmd0 z768 nil8).toArray:=by
 rw[QbD (pl:=[(0,20),(20,768),(788,1)]) Tryz.underlying68 QvW (by kernel_rfl),Qdv]
theorem QrV {A B vs:List Value} (h:vs.length=A.length):Qaq (A++B) 0 vs=vs++B:=by
 rw[Qaq,QET,QCG,QC6,h,List.drop_left]
theorem QsB (c:Cmd):Tryz.prog.built 68 [(0,.agg (CC c).toArray)]=some (PC c z768 nil8).toArray:=by
 rw[QbD (pl:=[(0,20),(20,768),(788,1)]) Tryz.underlying68 QvW (by kernel_rfl),Qck (vs:=CC c) (off:=0) rfl (by rw[Qao];rfl) (by rw[Qao,QbI _ QaN];omega),Qdv,PC,PC,QrV (by rw[Qao,Qao])]
theorem QzN (c:Cmd) (P:List UInt8) (v:Value):∀j u,(CC c)[j]?=some u→(PC c P v)[0+j]?=some u:=fun j u h=>by
 rw[QC6,PC,QCU (QCT.1 h).1]
 exact h
theorem Qsz (c:Cmd) (P:List UInt8) (v:Value):∀j u,(P.map W8)[j]?=some u→(PC c P v)[20+j]?=some u:=fun j u h=>by
 rw[PC,QCQ (by rw[Qao];omega),Qao,QEw,QCU (QCT.1 h).1]
 exact h
theorem Qyi (c:Cmd) {P:List UInt8} (h:P.length=768) (v:Value):(PC c P v)[788]?=some v:=by
 rw[PC,QCQ (by rw[Qao];omega),Qao,QCQ (by rw[QCE,h];omega),QCE,h]
 rfl
theorem QwY (c:Cmd) {P:List UInt8} (h:P.length=768) (v v':Value):(PC c P v).set 788 v'=PC c P v':=by
 rw[PC,QDb _ _ (by rw[Qao];omega),Qao,QDb _ _ (by rw[QCE,h];omega),QCE,h]
 rfl
theorem Qru (c:Cmd) {P vs:List UInt8} (v:Value) (k:Nat) (h:k+vs.length≤P.length):Qaq (PC c P v) (20+k) (vs.map W8)=PC c (putB P k vs) v:=by
 have hc:=Qao c
 rw[PC,PC,←Qcn,Qaq,Qaq,List.take_append,hc,QCP (by omega),QEw,QDk (by rw[QCE];omega),List.drop_append,hc,QEj (by omega),QCG,QCE,show 20+k+vs.length-20=k+vs.length by omega,QDH (by rw[QCE];omega)]
 simp only[QCR]
section
variable {ops:Array Oper} {rest:List Oper} {o:Oper} {a:Act} {w:World} {Q:Exit→Act→World→Prop}
theorem QcJ (hgd:o.guard=none) (hd:o.dst=none) (x y:Operand) (ho:o.op= .store 68 x y) {g:Nat} {t:TypeId} {l:List Value} {c:Cmd} {P:List UInt8} {v:Value} (hg:Blk w g t l) (hx:a.eval x= .pointer (some ⟨g,0,none⟩)) (hy:a.eval y= .agg (PC c P v).toArray) (hP:P.length=768) (hv:v.oneCell'=true) (hl:l.length=789)
 (h:∀w',Blk w' g t (PC c P v)→Only g w w'→wpList Tryz.prog ops Q rest a w'):wpList Tryz.prog ops Q (o :: rest) a w:=
 QaO hgd hd _ x y ho g t l _ hg hx hy 789 Qf2 (QbI c hP v) hl (Qzx c P hv) h
theorem QrC (hw:Region.wanted o (yielded ops a.tmps)=true) (x:Operand) (ho:o.op= .load 68 x) {g:Nat} {t:TypeId} {c:Cmd} {P:List UInt8} {v:Value} (hb:Blk w g t (PC c P v)) (hP:P.length=768) (hx:a.eval x= .pointer (some ⟨g,0,none⟩))
 (h:wpList Tryz.prog ops Q rest (a.put o.dst (.agg (PC c P v).toArray)) w):wpList Tryz.prog ops Q (o :: rest) a w:=
 QaB hw _ x ho g 0 _ (fun j v hv=>by rw[QC6];exact hb.cellD j hv) hx _ Tryz.underlying68 rfl (by rw[QbI c hP];exact Qf2) h
theorem Qtm (hw:Region.wanted o (yielded ops a.tmps)=true) (x:Operand) (ho:o.op= .load 66 x) {g:Nat} {t:TypeId} {c:Cmd} {P:List UInt8} {v:Value} (hb:Blk w g t (PC c P v)) (hx:a.eval x= .pointer (some ⟨g,0,none⟩))
 (h:wpList Tryz.prog ops Q rest (a.put o.dst (.agg (CC c).toArray)) w):wpList Tryz.prog ops Q (o :: rest) a w:=
 QaB hw _ x ho g 0 _ (fun j v hv=>hb.cellD _ (QzN _ _ _ j v hv)) hx _ Tryz.underlying66 rfl (by rw[Qao];exact QwM) h
end
set_option maxRecDepth 100000 in
theorem QtM (c:Cmd) (w:World):Calls Tryz.prog 31 #[.agg (CC c).toArray] w fun e w'=>e= .returned (.bool (!(c.kd==1)))∧Later w w':=by
 have hb:Blk (w.alloc (.cells (CC c).toArray 66)) w.heap.size 66 (CC c):=Blk.new _ _ _
 have c0:=(QeR hb).1
 have n1:(c.kd != 1)= !(c.kd==1):=rfl
 go_enter Tryz.func31,Tryz.ntmps31
 go_wp2
 go_ret
 exact⟨rfl,Qaa _ _⟩
theorem Qi1 (s p:List UInt8) (hp:p.length=768) (hs:s.length=192):(relP s p).length=768:=by
 have h1:(p.take 288).length=288:=by rw[QC1];omega
 have hf:fitW (kPay s) (p.drop 288):=⟨Qan (by omega),by rw[QC3];omega,by rw[QC3];omega⟩
 unfold relP
 split
 ·rw[QCK,Qhn _ _ h1,Qdh,Qeq okO hf,QcF _ _ _ hf.2.1,QC3,hp]
 ·exact QCM
theorem Qjb (s p:List UInt8) (hp:p.length=768) (hs:s.length=192):(Qdh s p).length=480:=by
 have hf:fitW (kPay s) (p.drop 288):=⟨Qan (by omega),by rw[QC3];omega,by rw[QC3];omega⟩
 rw[Qdh,Qeq okO hf,QcF _ _ _ hf.2.1,QC3,hp]
theorem QvD (p:List UInt8) (k n:Nat) (h:p.length=k+n):subB p k n=p.drop k:=by rw[subB,QCP (by rw[QC3];omega)]
theorem QwS (hd bd:List UInt8) (h1:hd.length=288) (h2:bd.length=480):putB (putB z768 0 hd) 288 (bd.take 480)=hd++bd:=by
 rw[QCP (by omega),z768,show QCA 768 (0:UInt8)=QCA 288 0++QCA 480 0 by rw[QDJ],QcS _ _ _ (by rw[QCM,h1]),Qdb _ _ _ 288 h1 (by rw[QCM,h2])]
theorem Quj {w:World} {base g n c:Nat} {bs:List UInt8} {rest:List Value} (h:Blk w g 5 (bs.map W8++rest)) (hb:base≤g) (hn:bs.length=n) (hc:c=(bs.map W8++rest).length) (hm:(bs.map W8++rest).length≤maxLen):OwnB w base (some ⟨g,0,none⟩) n c bs:=by
 subst hc
 have:=Qv8 h hb hm
 rw[QCE,hn]at this
 exact this
theorem Qx6 {w:World} {base n c:Nat} {A:Option Addr} {bs:List UInt8} {l:List Value} (h:OwnB w base A n c bs) (hc:c=l.length):l.length≤maxLen:=by
 subst hc
 rcases h.2 with ⟨hv,_⟩|⟨g,cap,cur,hv,_,_,_,hm,_⟩
 ·injection hv with _ _ h3
  omega
 ·injection hv with _ _ h3
  omega
set_option maxRecDepth 100000 in
set_option maxHeartbeats 8000000 in
theorem Qts (s p:List UInt8) (hp:p.length=768) (hs:s.length=192) (w:World):
 Calls Tryz.prog 66 #[.agg (s.map W8).toArray,.agg (p.map W8).toArray] w fun e w'=>∃A' c',e= .returned (.tuple #[.agg (PC (relC s p) (relP s p) (.slice A' (relB s p).length c')).toArray,.int .i64 (relE s p:Nat)])∧OwnB w' w.heap.size A' (relB s p).length c' (relB s p)∧Later w w':=by
 have HZ:=hid zcPe
 have HH:=hid zcH
 have C1:=Qbr w 53 (s.map W8)
 have C2:=C1.add (Qaa _ (.cells (p.map W8).toArray 37)) (k:=w.heap.size+1) (by simp) (by omega) (Blk.new' _ _ _ (by simp))
 have C3:=C2.add (Qaa _ (.cells Tryz.zeroCells68 68)) (k:=w.heap.size+2) (by simp) (by omega) ((Blk.new' _ _ Tryz.zeroCells68.toList (by simp)).cast HZ.out)
 clear C1 C2
 have hdl:(p.take 288).length=288:=by rw[QC1];omega
 have k2:(kPay s).length=32:=Qan (by omega)
 have bl:(p.drop 288).length=480:=by rw[QC3];omega
 have hO:=hid (QqW (p.take 288) s hdl hs)
 have hf:fitW (kPay s) (p.drop 288):=⟨k2,by omega,by omega⟩
 have hWi:=hid (fun A B c d (w:World) h1 hc h2 hd=>QqH A B 32 c 480 d (kPay s) (p.drop 288) w h1 hc h2 hd (by omega) (by omega))
 rw[Qfd okO hf]at hWi
 have hBl:=Qjb s p hp hs
 have hst:=hid (QvD p 288 480 hp)
 have hE:Hid (relE s p=QfI (p.take 288) s):=hid rfl
 have hC:Hid (relC s p=Qji (p.take 288) s):=hid rfl
 have hP:Hid (relP s p=if relE s p=0∧(relC s p).kd=1 then Qjd (p.take 288) s++Qdh s p else z768):=hid rfl
 have hB:Hid (relB s p=if relE s p=0∧(relC s p).kd≠1 then Qdh s p else []):=hid rfl
 have hON:=Qhn (p.take 288) s hdl
 have hput:=hid (QwS (Qjd (p.take 288) s) (Qdh s p) hON hBl)
 rw[show Qc1 (kPay s) (p.drop 288) rsO=Qdh s p from rfl,hBl]at hWi
 have hcz:Hid (QfI (p.take 288) s≠0→Qji (p.take 288) s=cmd0):=hid (fun h=>by rw[Qji,if_neg h])
 rw[←hE.out]at hcz hO
 have hsh:Hid (subB p 0 288=p.take 288):=hid rfl
 generalize relP s p=RP at *
 generalize relB s p=RB at *
 generalize Qdh s p=BD at *
 generalize Qjd (p.take 288) s=ON at *
 generalize relE s p=RE at *
 generalize hRC:relC s p=RC at *
 have HC:=hC.out
 rw[←HC]at hO hcz
 clear HC hC hE hRC
 generalize p.take 288=PH at *
 generalize p.drop 288=PD at *
 have hb0:=Qlm
 have hb1:=Qo9 RC
 have hb2:=QsB RC
 have hzl:(PC cmd0 z768 nil8).length=789:=QbI _ QaN _
 have lh:((QCA 288 (0:UInt8)).map W8).length=288:=by rw[QCE,QCM]
 generalize QCA 288 (0:UInt8)=ZH at *
 go_enter Tryz.func66,Tryz.ntmps66
 go_wp2_with (first
  | (refine Qoo 0 288 rfl _ rfl (C3.nth 1 rfl) rfl Tryz.underlying34 rfl QcK hsh.out hdl ?_)
  | (refine Qfh rfl _ rfl (C3.nth 2 rfl) hs rfl ?_)
  | fail)
 (with_reducible refine (hO.out _).mono ?_);rintro e w5 ⟨rfl,l5⟩
 replace C3:=C3.later l5
 clear l5 hO
 have Ca:=C3.fresh (Qaa _ (.cells cz0.toArray 64)) (QCL _) (Blk.new w5 64 cz0)
 have Cb:=Ca.add (Qaa _ (.cells Tryz.zeroCells34 34)) (k:=w5.heap.size+1) (fun q hq e=>by
  have:=(Ca.blk q hq).lt
  simp at this
  omega) (by have:=C3.lat.size;omega) ((Blk.new' _ 34 Tryz.zeroCells34.toList (by simp)).cast HH.out)
 clear Ca C3
 by_cases hr:RE=0
 ·subst hr
  replace hP:Hid (RP=if RC.kd=1 then ON++BD else z768):=hid (by rw[hP.out];simp)
  replace hB:Hid (RB=if RC.kd≠1 then BD else []):=hid (by rw[hB.out];simp)
  clear hcz
  go_wp2_with (first
   | (refine Qb9 rfl rfl _ _ rfl (Cb.nth 1 rfl) rfl rfl rfl ?_;intro w6 hb6 ho6
      have Cc:=Cb.write 1 rfl ho6 hb6)
   | (refine QdC rfl rfl _ _ rfl (Cc.nth 0 rfl) rfl rfl hON lh ?_;intro w7 hb7 ho7
      have Cd:=Cc.write 0 rfl ho7 hb7)
   | fail)
  have Ce:=Cd.drew
  clear Cb Cc Cd hb6 ho6 hb7 ho7
  refine Qaf [([0,1,2,3,4],5)] [6,7,8,9,10] [] (by as_aux_lemma=>kernel_rfl) (by as_aux_lemma=>kernel_rfl) (by intro _ _ d _ _ h;cases d<;>exact h) ?_
  simp only[Qah,pick,QCB,QCC,QCD,QCF,QCG]
  repeat (go_big_quiet_step (fail))
  refine wpQuiet_nil ?_
  go_wp2_with fail
  (refine (hWi.out _ _ _ _ _ (QbU (Ce.nth 4 rfl) rfl k2) (by omega) (QbU (Ce.nth 3 rfl) hst.out bl) (QCL _)).mono ?_);rintro e w8 ⟨l8,A8,c8,rfl,o8⟩
  go_wp2_with fail
  try refine⟨by first|assumption|exact Qab _|exact Qaa _ _|exact Later.refl _,?_⟩
  try simp only[Qah,pick,QCB,QCC,QCD,QCF,QCG]
  repeat (go_big_quiet_step (fail))
  refine wpQuiet_nil ?_
  obtain⟨g8,r8,rfl,hg8,hb8,hc8,hcc8⟩:=QhT o8 (by omega)
  have hm8:(BD.map W8++r8).length≤maxLen:=Qx6 o8 hc8
  have Cf:=Ce.fresh l8 hg8 hb8
  replace hc8:=hid hc8
  clear o8 Ce hWi hb8 hg8
  go_wp2_with (first
   | (refine QcG rfl _ rfl (Cf.nth 2 rfl) rfl ?_)
   | (refine Qam rfl 66 _ rfl (CC RC) (by simp only[QCW,QC7,QC2];exact hb1) ?_)
   | (refine Qam rfl 68 _ rfl (PC RC z768 nil8) (by simp only[QCW,QC7,QC2];exact hb2) ?_)
   | (refine QcJ rfl rfl _ _ rfl ((Blk.new w8 _ Tryz.zeroCells68.toList).cast HZ.out) rfl rfl QaN rfl hzl ?_;intro w9 hb9 ho9
      have Cg:=Cf.push (Qaa _ _) (QCL _) ho9 hb9)
   | (refine Qtm rfl _ rfl (Cg.nth 0 rfl) rfl ?_)
   | fail)
  (with_reducible refine (QtM RC _).mono ?_);rintro e w10 ⟨rfl,l10⟩
  have Ch:=Cg.later l10
  clear hb9 ho9 Cg Cf
  cases hk:(RC.kd==1)
  ·have hkn:RC.kd≠1:=by simpa using hk
   have HP:RP=z768:=by rw[hP.out,if_neg hkn]
   have HB:RB=BD:=by rw[hB.out,if_pos hkn]
   replace HP:=hid HP
   replace HB:=hid HB
   go_wp2_with (first
    | (refine Qac rfl rfl _ _ _ rfl w8.heap.size 788 _ _ (Ch.nth 0 rfl) rfl (by rw[QbI _ QaN];omega) rfl (by kernel_rfl) ?_;intro v11 w11 hv11 hb11 ho11;simp[go_sem]at hv11;subst hv11;rw[QwY _ QaN]at hb11
       have Ci:=Ch.write 0 rfl ho11 hb11)
    | (refine QrC rfl _ rfl (Ci.nth 0 rfl) QaN rfl ?_)
    | (refine QcJ rfl rfl _ _ rfl (Ci.nth 4 rfl) rfl rfl QaN rfl hzl ?_;intro w12 hb12 ho12
       have Cj:=Ci.write 4 rfl ho12 hb12)
    | fail)
   refine bodyPost_ret (Qag rfl _ _ _ _ _ _ hb12 rfl Tryz.underlying68 rfl (by rw[QbI _ QaN];exact Qf2)) rfl ⟨some ⟨g8,0,none⟩,c8,by rw[HP.out,HB.out,hBl];rfl,?_,Cj.lat⟩
   rw[HB.out,hBl]
   exact Quj (Cj.nth 1 rfl) (Cj.at_low 1 rfl) hBl hc8.out hm8
  ·have hky:RC.kd=1:=by simpa using hk
   have HP:RP=ON++BD:=by rw[hP.out,if_pos hky]
   have HB:RB=[]:=by rw[hB.out,if_neg (by simp[hky])]
   have hPl:(ON++BD).length=768:=by rw[QCK];omega
   have l1:(putB z768 0 ON).length=768:=by rw[Qbc (by rw[QaN];omega)];exact QaN
   replace HP:=hid HP
   replace HB:=hid HB
   have r8:=hid (fun w (h:Blk w g8 5 (BD.map W8++r8))=>(show Rd w (some ⟨g8,0,none⟩) 480 (BD.map W8) from QfC h hBl))
   generalize ON++BD=PK at *
   have hs1:=hid (Qru RC (P:=z768) (vs:=ON) nil8 0 (by rw[QaN];omega))
   have hs2:=hid (Qru RC (P:=putB z768 0 ON) (vs:=BD.take 480) nil8 288 (by rw[l1,QC1];omega))
   rw[hput.out]at hs2
   generalize putB z768 0 ON=P1 at *
   go_wp2_with (first
    | (refine Qj3 rfl _ rfl (Ch.nth 2 rfl) hON rfl ?_)
    | (refine Qai rfl rfl 34 _ _ rfl w8.heap.size 20 _ _ (ON.map W8) (Ch.nth 0 rfl) rfl rfl (by rw[QCE,hON];exact QcK) (by rw[QbI _ QaN,QCE];omega) (QaC _) ?_;intro w11 hb11 ho11;rw[hs1.out]at hb11
       have Ci:=Ch.write 0 rfl ho11 hb11)
    | (refine Qar rfl _ _ _ _ rfl 5 Tryz.underlying22 Qbu w8.heap.size 308 480 480 _ _ (Ci.nth 0 rfl) (some ⟨g8,0,none⟩) 480 c8 (BD.map W8) (r8.out _ (Ci.nth 1 rfl)) (QaC _) rfl rfl (by rw[QbI _ l1];omega) ?_;intro w13 hb13 ho13;rw[←QD1,hs2.out]at hb13
       have Ck:=Ci.write 0 rfl ho13 hb13)
    | (refine QrC rfl _ rfl (Ck.nth 0 rfl) hPl rfl ?_)
    | (refine QcJ rfl rfl _ _ rfl (Ck.nth 4 rfl) rfl rfl hPl rfl hzl ?_;intro w12 hb12 ho12
       have Cj:=Ck.write 4 rfl ho12 hb12)
    | fail)
   refine bodyPost_ret (Qag rfl _ _ _ _ _ _ hb12 rfl Tryz.underlying68 rfl (by rw[QbI _ hPl];exact Qf2)) rfl ⟨none,0,by rw[HP.out,HB.out];rfl,?_,Cj.lat⟩
   rw[HB.out]
   exact Qdj _ _ _
 ·have hne:((RE:Int) != 0)=true:=by simp;omega
  have HC:=hcz.out hr
  subst HC
  have HP:RP=z768:=by rw[hP.out,if_neg (fun h=>hr h.1)]
  have HB:RB=[]:=by rw[hB.out,if_neg (fun h=>hr h.1)]
  replace HP:=hid HP
  replace HB:=hid HB
  clear hP hB
  go_wp2_with (first
   | (refine Qb9 rfl rfl _ _ rfl (Cb.nth 1 rfl) rfl rfl rfl ?_;intro w6 hb6 ho6
      have Cc:=Cb.write 1 rfl ho6 hb6)
   | (refine QdC rfl rfl _ _ rfl (Cc.nth 0 rfl) rfl rfl hON lh ?_;intro w7 hb7 ho7
      have Cd:=Cc.write 0 rfl ho7 hb7)
   | (refine Qam rfl 68 _ rfl (PC cmd0 z768 nil8) (by simp only[QCW,QC2];exact hb0) ?_)
   | (refine QcJ rfl rfl _ _ rfl (Cd.nth 2 rfl) rfl rfl QaN rfl hzl ?_;intro w12 hb12 ho12
      have Cj:=Cd.write 2 rfl ho12 hb12)
   | fail)
  refine bodyPost_ret (Qag rfl _ _ _ _ _ _ hb12 rfl Tryz.underlying68 rfl (by rw[QbI _ QaN];exact Qf2)) rfl ⟨none,0,by rw[HP.out,HB.out];rfl,?_,Cj.lat⟩
  rw[HB.out]
  exact Qdj _ _ _
set_option maxRecDepth 100000 in
set_option maxHeartbeats 4000000 in
theorem QgV (A:Option Addr) (n c:Nat) (k p:List UInt8) (w:World) (hk:RdB w A n k) (hn:n≤140737488355328) (hp:p.length=768):
 Calls Tryz.prog 22 #[.slice A n c,.agg (p.map W8).toArray] w fun e w'=>∃A' c',e= .returned (.tuple #[.agg (PC (unwC k p) (unwP k p) (.slice A' (unwB k p).length c')).toArray,.int .i64 (unwE k p:Nat)])∧OwnB w' w.heap.size A' (unwB k p).length c' (unwB k p)∧Later w w':=by
 have HZ:=hid zcPe
 have C1:=Qbr w 37 (p.map W8)
 have C2:=C1.add (Qaa _ (.cells Tryz.zeroCells68 68)) (k:=w.heap.size+1) (by simp) (by omega) ((Blk.new' _ _ Tryz.zeroCells68.toList (by simp)).cast HZ.out)
 clear C1
 have hal:(p.take 32).length=32:=by rw[QC1];omega
 have hPe:=hid (fun (w:World) B d hk' hu=>Qvn A B n c 32 d k (p.take 32) w hk' hu hn (by omega))
 have hsl:=Qc5 k (p.take 32)
 have hO:=hid (Qts (QbB k (p.take 32)) p hp hsl)
 have hE:Hid (unwE k p=if QaX k (p.take 32)=0 then relE (QbB k (p.take 32)) p else QaX k (p.take 32)):=hid rfl
 have hC:Hid (unwC k p=if QaX k (p.take 32)=0 then relC (QbB k (p.take 32)) p else cmd0):=hid rfl
 have hP:Hid (unwP k p=if QaX k (p.take 32)=0 then relP (QbB k (p.take 32)) p else z768):=hid rfl
 have hB:Hid (unwB k p=if QaX k (p.take 32)=0 then relB (QbB k (p.take 32)) p else []):=hid rfl
 have hRPl:=Qi1 (QbB k (p.take 32)) p hp hsl
 have hsh:Hid (subB p 0 32=p.take 32):=hid rfl
 generalize unwE k p=UE at *
 generalize unwC k p=UC at *
 generalize unwP k p=UP at *
 generalize unwB k p=UB at *
 generalize QaX k (p.take 32)=ME at *
 generalize relP (QbB k (p.take 32)) p=RP at *
 generalize relC (QbB k (p.take 32)) p=RC at *
 generalize relB (QbB k (p.take 32)) p=RB at *
 generalize relE (QbB k (p.take 32)) p=RE at *
 generalize QbB k (p.take 32)=S at *
 generalize p.take 32=al at *
 have hb0:=Qlm
 have hzl:(PC cmd0 z768 nil8).length=789:=QbI _ QaN _
 have hz1:=QwT
 go_enter Tryz.func22,Tryz.ntmps22
 go_wp2_with fail
 (refine (hPe.out _ _ _ (hk.later C2.lat) (QbU (C2.nth 1 rfl) hsh.out hal)).mono ?_);rintro e w3 ⟨rfl,l3⟩
 replace C2:=C2.later l3
 clear hPe l3
 by_cases h0:ME=0
 ·subst h0
  replace hE:=hid (hE.out.trans (if_pos rfl))
  replace hC:=hid (hC.out.trans (if_pos rfl))
  replace hP:=hid (hP.out.trans (if_pos rfl))
  replace hB:=hid (hB.out.trans (if_pos rfl))
  go_wp2_with (first
   | (refine QeK rfl rfl _ _ rfl (Blk.new w3 _ Tryz.zeroCells53.toList) rfl rfl hsl hz1 ?_;intro w4 hb4 ho4
      have C3:=C2.push (Qaa _ _) (QCL _) ho4 hb4)
   | (refine Qfh rfl _ rfl (C3.nth 0 rfl) hsl rfl ?_)
   | (refine Qf4 rfl _ rfl (C3.nth 2 rfl) hp rfl ?_)
   | fail)
  (with_reducible refine (hO.out _).mono ?_);rintro e w5 ⟨A5,c5,rfl,o5,l5⟩
  have hone:(Value.slice A5 RB.length c5).oneCell'=true:=rfl
  have C4:=C3.later l5
  have hlow:∀b,(Value.slice A5 RB.length c5).ownBlock=some b→b≠w.heap.size+1:=fun b hb e=>by
   have h1:=(World.ownsRow.lt o5 b hb).1
   have h2:=(C3.nth 1 rfl).lt
   omega
  go_wp2_with (first
   | (refine QcJ rfl rfl _ _ rfl (C4.nth 1 rfl) rfl rfl hRPl hone hzl ?_;intro w6 hb6 ho6
      have C5:=C4.write 1 rfl ho6 hb6
      have o6:=QhU o5 ho6 hlow)
   | fail)
  refine bodyPost_ret (Qag rfl _ _ _ _ _ _ hb6 rfl Tryz.underlying68 rfl (by rw[QbI _ hRPl];exact Qf2)) rfl ⟨A5,c5,by rw[hE.out,hC.out,hP.out,hB.out];rfl,?_,C5.lat⟩
  rw[hB.out]
  exact QdZ o6 C3.lat.size
 ·have hne:((ME:Int) != 0)=true:=by simp;omega
  replace hE:=hid (hE.out.trans (if_neg h0))
  replace hC:=hid (hC.out.trans (if_neg h0))
  replace hP:=hid (hP.out.trans (if_neg h0))
  replace hB:=hid (hB.out.trans (if_neg h0))
  go_wp2_with (first
   | (refine QeK rfl rfl _ _ rfl (Blk.new w3 _ Tryz.zeroCells53.toList) rfl rfl hsl hz1 ?_;intro w4 hb4 ho4
      have C3:=C2.push (Qaa _ _) (QCL _) ho4 hb4)
   | (refine Qam rfl 68 _ rfl (PC cmd0 z768 nil8) (by simp only[QCW,QC2];exact hb0) ?_)
   | (refine QcJ rfl rfl _ _ rfl (C3.nth 1 rfl) rfl rfl QaN rfl hzl ?_;intro w6 hb6 ho6
      have C5:=C3.write 1 rfl ho6 hb6)
   | fail)
  refine bodyPost_ret (Qag rfl _ _ _ _ _ _ hb6 rfl Tryz.underlying68 rfl (by rw[QbI _ QaN];exact Qf2)) rfl ⟨none,0,by rw[hE.out,hC.out,hP.out,hB.out];rfl,?_,C5.lat⟩
  rw[hB.out]
  exact Qdj _ _ _
end Go.Proofs.YtdhgpkdjdmlphaaGreat
