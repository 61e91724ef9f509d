/-
  Lemmas for the last text of this claim (part 14 of 20).
-/
import Derived.ArgAppend
import Derived.BigQuiet
import Derived.BigRegion
import Derived.ChangeOld
import Derived.Deep.RegionWith
import Derived.DeepKeys4
import Derived.JoinedCond
import Derived.LaidMore
import Derived.Laws.CopyOwn
import Derived.Laws.Externs
import Derived.Laws.IdiomStrings
import Derived.Laws.Tables
import Derived.Lib.AppendStr
import Derived.Lib.AppendZerosOnto
import Derived.Lib.Mul64
import Derived.Lib.SlBytesConst
import Derived.LoopN
import Derived.Maps.OwnSet
import Derived.OpenShut
import Derived.OrdersHeld
import Derived.ProofKit
import Derived.Shelf.Spec.BitsCarry
import Derived.ShutString
import Derived.Test.YtdkpcdgckgaklaaGreatProg
import Derived.Test.YtdkpcdgckgaklaaGreatRows
import Derived.WalkKit
import Derived.WalkLawsBesides
import Derived.WalkSpells
import Derived.Test.YtdkpcdgckgaklaaGreatPD
import Derived.Test.YtdkpcdgckgaklaaGreatPH
import Derived.Test.YtdkpcdgckgaklaaGreatPI
import Derived.Test.YtdkpcdgckgaklaaGreatPJ
import Derived.Test.YtdkpcdgckgaklaaGreatPK
import Derived.Test.YtdkpcdgckgaklaaGreatPL
import Derived.Test.YtdkpcdgckgaklaaGreatPM
open Bool renaming and_eq_true → QCG, eq_iff_iff → QDb
open List renaming replicate → QCn, getElem?_cons_succ → QCo, getElem?_cons_zero → QCp, cons_append → QCr, nil_append → QCs, length_map → QCt, getD_eq_getElem?_getD → QCu, getElem?_eq_getElem → QCv, setIfInBounds_toArray → QCw, set_cons_zero → QCy, set_cons_succ → QCz, map_toArray → QCA, length_append → QCB, map_nil → QCC, getElem?_append_left → QCD, take_of_length_le → QCE, getElem?_append_right → QCF, getElem?_map → QCH, length_replicate → QCJ, getElem?_eq_some_iff → QCK, append_assoc → QCL, length_take → QCP, mem_cons → QCQ, map_cons → QCR, length_drop → QCS, not_mem_nil → QCT, set_append_right → QCX, length_set → QCZ, append_nil → QC1, take_append_drop → QC3, map_replicate → QC8, mem_append → QDc, drop_left' → QDg, take_append_of_le_length → QDk, drop_append_of_le_length → QDu, replicate_append_replicate → QDz, map_take → QDB, mem_singleton → QDH, drop_drop → QD8, take_left' → QD9, drop_append → QEh, take_zero → QEm, map_drop → QEF
open Nat renaming le_refl → QCx, zero_add → QCI, lt_of_lt_of_le → QCM, add_zero → QDP
open Option renaming toList_some → QCq
open UInt64 renaming ofNat → QCN
set_option linter.all false
namespace Go.Proofs.YtdkpcdgckgaklaaGreat
open Go.RowKit
open Go.BigFrame
abbrev sMac:ByteArray:=⟨#[109,97,99]⟩
abbrev Qek:ByteArray:=⟨#[115,116,114,101,97,109]⟩
abbrev sPay:ByteArray:=⟨#[112,97,121]⟩
abbrev QfU:ByteArray:=⟨#[98,108,105,110,100]⟩
def k4 (s:List UInt8):List UInt8:=derB s sMac++(derB s Qek++(derB s sPay++derB s QfU))
theorem QgP (s:List UInt8):(k4 s).length=128:=by simp[k4,QaU]
theorem Qyr (s:List UInt8):Qdv s [sMac,Qek,sPay,QfU] 4=k4 s:=by
 rw[Qdv,k4]
 simp
def ofB (s:List UInt8):List UInt8:=if s.length=32 then k4 s else QCn 128 0
def ofE (s:List UInt8):Nat:=if s.length=32 then 0 else 2
theorem Qf2:(Tryz.prog.info? 132).map (·.size)=some 128:=by kernel_rfl
theorem Qrm:(Tryz.prog.info? 132).bind (·.zero)=some (.agg (QCn 128 (W8 0)).toArray):=by kernel_rfl
theorem Qph (p q r s:List UInt8) (hp:p.length=32) (hq:q.length=32) (hr:r.length=32) (hs:s.length=32):
 Program.built Tryz.prog 132 [(0,.agg (p.map W8).toArray),(1,.agg (q.map W8).toArray),(2,.agg (r.map W8).toArray),(3,.agg (s.map W8).toArray)]=some ((p++(q++(r++s))).map W8).toArray:=by
 have h:=QeM (n:=128) (pl:=[(0,32),(32,32),(64,32),(96,32)]) Tryz.underlying132 Qrm (by kernel_rfl) [(0,0,p),(1,32,q),(2,64,r),(3,96,s)] (by
  intro x hx
  simp only[QCQ,QCT,or_false]at hx
  rcases hx with rfl|rfl|rfl|rfl<;>simp[hp,hq,hr,hs])
 rw[show QeS (QCn 128 0) ([(0,0,p),(1,32,q),(2,64,r),(3,96,s)].map fun x=>(x.2.1,x.2.2))=p++(q++(r++s)) by
  simp only[QCR,QCC,QeS]
  rw[show QCn 128 (0:UInt8)=QCn 32 0++(QCn 32 0++(QCn 32 0++QCn 32 0)) by simp]
  rw[Qc9 _ _ _ (by simp[hp]),Qcw _ _ _ _ 32 hp (by simp[hq])]
  rw[←QCL p q,Qcw _ _ _ _ 64 (by simp[hp,hq]) (by simp[hr]),←QCL _ r,QdQ _ _ _ 96 (by simp[hp,hq,hr]) (by simp[hs])]
  simp]at h
 exact h
theorem QiG:Program.built Tryz.prog 132 []=some ((QCn 128 (0:UInt8)).map W8).toArray:=by
 rw[QC8]
 kernel_rfl
theorem QmZ (p q:List UInt8) (hp:p.length=32) (hq:q.length=32):
 Program.built Tryz.prog 132 [(0,.agg (p.map W8).toArray),(1,.agg (q.map W8).toArray)]=some ((p++(q++(QCn 32 0++QCn 32 0))).map W8).toArray:=by
 have h:=QeM (n:=128) (pl:=[(0,32),(32,32),(64,32),(96,32)]) Tryz.underlying132 Qrm (by kernel_rfl) [(0,0,p),(1,32,q)] (by
  intro x hx
  simp only[QCQ,QCT,or_false]at hx
  rcases hx with rfl|rfl<;>simp[hp,hq])
 rw[show QeS (QCn 128 0) ([(0,0,p),(1,32,q)].map fun x=>(x.2.1,x.2.2))=p++(q++(QCn 32 0++QCn 32 0)) by
  simp only[QCR,QCC,QeS]
  rw[show QCn 128 (0:UInt8)=QCn 32 0++(QCn 32 0++(QCn 32 0++QCn 32 0)) by simp]
  rw[Qc9 _ _ _ (by simp[hp]),Qcw _ _ _ _ 32 hp (by simp[hq])]]at h
 exact h
section
variable {ops:Array Oper} {rest:List Oper} {o:Oper} {a:Act} {w:World} {Q:Exit→Act→World→Prop}
theorem Qhi (hgd:o.guard=none) (hd:o.dst=none) (x y:Operand) (ho:o.op= .store 132 x y) {g:Nat} {t:TypeId} {l:List Value} {bs:List UInt8} (hg:Blk w g t l) (hx:a.eval x= .pointer (some ⟨g,0,none⟩)) (hy:a.eval y= .agg (bs.map W8).toArray) (hbl:bs.length=128) (hl:l.length=128)
 (h:∀w',Blk w' g t (bs.map W8)→Only g w w'→wpList Tryz.prog ops Q rest a w'):wpList Tryz.prog ops Q (o :: rest) a w:=
 Qdp 128 hgd hd x y ho hg hx hy Qf2 hbl hl h
theorem Qwk (hw:Region.wanted o (yielded ops a.tmps)=true) (x:Operand) (ho:o.op= .load 132 x) {g:Nat} {t:TypeId} {bs:List UInt8} (hb:Blk w g t (bs.map W8)) (hl:bs.length=128) (hx:a.eval x= .pointer (some ⟨g,0,none⟩))
 (h:wpList Tryz.prog ops Q rest (a.put o.dst (.agg (bs.map W8).toArray)) w):wpList Tryz.prog ops Q (o :: rest) a w:=
 Qbg hw _ x ho g t _ hb hx _ Tryz.underlying132 rfl 128 Qf2 (by rw[QCt,hl]) h
end
set_option maxRecDepth 100000 in
set_option maxHeartbeats 4000000 in
theorem Qyb (A:Option Addr) (n c:Nat) (s:List UInt8) (w:World) (hx:RdB w A n s) (hc:n≤c) (hn:n≤35184372088832):
 Calls Tryz.prog 76 #[.slice A n c] w fun e w'=>e= .returned (.tuple #[.agg ((ofB s).map W8).toArray,.int .i64 (ofE s:Nat)])∧Later w w':=by
 have hl:=hx.len
 have B0:=Qa8 w 132 Tryz.zeroCells132.toList
 have hz0:Tryz.zeroCells132.toList.length=128:=by kernel_rfl
 by_cases h32:n=32
 ·subst h32
  have e1:ofE s=0:=by rw[ofE,if_pos hl]
  have e2:ofB s=k4 s:=by rw[ofB,if_pos hl]
  rw[e1,e2]
  clear e1 e2
  have hD:=hid (fun (w:World) B d h1 h2=>Qjk A B 32 c 4 d s [sMac,Qek,sPay,QfU] w h1 hc hn h2 (by omega) (by omega) (by intro x hx;simp only[QCQ,QCT,or_false]at hx;rcases hx with rfl|rfl|rfl|rfl<;>decide))
  rw[Qyr]at hD
  rw[k4]at *
  have hp:=QaU s sMac
  have hq:=QaU s Qek
  have hr:=QaU s sPay
  have ht:=QaU s QfU
  generalize derB s sMac=p at *
  generalize derB s Qek=q at *
  generalize derB s sPay=r at *
  generalize derB s QfU=t at *
  have hbk:=Qph p q r t hp hq hr ht
  obtain⟨K,hK⟩:∃K,K=p++(q++(r++t)):=⟨_,rfl⟩
  rw[←hK]at hD hbk ⊢
  have s0:subB K 0 32=p:=by rw[hK,Qqs _ _ _ hp]
  have s1:subB K 32 32=q:=by rw[hK,QgH _ _ _ _ _ hp hq]
  have s2:subB K 64 32=r:=by rw[hK,←QCL,QgH _ _ _ _ _ (by simp[hp,hq]) hr]
  have s3:subB K 96 32=t:=by rw[hK,←QCL,←QCL,Qq5 _ _ _ _ (by simp[hp,hq,hr]) ht]
  have hKl:K.length=128:=by rw[hK];simp[hp,hq,hr,ht]
  clear hK
  go_enter Tryz.func76,Tryz.ntmps76
  go_wp2_with fail
  generalize hW:(w.alloc _).alloc _=w1
  have B1:Bag w w1 [(w.heap.size,132,Tryz.zeroCells132.toList)]:=by rw[←hW];exact B0.later (Qaa _ _)
  have hS:Strs w1 (some ⟨w.heap.size+1,0,none⟩) 4 [sMac,Qek,sPay,QfU]:=by
   rw[←hW]
   exact Blk.rd (Blk.new' (w.alloc (.cells Tryz.zeroCells132 132)) 9 [Value.string sMac,Value.string Qek,Value.string sPay,Value.string QfU] (by simp)) rfl
  clear hW
  (with_reducible refine (hD.out _ _ 4 (hx.later B1.lat) hS).mono ?_);rintro e w2 ⟨g,rfl,hg,hb2,j2⟩
  have B2:=(B1.later j2).add (Qab _) (k:=g) (by have:=(B1.nth 0 rfl).lt;simp;omega) (by have:=B1.lat.size;omega) hb2.drew
  clear hS hb2 hg B0 j2 B1
  go_wp2_with fail
  refine Qad [] [0,1,2,3,4,5,6,7,8,9,10,11,12] [13,14] (by as_aux_lemma=>kernel_rfl) (by as_aux_lemma=>kernel_rfl) (by intro _ _ d _ _ h;cases d<;>exact h) ?_
  simp only[Qai,pick,QCo,QCp,QCq,QCr,QCs]
  repeat (first|go_big_quiet_skip|(go_big_quiet_want;(first|refine Qhh 0 32 _ rfl (B2.nth 0 rfl) rfl Tryz.underlying79 rfl QcZ s0 hp ?_|refine Qhh 32 32 _ rfl (B2.nth 0 rfl) rfl Tryz.underlying79 rfl QcZ s1 hq ?_|refine Qhh 64 32 _ rfl (B2.nth 0 rfl) rfl Tryz.underlying79 rfl QcZ s2 hr ?_|refine Qhh 96 32 _ rfl (B2.nth 0 rfl) rfl Tryz.underlying79 rfl QcZ s3 ht ?_|refine Qb0 _ _ rfl (K.map W8) (by simp only[QCA,QCR,QCC];exact hbk) ?_);simp only[Act.put,QCw,QCz,QCy];go_big_quiet_on)|(go_big_quiet_step (fail)))
  refine wpQuiet_nil ?_
  go_wp2_with (first
   | (refine Qhi rfl rfl _ _ rfl (B2.nth 1 rfl) rfl rfl hKl hz0 ?_;intro w9 hb9 ho9)
   | fail)
  exact bodyPost_ret (Qae rfl _ _ _ _ _ _ hb9 rfl Tryz.underlying132 rfl (by rw[QCt,hKl];exact Qf2)) rfl ⟨rfl,(B2.write 1 rfl ho9 hb9).lat⟩
 ·have e1:ofE s=2:=by rw[ofE,if_neg (by omega)]
  have e2:ofB s=QCn 128 0:=by rw[ofB,if_neg (by omega)]
  rw[e1,e2]
  clear e1 e2
  have hb0:=QiG
  have hzl:(QCn 128 (0:UInt8)).length=128:=by simp
  generalize QCn 128 (0:UInt8)=Z at *
  have hne:((n:Int) != 32)=true:=by simp;omega
  go_enter Tryz.func76,Tryz.ntmps76
  go_wp2_with (first
   | (refine Qaq rfl 132 _ rfl (Z.map W8) ?hb ?_;(case hb=>simp only[QCA,QCC];exact hb0))
   | (refine Qhi rfl rfl _ _ rfl (B0.nth 0 rfl) rfl rfl hzl hz0 ?_;intro w9 hb9 ho9)
   | fail)
  exact bodyPost_ret (Qae rfl _ _ _ _ _ _ hb9 rfl Tryz.underlying132 rfl (by rw[QCt,hzl];exact Qf2)) rfl ⟨rfl,(Qaa _ _).only ho9 (QCx _)⟩
set_option maxRecDepth 100000 in
set_option maxHeartbeats 4000000 in
theorem QtW (A:Option Addr) (n c:Nat) (s:List UInt8) (w:World) (hx:RdB w A n s) (hn:n≤35184372088832):
 Calls Tryz.prog 62 #[.slice A n c] w fun e w'=>e= .returned (.tuple #[.agg ((ofB s).map W8).toArray,.int .i64 (ofE s:Nat)])∧Later w w':=by
 have hl:=hx.len
 have B0:=Qa8 w 132 Tryz.zeroCells132.toList
 have hz0:Tryz.zeroCells132.toList.length=128:=by kernel_rfl
 by_cases h32:n=32
 ·subst h32
  have e1:ofE s=0:=by rw[ofE,if_pos hl]
  have e2:ofB s=k4 s:=by rw[ofB,if_pos hl]
  rw[e1,e2]
  clear e1 e2
  have d1:=hid (fun (w:World) h=>QcX A 32 c s sMac w h (by omega) (by decide))
  have d2:=hid (fun (w:World) h=>QcX A 32 c s Qek w h (by omega) (by decide))
  have d3:=hid (fun (w:World) h=>QcX A 32 c s sPay w h (by omega) (by decide))
  have d4:=hid (fun (w:World) h=>QcX A 32 c s QfU w h (by omega) (by decide))
  rw[k4]at *
  have hp:=QaU s sMac
  have hq:=QaU s Qek
  have hr:=QaU s sPay
  have ht:=QaU s QfU
  generalize derB s sMac=p at *
  generalize derB s Qek=q at *
  generalize derB s sPay=r at *
  generalize derB s QfU=t at *
  have hbk:=QmZ p q hp hq
  have f1:(p++(q++(QCn 32 0++QCn 32 (0:UInt8)))).length=128:=by simp[hp,hq]
  have p1:putB (p++(q++(QCn 32 0++QCn 32 (0:UInt8)))) 64 r=p++(q++(r++QCn 32 (0:UInt8))):=by
   rw[←QCL p q,Qcw _ _ _ _ 64 (by simp[hp,hq]) (by simp[hr]),QCL]
  have f2:(p++(q++(r++QCn 32 (0:UInt8)))).length=128:=by simp[hp,hq,hr]
  have p2:putB (p++(q++(r++QCn 32 (0:UInt8)))) 96 t=p++(q++(r++t)):=by
   rw[←QCL q r,←QCL p,QdQ _ _ _ 96 (by simp[hp,hq,hr]) (by simp[ht])]
   simp
  have f3:(p++(q++(r++t))).length=128:=by simp[hp,hq,hr,ht]
  generalize p++(q++(r++t))=K3 at *
  generalize p++(q++(r++QCn 32 (0:UInt8)))=K2 at *
  generalize p++(q++(QCn 32 0++QCn 32 (0:UInt8)))=K1 at *
  have P1:=hid p1
  have P2:=hid p2
  clear p1 p2
  go_enter Tryz.func62,Tryz.ntmps62
  go_wp2_with fail
  generalize hW:w.alloc _=w1
  replace B0:Bag w w1 [(w.heap.size,132,Tryz.zeroCells132.toList)]:=by rw[←hW];exact B0
  clear hW
  (with_reducible refine (d1.out _ (hx.later B0.lat)).mono ?_);rintro e w2 ⟨rfl,j2⟩
  go_wp2_with fail
  (with_reducible refine (d2.out _ (hx.later (B0.lat.trans j2))).mono ?_);rintro e w3 ⟨rfl,j3⟩
  go_wp2_with (first
   | (refine Qaq rfl 132 _ rfl (K1.map W8) ?hb ?_;(case hb=>simp only[QCA,QCR,QCC];exact hbk))
   | (refine Qhi rfl rfl _ _ rfl (Blk.new w3 _ Tryz.zeroCells132.toList) rfl rfl f1 hz0 ?_;intro w4 hb4 ho4)
   | fail)
  have B1:=B0.push ((j2.trans j3).trans (Qaa w3 _)) (j2.trans j3).size ho4 hb4
  clear j2 j3 hb4 ho4
  (with_reducible refine (d3.out _ (hx.later B1.lat)).mono ?_);rintro e w5 ⟨rfl,j5⟩
  go_wp2_with (first
   | (refine Qg2 64 32 rfl rfl _ _ rfl ((B1.later j5).nth 0 rfl) rfl rfl QcZ hr (by omega) ?_;intro w6 hb6 ho6;rw[P1.out]at hb6
      have B2:=(B1.later j5).write 0 rfl ho6 hb6)
   | fail)
  clear j5 hb6 ho6 B1
  (with_reducible refine (d4.out _ (hx.later B2.lat)).mono ?_);rintro e w7 ⟨rfl,j7⟩
  go_wp2_with (first
   | (refine Qg2 96 32 rfl rfl _ _ rfl ((B2.later j7).nth 0 rfl) rfl rfl QcZ ht (by omega) ?_;intro w8 hb8 ho8;rw[P2.out]at hb8
      have B3:=(B2.later j7).write 0 rfl ho8 hb8)
   | (refine Qwk rfl _ rfl (B3.nth 0 rfl) f3 rfl ?_)
   | (refine Qhi rfl rfl _ _ rfl (B3.nth 1 rfl) rfl rfl f3 hz0 ?_;intro w9 hb9 ho9)
   | fail)
  exact bodyPost_ret (Qae rfl _ _ _ _ _ _ hb9 rfl Tryz.underlying132 rfl (by rw[QCt,f3];exact Qf2)) rfl ⟨rfl,(B3.write 1 rfl ho9 hb9).lat⟩
 ·have e1:ofE s=2:=by rw[ofE,if_neg (by omega)]
  have e2:ofB s=QCn 128 0:=by rw[ofB,if_neg (by omega)]
  rw[e1,e2]
  clear e1 e2
  have hb0:=QiG
  have hzl:(QCn 128 (0:UInt8)).length=128:=by simp
  generalize QCn 128 (0:UInt8)=Z at *
  have hne:((n:Int) != 32)=true:=by simp;omega
  go_enter Tryz.func62,Tryz.ntmps62
  go_wp2_with (first
   | (refine Qaq rfl 132 _ rfl (Z.map W8) ?hb ?_;(case hb=>simp only[QCA,QCC];exact hb0))
   | (refine Qhi rfl rfl _ _ rfl (B0.nth 0 rfl) rfl rfl hzl hz0 ?_;intro w9 hb9 ho9)
   | fail)
  exact bodyPost_ret (Qae rfl _ _ _ _ _ _ hb9 rfl Tryz.underlying132 rfl (by rw[QCt,hzl];exact Qf2)) rfl ⟨rfl,(Qaa _ _).only ho9 (QCx _)⟩
theorem Qj5 (x y:List UInt8) (off n:Nat):(subB x off n==subB y off n&&x.drop (off+n)==y.drop (off+n))=(x.drop off==y.drop off):=by
 rw[QDb]
 simp only[QCG,beq_iff_eq,subB,←QD8]
 constructor
 ·rintro⟨h1,h2⟩
  rw[←QC3 n (x.drop off),h1,h2,QC3]
 ·intro h
  rw[h]
  exact⟨rfl,rfl⟩
theorem QmJ (x y:List UInt8) (off n:Nat) (hx:x.length=off+n) (hy:y.length=off+n):(subB x off n==subB y off n)=(x.drop off==y.drop off):=by
 rw[subB,subB,QCE (by rw[QCS];omega),QCE (by rw[QCS];omega)]
theorem QbL (x:List UInt8) (off n:Nat):(((x.map W8).drop off).take n)=(subB x off n).map W8:=by rw[subB,QDB,QEF]
abbrev Y128:={l:List UInt8 // l.length=128}
theorem Qmh {P:Program} {t:TypeId} {fs:Array Field} (hu:P.underlying t=some (.struct fs)):P.fieldsOf t=fs:=by unfold Program.fieldsOf;rw[hu]
theorem Qx0 (d:Nat) (x y:List UInt8) (hx:x.length=128) (hy:y.length=128) (w:World):
 (Op.eqFields (d+2) (x.map W8).toArray (y.map W8).toArray (Tryz.prog.fieldsOf 132).toList).run Tryz.prog w= .ok (x==y) w:=by
 rw[Qmh Tryz.underlying132]
 have l1:∀off,off+32≤128→(subB x off 32).length=32:=fun off h=>Qav (by omega)
 have l2:∀off,off+32≤128→(subB y off 32).length=32:=fun off h=>Qav (by omega)
 rw[Qcd (k:=0) rfl (by decide) rfl (QbL x 0 32) (QbL y 0 32) (l1 _ (by omega)) (l2 _ (by omega)),Qcd (k:=32) rfl (by decide) rfl (QbL x 32 32) (QbL y 32 32) (l1 _ (by omega)) (l2 _ (by omega)),
  Qcd (k:=64) rfl (by decide) rfl (QbL x 64 32) (QbL y 64 32) (l1 _ (by omega)) (l2 _ (by omega)),Qcd (k:=96) rfl (by decide) rfl (QbL x 96 32) (QbL y 96 32) (l1 _ (by omega)) (l2 _ (by omega)),Qdf]
 have h:(x==y)=(subB x 0 32==subB y 0 32&&(subB x 32 32==subB y 32 32&&(subB x 64 32==subB y 64 32&&subB x 96 32==subB y 96 32))):=by
  rw[QmJ x y 96 32 (by omega) (by omega),Qj5 x y 64 32,Qj5 x y 32 32,Qj5 x y 0 32]
  rfl
 rw[h]
 cases subB x 0 32==subB y 0 32<;>cases subB x 32 32==subB y 32 32<;>cases subB x 64 32==subB y 64 32<;>cases subB x 96 32==subB y 96 32<;>rfl
theorem Quc:Tryz.prog.eqGuardType Tryz.prog.depth 132=false:=by kernel_rfl
theorem Qqb:Tryz.prog.stoodInHeld 132=false:=by kernel_rfl
theorem Qm6:Tryz.prog.underlying 132=some (.struct (Tryz.prog.fieldsOf 132)):=by rw[Qmh Tryz.underlying132];exact Tryz.underlying132
@[go_sem high] theorem Qwo (op:BinOp) (x y:Operand) (xs ys:Array Value) (w:World):(eqGuard op 132 x y (.agg xs) (.agg ys)).run Tryz.prog w= .ok () w:=run_eqGuard_agg w op _ x y xs ys Quc
@[go_sem high] theorem Qwf (x y:Y128) (w:World):(binOp .eql 132 (.agg (x.val.map W8).toArray) (.agg (y.val.map W8).toArray)).run Tryz.prog w= .ok (.bool (x.val==y.val)) w:=by
  rw[QgR Qm6 Qqb,Qx0 9997 _ _ x.2 y.2]
  rfl
theorem Qia:(Tryz.prog.info? 134).map (·.size)=some 192:=by kernel_rfl
theorem Qgr:(Tryz.prog.info? 145).map (·.size)=some 192:=by kernel_rfl
theorem QwA:(Tryz.prog.info? 134).bind (·.zero)=some (.agg (QCn 192 (W8 0)).toArray):=by kernel_rfl
theorem put3 (k a s:List UInt8) (hk:k.length=128) (ha:a.length=32) (hs:s.length=32):QeS (QCn 192 0) [(0,k),(128,a),(160,s)]=k++(a++s):=by
 simp only[QeS]
 rw[show QCn 192 (0:UInt8)=QCn 128 0++(QCn 32 0++QCn 32 0) by simp]
 rw[Qc9 _ _ _ (by simp[hk]),Qcw _ _ _ _ 128 hk (by simp[ha]),←QCL,QdQ _ _ _ 160 (by simp[hk,ha]) (by simp[hs]),QCL]
theorem Qqe (k a s:List UInt8) (hk:k.length=128) (ha:a.length=32) (hs:s.length=32):
 Program.built Tryz.prog 134 [(0,.agg (k.map W8).toArray),(1,.agg (a.map W8).toArray),(2,.agg (s.map W8).toArray)]=some ((k++(a++s)).map W8).toArray:=by
 have h:=QeM (n:=192) (pl:=[(0,128),(128,32),(160,32)]) Tryz.underlying134 QwA (by kernel_rfl) [(0,0,k),(1,128,a),(2,160,s)] (by
  intro x hx
  simp only[QCQ,QCT,or_false]at hx
  rcases hx with rfl|rfl|rfl<;>simp[hk,ha,hs])
 rw[show QeS (QCn 192 0) ([(0,0,k),(1,128,a),(2,160,s)].map fun x=>(x.2.1,x.2.2))=k++(a++s) from put3 k a s hk ha hs]at h
 exact h
theorem QnP:Program.built Tryz.prog 134 []=some ((QCn 192 (0:UInt8)).map W8).toArray:=by
 rw[QC8]
 kernel_rfl
theorem Qk4:Program.built Tryz.prog 145 []=some ((QCn 192 (0:UInt8)).map W8).toArray:=by
 rw[QC8]
 kernel_rfl
section
variable {ops:Array Oper} {rest:List Oper} {o:Oper} {a:Act} {w:World} {Q:Exit→Act→World→Prop}
theorem Qgv (hgd:o.guard=none) (hd:o.dst=none) (x y:Operand) (ho:o.op= .store 134 x y) {g:Nat} {t:TypeId} {l:List Value} {bs:List UInt8} (hg:Blk w g t l) (hx:a.eval x= .pointer (some ⟨g,0,none⟩)) (hy:a.eval y= .agg (bs.map W8).toArray) (hbl:bs.length=192) (hl:l.length=192)
 (h:∀w',Blk w' g t (bs.map W8)→Only g w w'→wpList Tryz.prog ops Q rest a w'):wpList Tryz.prog ops Q (o :: rest) a w:=
 Qdp 192 hgd hd x y ho hg hx hy Qia hbl hl h
theorem QhN (hgd:o.guard=none) (hd:o.dst=none) (x y:Operand) (ho:o.op= .store 145 x y) {g:Nat} {t:TypeId} {l:List Value} {bs:List UInt8} (hg:Blk w g t l) (hx:a.eval x= .pointer (some ⟨g,0,none⟩)) (hy:a.eval y= .agg (bs.map W8).toArray) (hbl:bs.length=192) (hl:l.length=192)
 (h:∀w',Blk w' g t (bs.map W8)→Only g w w'→wpList Tryz.prog ops Q rest a w'):wpList Tryz.prog ops Q (o :: rest) a w:=
 Qdp 192 hgd hd x y ho hg hx hy Qgr hbl hl h
theorem Qks (hw:Region.wanted o (yielded ops a.tmps)=true) (x:Operand) (ho:o.op= .load 134 x) {g:Nat} {t:TypeId} {bs:List UInt8} (hb:Blk w g t (bs.map W8)) (hl:bs.length=192) (hx:a.eval x= .pointer (some ⟨g,0,none⟩))
 (h:wpList Tryz.prog ops Q rest (a.put o.dst (.agg (bs.map W8).toArray)) w):wpList Tryz.prog ops Q (o :: rest) a w:=
 Qbg hw _ x ho g t _ hb hx _ Tryz.underlying134 rfl 192 Qia (by rw[QCt,hl]) h
theorem QnJ (hw:Region.wanted o (yielded ops a.tmps)=true) (x:Operand) (ho:o.op= .load 145 x) {g:Nat} {t:TypeId} {bs:List UInt8} (hb:Blk w g t (bs.map W8)) (hl:bs.length=192) (hx:a.eval x= .pointer (some ⟨g,0,none⟩))
 (h:wpList Tryz.prog ops Q rest (a.put o.dst (.agg (bs.map W8).toArray)) w):wpList Tryz.prog ops Q (o :: rest) a w:=
 Qbg hw _ x ho g t _ hb hx _ Tryz.underlying145 rfl 192 Qgr (by rw[QCt,hl]) h
end
set_option maxRecDepth 100000 in
set_option maxHeartbeats 4000000 in
theorem Qpl (al s:List UInt8) (hal:al.length=32) (hs:s.length=32) (w:World):
 Calls Tryz.prog 56 #[.agg (al.map W8).toArray,.agg (s.map W8).toArray] w fun e w'=>e= .returned (.tuple #[.agg ((k4 s++(al++s)).map W8).toArray,.int .i64 0])∧Later w w':=by
 have hO:=hid (fun (w:World) g h=>Qyb (some ⟨g,0,none⟩) 32 32 s w h (by omega) (by omega))
 rw[show ofB s=k4 s by rw[ofB,if_pos hs],show ofE s=0 by rw[ofE,if_pos hs]]at hO
 have hkl:=QgP s
 generalize k4 s=K at *
 have hbs:=Qqe K al s hkl hal hs
 have hTl:(K++(al++s)).length=192:=by simp[hkl,hal,hs]
 generalize K++(al++s)=T at *
 have hz1:Tryz.zeroCells132.toList.length=128:=by kernel_rfl
 have hz0:Tryz.zeroCells134.toList.length=192:=by kernel_rfl
 have C1:=Qa8 w 79 (al.map W8)
 have C2:Bag w ((w.alloc (.cells (al.map W8).toArray 79)).alloc (.cells (s.map W8).toArray 79)) [(w.heap.size+1,79,s.map W8),(w.heap.size,79,al.map W8)]:=
  C1.add (Qaa _ _) (by simp) (by omega) (Blk.new' _ _ _ (by simp))
 have C3:Bag w (((w.alloc (.cells (al.map W8).toArray 79)).alloc (.cells (s.map W8).toArray 79)).alloc (.cells Tryz.zeroCells134 134)) [(w.heap.size+2,134,Tryz.zeroCells134.toList),(w.heap.size+1,79,s.map W8),(w.heap.size,79,al.map W8)]:=
  C2.add (Qaa _ _) (by simp) (by omega) (Blk.new' _ _ _ (by simp))
 clear C1 C2
 go_enter Tryz.func56,Tryz.ntmps56
 go_wp2_with fail
 generalize hW:((w.alloc _).alloc _).alloc _=w0
 replace C3:Bag w w0 [(w.heap.size+2,134,Tryz.zeroCells134.toList),(w.heap.size+1,79,s.map W8),(w.heap.size,79,al.map W8)]:=by rw[←hW];exact C3
 clear hW
 (with_reducible refine (hO.out _ _ (Qen (C3.nth 1 rfl) hs)).mono ?_);rintro e w1 ⟨rfl,j1⟩
 go_wp2_with (first
  | (refine Qhi rfl rfl _ _ rfl (Blk.new w1 _ Tryz.zeroCells132.toList) rfl rfl hkl hz1 ?_;intro w2 hb2 ho2
     have C4:=C3.push (j1.trans (Qaa w1 _)) j1.size ho2 hb2)
  | (refine Qwk rfl _ rfl (C4.nth 0 rfl) hkl rfl ?_)
  | (refine QfX rfl _ rfl (C4.nth 3 rfl) hal rfl ?_)
  | (refine QfX rfl _ rfl (C4.nth 2 rfl) hs rfl ?_)
  | (refine Qaq rfl 134 _ rfl (T.map W8) ?hb ?_;(case hb=>simp only[QCA,QCR,QCC];exact hbs))
  | (refine Qgv rfl rfl _ _ rfl (C4.nth 1 rfl) rfl rfl hTl hz0 ?_;intro w9 hb9 ho9)
  | fail)
 exact bodyPost_ret (Qae rfl _ _ _ _ _ _ hb9 rfl Tryz.underlying134 rfl (by rw[QCt,hTl];exact Qia)) rfl ⟨rfl,(C4.write 1 rfl ho9 hb9).lat⟩
set_option maxRecDepth 100000 in
set_option maxHeartbeats 4000000 in
theorem Qt5 (x b al:List UInt8) (hx:x.length=192) (hb:subB x 96 32=b) (hal:subB x 128 32=al) (w:World):
 Calls Tryz.prog 80 #[.agg (x.map W8).toArray] w fun e w'=>e= .returned (.tuple #[.agg ((QcQ b al).map W8).toArray,.int .i64 (Qbt b al:Nat)])∧Later w w':=by
 have hbl:b.length=32:=by rw[←hb];exact Qav (by omega)
 have hall:al.length=32:=by rw[←hal];exact Qav (by omega)
 have hM:=hid (fun (w:World) g h1 h2=>QoA (some ⟨g,96,none⟩) (some ⟨g,128,none⟩) 32 32 32 32 b al w h1 h2 (by omega) (by omega))
 have hml:=QbF b al
 generalize QcQ b al=M at *
 generalize Qbt b al=e9 at *
 have C1:=Qa8 w 134 (x.map W8)
 have C2:Bag w ((w.alloc (.cells (x.map W8).toArray 134)).alloc (.cells (QCn 32 (Value.int .u8 0)).toArray 79)) [(w.heap.size+1,79,QCn 32 (Value.int .u8 0)),(w.heap.size,134,x.map W8)]:=
  C1.add (Qaa _ _) (by simp) (by omega) (Blk.new' _ _ _ (by simp))
 clear C1
 go_enter Tryz.func80,Tryz.ntmps80
 go_wp2_with fail
 generalize hW:(w.alloc _).alloc _=w0
 replace C2:Bag w w0 [(w.heap.size+1,79,QCn 32 (Value.int .u8 0)),(w.heap.size,134,x.map W8)]:=by rw[←hW];exact C2
 clear hW
 refine Qad [([0,1,2,3,4],5)] [6,7] [8,9] (by as_aux_lemma=>kernel_rfl) (by as_aux_lemma=>kernel_rfl) (by intro _ _ d _ _ h;cases d<;>exact h) ?_
 simp only[Qai,pick,QCo,QCp,QCq,QCr,QCs]
 repeat (go_big_quiet_step (fail))
 refine wpQuiet_nil ?_
 go_wp2_with fail
 (with_reducible refine (hM.out _ _ (QcT (C2.drew.nth 1 rfl) hb hbl) (QcT (C2.drew.nth 1 rfl) hal hall)).mono ?_);rintro e w2 ⟨rfl,j2⟩
 go_wp2_with fail
 try refine⟨by first|assumption|exact Qab _|exact Qaa _ _|exact Later.refl _,?_⟩
 try simp only[Qai,pick,QCo,QCp,QCq,QCr,QCs]
 repeat (go_big_quiet_step (fail))
 refine wpQuiet_nil ?_
 go_wp2_with (first
  | (refine Qa5 rfl rfl _ _ rfl ((C2.drew.later j2).nth 0 rfl) rfl rfl hml rfl ?_;intro w9 hb9 ho9)
  | fail)
 exact bodyPost_ret (Qae rfl _ _ _ _ _ _ hb9 rfl Tryz.underlying79 rfl (by rw[QCt,hml];exact Qbn)) rfl ⟨rfl,((C2.drew.later j2).write 0 rfl ho9 hb9).lat⟩
set_option maxRecDepth 100000 in
set_option maxHeartbeats 4000000 in
theorem Qva (x b al:List UInt8) (hx:x.length=192) (hb:subB x 96 32=b) (hal:subB x 128 32=al) (w:World):
 Calls Tryz.prog 66 #[.agg (x.map W8).toArray] w fun e w'=>e= .returned (.tuple #[.agg ((QcQ b al).map W8).toArray,.int .i64 (Qbt b al:Nat)])∧Later w w':=by
 have hbl:b.length=32:=by rw[←hb];exact Qav (by omega)
 have hall:al.length=32:=by rw[←hal];exact Qav (by omega)
 have hM:=hid (fun (w:World) g h1 h2=>Qn2 (some ⟨g,96,none⟩) (some ⟨g,128,none⟩) 32 32 32 32 b al w h1 h2 (by omega) (by omega))
 have hml:=QbF b al
 generalize QcQ b al=M at *
 generalize Qbt b al=e9 at *
 have C1:=Qa8 w 145 (x.map W8)
 have C2:Bag w ((w.alloc (.cells (x.map W8).toArray 145)).alloc (.cells (QCn 32 (Value.int .u8 0)).toArray 79)) [(w.heap.size+1,79,QCn 32 (Value.int .u8 0)),(w.heap.size,145,x.map W8)]:=
  C1.add (Qaa _ _) (by simp) (by omega) (Blk.new' _ _ _ (by simp))
 clear C1
 go_enter Tryz.func66,Tryz.ntmps66
 go_wp2_with fail
 generalize hW:(w.alloc _).alloc _=w0
 replace C2:Bag w w0 [(w.heap.size+1,79,QCn 32 (Value.int .u8 0)),(w.heap.size,145,x.map W8)]:=by rw[←hW];exact C2
 clear hW
 refine Qad [([0,1,2,3,4],5)] [6,7] [8,9] (by as_aux_lemma=>kernel_rfl) (by as_aux_lemma=>kernel_rfl) (by intro _ _ d _ _ h;cases d<;>exact h) ?_
 simp only[Qai,pick,QCo,QCp,QCq,QCr,QCs]
 repeat (go_big_quiet_step (fail))
 refine wpQuiet_nil ?_
 go_wp2_with fail
 (with_reducible refine (hM.out _ _ (QcT (C2.drew.nth 1 rfl) hb hbl) (QcT (C2.drew.nth 1 rfl) hal hall)).mono ?_);rintro e w2 ⟨rfl,j2⟩
 go_wp2_with fail
 try refine⟨by first|assumption|exact Qab _|exact Qaa _ _|exact Later.refl _,?_⟩
 try simp only[Qai,pick,QCo,QCp,QCq,QCr,QCs]
 repeat (go_big_quiet_step (fail))
 refine wpQuiet_nil ?_
 go_wp2_with (first
  | (refine Qa5 rfl rfl _ _ rfl ((C2.drew.later j2).nth 0 rfl) rfl rfl hml rfl ?_;intro w9 hb9 ho9)
  | fail)
 exact bodyPost_ret (Qae rfl _ _ _ _ _ _ hb9 rfl Tryz.underlying79 rfl (by rw[QCt,hml];exact Qbn)) rfl ⟨rfl,((C2.drew.later j2).write 0 rfl ho9 hb9).lat⟩
def Qps (al s:List UInt8):List UInt8:=k4 s++(al++s)
theorem Qk8 (al s:List UInt8) (h:al.length=32) (hs:s.length=32):(Qps al s).length=192:=by simp[Qps,QgP,h,hs]
def Qcp (ks us:List UInt8):List UInt8:=if Qbt ks us=0 then Qps us (QcQ ks us) else QCn 192 0
theorem Qcs (ks us:List UInt8):(Qcp ks us).length=192:=by
 unfold Qcp
 split
 ·rename_i h
  exact Qk8 _ _ (QiB h).2 (QbF _ _)
 ·exact QCJ
theorem Qz2:Tryz.zeroCells134.toList.length=192:=by kernel_rfl
theorem QvQ:Tryz.zeroCells145.toList=(QCn 192 (0:UInt8)).map W8:=by kernel_rfl
set_option maxRecDepth 100000 in
set_option maxHeartbeats 4000000 in
theorem QuY (A B:Option Addr) (n c m d:Nat) (ks us:List UInt8) (w:World) (hk:RdB w A n ks) (hu:RdB w B m us) (hn:n≤140737488355328) (hm:m≤140737488355328):
 Calls Tryz.prog 41 #[.slice A n c,.slice B m d] w fun e w'=>e= .returned (.tuple #[.agg ((Qcp ks us).map W8).toArray,.int .i64 (Qbt ks us:Nat)])∧Later w w':=by
 have hkl:=hk.len
 have hul:=hu.len
 have B0:=Qa8 w 134 Tryz.zeroCells134.toList
 have hz0:=Qz2
 have hM:=hid (fun (w:World) A B c d h1 h2=>QoA A B n c m d ks us w h1 h2 hn hm)
 have hml:=QbF ks us
 have hP1:=hid (fun (h:Qbt ks us=0)=>show Qcp ks us=Qps us (QcQ ks us) by rw[Qcp,if_pos h])
 have hP2:=hid (fun (h: ¬Qbt ks us=0)=>show Qcp ks us=QCn 192 0 by rw[Qcp,if_neg h])
 have hlen:=hid (fun (h:Qbt ks us=0)=>(QiB h).2)
 have hPl:=Qcs ks us
 generalize Qcp ks us=PL at *
 generalize QcQ ks us=M at *
 generalize Qbt ks us=e9 at *
 by_cases he:e9=0
 ·have hP:=hP1.out he
  have hul2:=hlen.out he
  have hS:=hid (fun w=>Qpl us M hul2 hml w)
  rw[show k4 M++(us++M)=PL from hP.symm]at hS
  obtain rfl:m=32:=by omega
  subst he
  clear hP1 hP2 hlen hP
  have hput:putB (QCn 32 (0:UInt8)) 0 us=us:=Qod _ _ (by simp[hul2])
  have hz32:(QCn 32 (0:UInt8)).length=32:=by simp
  have hzm:(QCn 32 (Value.int .u8 0))=(QCn 32 (0:UInt8)).map W8:=by rw[QC8];rfl
  generalize QCn 32 (0:UInt8)=Z at *
  have HP:=hid hput
  have HZ:=hid hzm
  clear hput hzm
  go_enter Tryz.func41,Tryz.ntmps41
  go_wp2_with fail
  generalize hW:w.alloc _=w0
  replace B0:Bag w w0 [(w.heap.size,134,Tryz.zeroCells134.toList)]:=by rw[←hW];exact B0
  clear hW
  (with_reducible refine (hM.out _ _ _ _ _ (hk.later B0.lat) (hu.later B0.lat)).mono ?_);rintro e w1 ⟨rfl,j1⟩
  go_wp2_with (first
   | (refine Qa5 rfl rfl _ _ rfl (Blk.new w1 _ (QCn 32 (.int .u8 0))) rfl rfl hml rfl ?_;intro w2 hb2 ho2
      have B1:=B0.push (j1.trans (Qaa w1 _)) j1.size ho2 hb2
      have B2:=B1.add (Qaa w2 (.cells (QCn 32 (Value.int .u8 0)).toArray 79)) (k:=w2.heap.size) (by have h1:=(B1.nth 0 rfl).lt;have h2:=(B1.nth 1 rfl).lt;simp;omega) B1.lat.size ((Blk.new w2 _ (QCn 32 (.int .u8 0))).cast HZ.out))
   | (refine Qsk 0 32 rfl _ _ _ _ rfl 5 Tryz.underlying32 QbR (B2.nth 0 rfl) (hu.later B2.lat) rfl rfl (by omega) ?_;intro w3 hb3 ho3
      rw[HP.out]at hb3
      have B3:=B2.write 0 rfl ho3 hb3)
   | (refine QfX rfl _ rfl (B3.nth 0 rfl) hul2 rfl ?_)
   | (refine QfX rfl _ rfl (B3.nth 1 rfl) hml rfl ?_)
   | fail)
  (with_reducible refine (hS.out _).mono ?_);rintro e w4 ⟨rfl,j4⟩
  go_wp2_with (first
   | (refine Qgv rfl rfl _ _ rfl ((B3.later j4).nth 2 rfl) rfl rfl hPl hz0 ?_;intro w9 hb9 ho9)
   | fail)
  exact bodyPost_ret (Qae rfl _ _ _ _ _ _ hb9 rfl Tryz.underlying134 rfl (by rw[QCt,hPl];exact Qia)) rfl ⟨rfl,((B3.later j4).write 2 rfl ho9 hb9).lat⟩
 ·have hP:=hP2.out he
  have hb0:=QnP
  rw[←hP]at hb0
  have hne:((e9:Int) != 0)=true:=by simp;omega
  clear hP1 hP2 hlen hP
  go_enter Tryz.func41,Tryz.ntmps41
  go_wp2_with fail
  generalize hW:w.alloc _=w0
  replace B0:Bag w w0 [(w.heap.size,134,Tryz.zeroCells134.toList)]:=by rw[←hW];exact B0
  clear hW
  (with_reducible refine (hM.out _ _ _ _ _ (hk.later B0.lat) (hu.later B0.lat)).mono ?_);rintro e w1 ⟨rfl,j1⟩
  go_wp2_with (first
   | (refine Qa5 rfl rfl _ _ rfl (Blk.new w1 _ (QCn 32 (.int .u8 0))) rfl rfl hml rfl ?_;intro w2 hb2 ho2
      have B1:=B0.push (j1.trans (Qaa w1 _)) j1.size ho2 hb2)
   | (refine Qaq rfl 134 _ rfl (PL.map W8) ?hb ?_;(case hb=>simp only[QCA,QCC];exact hb0))
   | (refine Qgv rfl rfl _ _ rfl (B1.nth 1 rfl) rfl rfl hPl hz0 ?_;intro w9 hb9 ho9)
   | fail)
  exact bodyPost_ret (Qae rfl _ _ _ _ _ _ hb9 rfl Tryz.underlying134 rfl (by rw[QCt,hPl];exact Qia)) rfl ⟨rfl,(B1.write 1 rfl ho9 hb9).lat⟩
theorem QuL (us M:List UInt8) (hu:us.length=32) (hM:M.length=32) (K:List UInt8) (hK:K.length=128):
 putB (putB (putB (QCn 192 (0:UInt8)) 128 us) 160 M) 0 K=K++(us++M):=by
 rw[show QCn 192 (0:UInt8)=QCn 128 0++(QCn 32 0++QCn 32 0) by simp]
 rw[Qcw _ _ _ _ 128 (by simp) (by simp[hu]),←QCL,QdQ _ _ _ 160 (by simp[hu]) (by simp[hM]),QCL,Qc9 _ _ _ (by simp[hK])]
set_option maxRecDepth 100000 in
set_option maxHeartbeats 4000000 in
theorem Qvb (A B:Option Addr) (n c m d:Nat) (ks us:List UInt8) (w:World) (hk:RdB w A n ks) (hu:RdB w B m us) (hn:n≤140737488355328) (hm:m≤140737488355328):
 Calls Tryz.prog 51 #[.slice A n c,.slice B m d] w fun e w'=>e= .returned (.tuple #[.agg ((Qcp ks us).map W8).toArray,.int .i64 (Qbt ks us:Nat)])∧Later w w':=by
 have hkl:=hk.len
 have hul:=hu.len
 have hzz:=QvQ
 have B0:Bag w (w.alloc (.cells Tryz.zeroCells145 145)) [(w.heap.size,145,(QCn 192 (0:UInt8)).map W8)]:=(Bag.none w).add (Qaa _ _) (by simp) (QCx _) ((Blk.new w _ Tryz.zeroCells145.toList).cast hzz)
 have hM:=hid (fun (w:World) A B c d h1 h2=>Qn2 A B n c m d ks us w h1 h2 hn hm)
 have hml:=QbF ks us
 have hP1:=hid (fun (h:Qbt ks us=0)=>show Qcp ks us=Qps us (QcQ ks us) by rw[Qcp,if_pos h])
 have hP2:=hid (fun (h: ¬Qbt ks us=0)=>show Qcp ks us=QCn 192 0 by rw[Qcp,if_neg h])
 have hlen:=hid (fun (h:Qbt ks us=0)=>(QiB h).2)
 have hPl:=Qcs ks us
 have hzl:(QCn 192 (0:UInt8)).length=192:=by simp
 generalize Qcp ks us=PL at *
 generalize QcQ ks us=M at *
 generalize Qbt ks us=e9 at *
 by_cases he:e9=0
 ·have hP:=hP1.out he
  have hul2:=hlen.out he
  have hO:=hid (fun (w:World) g h=>QtW (some ⟨g,0,none⟩) 32 32 M w h (by omega))
  rw[show ofB M=k4 M by rw[ofB,if_pos hml],show ofE M=0 by rw[ofE,if_pos hml]]at hO
  have hput:=QuL us M hul2 hml (k4 M) (QgP M)
  have hkl4:=QgP M
  rw[Qps]at hP
  rw[←hP]at hput
  generalize k4 M=K at *
  obtain rfl:m=32:=by omega
  subst he
  clear hP1 hP2 hlen hP
  generalize hZ0:QCn 192 (0:UInt8)=Z at *
  have l1:(putB Z 128 us).length=192:=by rw[Qca (by omega)];exact hzl
  have l2:(putB (putB Z 128 us) 160 M).length=192:=by rw[Qca (by omega)];exact l1
  generalize hP1':putB Z 128 us=Z1 at *
  generalize hP2':putB Z1 160 M=Z2 at *
  have P1:=hid hP1'
  have P2:=hid hP2'
  have P3:=hid hput
  have HZ:=hid hzz
  have hZl:(Z.map W8).length=192:=by rw[QCt,hzl]
  clear hP1' hP2' hput hzz hZ0
  go_enter Tryz.func51,Tryz.ntmps51
  go_wp2_with fail
  generalize hW:w.alloc _=w0
  replace B0:Bag w w0 [(w.heap.size,145,Z.map W8)]:=by rw[←hW];exact B0
  clear hW
  (with_reducible refine (hM.out _ _ _ _ _ (hk.later B0.lat) (hu.later B0.lat)).mono ?_);rintro e w1 ⟨rfl,j1⟩
  go_wp2_with (first
   | (refine Qa5 rfl rfl _ _ rfl (Blk.new w1 _ (QCn 32 (.int .u8 0))) rfl rfl hml rfl ?_;intro w2 hb2 ho2
      have B1:=B0.push (j1.trans (Qaa w1 _)) j1.size ho2 hb2
      have B2:=B1.add (Qaa w2 (.cells Tryz.zeroCells145 145)) (k:=w2.heap.size) (by have h1:=(B1.nth 0 rfl).lt;have h2:=(B1.nth 1 rfl).lt;simp;omega) B1.lat.size ((Blk.new w2 _ Tryz.zeroCells145.toList).cast HZ.out))
   | (refine Qsk 128 32 rfl _ _ _ _ rfl 5 Tryz.underlying32 QbR (B2.nth 0 rfl) (hu.later B2.lat) rfl rfl (by omega) ?_;intro w3 hb3 ho3
      rw[P1.out]at hb3
      have B3:=B2.write 0 rfl ho3 hb3)
   | (refine QfX rfl _ rfl (B3.nth 1 rfl) hml rfl ?_)
   | (refine Qg2 160 32 rfl rfl _ _ rfl (B3.nth 0 rfl) rfl rfl QcZ hml (by omega) ?_;intro w4 hb4 ho4;rw[P2.out]at hb4
      have B4:=B3.write 0 rfl ho4 hb4)
   | fail)
  (with_reducible refine (hO.out _ _ (Qen (B4.nth 1 rfl) hml)).mono ?_);rintro e w5 ⟨rfl,j5⟩
  go_wp2_with (first
   | (refine Qg2 0 128 rfl rfl _ _ rfl ((B4.later j5).nth 0 rfl) rfl rfl Qf2 hkl4 (by omega) ?_;intro w6 hb6 ho6;rw[P3.out]at hb6
      have B5:=(B4.later j5).write 0 rfl ho6 hb6)
   | (refine QnJ rfl _ rfl (B5.nth 0 rfl) hPl rfl ?_)
   | (refine QhN rfl rfl _ _ rfl (B5.nth 2 rfl) rfl rfl hPl hZl ?_;intro w9 hb9 ho9)
   | fail)
  exact bodyPost_ret (Qae rfl _ _ _ _ _ _ hb9 rfl Tryz.underlying145 rfl (by rw[QCt,hPl];exact Qgr)) rfl ⟨rfl,(B5.write 2 rfl ho9 hb9).lat⟩
 ·have hP:=hP2.out he
  have hb0:=Qk4
  rw[←hP]at hb0
  have hne:((e9:Int) != 0)=true:=by simp;omega
  have hz0:((QCn 192 (0:UInt8)).map W8).length=192:=by rw[QCt];exact hzl
  clear hP1 hP2 hlen hP hzl hzz
  generalize QCn 192 (0:UInt8)=Z at *
  go_enter Tryz.func51,Tryz.ntmps51
  go_wp2_with fail
  generalize hW:w.alloc _=w0
  replace B0:Bag w w0 [(w.heap.size,145,Z.map W8)]:=by rw[←hW];exact B0
  clear hW
  (with_reducible refine (hM.out _ _ _ _ _ (hk.later B0.lat) (hu.later B0.lat)).mono ?_);rintro e w1 ⟨rfl,j1⟩
  go_wp2_with (first
   | (refine Qa5 rfl rfl _ _ rfl (Blk.new w1 _ (QCn 32 (.int .u8 0))) rfl rfl hml rfl ?_;intro w2 hb2 ho2
      have B1:=B0.push (j1.trans (Qaa w1 _)) j1.size ho2 hb2)
   | (refine Qaq rfl 145 _ rfl (PL.map W8) ?hb ?_;(case hb=>simp only[QCA,QCC];exact hb0))
   | (refine QhN rfl rfl _ _ rfl (B1.nth 1 rfl) rfl rfl hPl hz0 ?_;intro w9 hb9 ho9)
   | fail)
  exact bodyPost_ret (Qae rfl _ _ _ _ _ _ hb9 rfl Tryz.underlying145 rfl (by rw[QCt,hPl];exact Qgr)) rfl ⟨rfl,(B1.write 1 rfl ho9 hb9).lat⟩
def kMac (s:List UInt8):List UInt8:=subB s 0 32
def kStr (s:List UInt8):List UInt8:=subB s 32 32
def kPay (s:List UInt8):List UInt8:=subB s 64 32
def kBli (s:List UInt8):List UInt8:=subB s 96 32
def kAlp (s:List UInt8):List UInt8:=subB s 128 32
def kSec (s:List UInt8):List UInt8:=subB s 160 32
def tagB (key al be:List UInt8):List UInt8:=(Qbm key (al++be)).take 16
def QiK (h s:List UInt8):Bool:=decide (tagB (kMac s) (subB h 0 32) (subB h 48 240)=subB h 32 16)
def QbQ (h s:List UInt8):List UInt8:=xorB (subB h 48 240++QCn 48 0) (chaS (kStr s) 288)
def QgD (s:List UInt8):List UInt8:=QcQ (kBli s) (kAlp s)
def Qna (s:List UInt8):Nat:=Qbt (kBli s) (kAlp s)
def QeC (h s:List UInt8):Nat:=if QiK h s=false then 6 else if decE ((QbQ h s).take 32)≠0 then 3 else if (decC ((QbQ h s).take 32)).kd=1 then Qna s else 0
def QgW (h s:List UInt8):Cmd:=if QeC h s=0 then decC ((QbQ h s).take 32) else cmd0
def QiJ (h s:List UInt8):List UInt8:=if QeC h s=0∧(decC ((QbQ h s).take 32)).kd=1 then QgD s++(QbQ h s).drop 32 else QCn 288 0
theorem QeF (h s:List UInt8) (hl:h.length=288):(QbQ h s).length=288:=by
 have h1:(subB h 48 240).length=240:=Qav (by omega)
 rw[QbQ,QbB (by simp[h1,QbZ]),QbZ]
theorem Qfj (h s:List UInt8) (hl:h.length=288):(QiJ h s).length=288:=by
 unfold QiJ
 split
 ·rw[QCB,QCS,QeF h s hl,QgD,QbF]
 ·rw[QCJ]
def relE (s p:List UInt8):Nat:=QeC (p.take 288) s
def relC (s p:List UInt8):Cmd:=QgW (p.take 288) s
def QcR (s p:List UInt8):List UInt8:=Qdq (kPay s) (p.drop 288) rsO
def relP (s p:List UInt8):List UInt8:=if relE s p=0∧(relC s p).kd=1 then QiJ (p.take 288) s++QcR s p else QCn 768 0
def relB (s p:List UInt8):List UInt8:=if relE s p=0∧(relC s p).kd≠1 then QcR s p else []
def unwE (k p:List UInt8):Nat:=if Qbt k (p.take 32)=0 then relE (Qcp k (p.take 32)) p else Qbt k (p.take 32)
def unwC (k p:List UInt8):Cmd:=if Qbt k (p.take 32)=0 then relC (Qcp k (p.take 32)) p else cmd0
def unwP (k p:List UInt8):List UInt8:=if Qbt k (p.take 32)=0 then relP (Qcp k (p.take 32)) p else QCn 768 0
def unwB (k p:List UInt8):List UInt8:=if Qbt k (p.take 32)=0 then relB (Qcp k (p.take 32)) p else []
theorem Qcc {P:Program} {fn:Func} {p q u:Tmp} {ty ty2:TypeId} (h:fn.results= #[.cell p ty,.cell q ty2,.tmp u]) (tmps:Array Value) (w:World) (g g2:Nat) (t t2:TypeId) (l l2:List Value) (d d2:TypeDesc)
 (hg:Blk w g t l) (hp:tmps.getD p undef= .pointer (some ⟨g,0,none⟩)) (hu:P.underlying ty=some d) (hd:QbH d=true) (hi:(P.info? ty).map (·.size)=some l.length)
 (hg2:Blk w g2 t2 l2) (hp2:tmps.getD q undef= .pointer (some ⟨g2,0,none⟩)) (hu2:P.underlying ty2=some d2) (hd2:QbH d2=true) (hi2:(P.info? ty2).map (·.size)=some l2.length):
 (results fn tmps).run P w= .ok (.tuple #[.agg l.toArray,.agg l2.toArray,tmps.getD u undef]) w:=by
 have h1:=Qbi (P:=P) w g 0 ty l d (fun j v hv=>by rw[QCI];exact hg.cellD j hv) hu hd hi
 have h2:=Qbi (P:=P) w g2 0 ty2 l2 d2 (fun j v hv=>by rw[QCI];exact hg2.cellD j hv) hu2 hd2 hi2
 have hp':tmps[p]?.getD undef= .pointer (some ⟨g,0,none⟩):=by simpa using hp
 have hq':tmps[q]?.getD undef= .pointer (some ⟨g2,0,none⟩):=by simpa using hp2
 simp[results,h,Sem.run_bind,Result.andThen,hp',hq',asAddr,h1,h2]
theorem QdP {P:Program} {fn:Func} {p u v:Tmp} {ty:TypeId} (h:fn.results= #[.cell p ty,.tmp u,.tmp v]) (tmps:Array Value) (w:World) (g:Nat) (t:TypeId) (l:List Value) (d:TypeDesc)
 (hg:Blk w g t l) (hp:tmps.getD p undef= .pointer (some ⟨g,0,none⟩)) (hu:P.underlying ty=some d) (hd:QbH d=true) (hi:(P.info? ty).map (·.size)=some l.length):
 (results fn tmps).run P w= .ok (.tuple #[.agg l.toArray,tmps.getD u undef,tmps.getD v undef]) w:=by
 have h1:=Qbi (P:=P) w g 0 ty l d (fun j v hv=>by rw[QCI];exact hg.cellD j hv) hu hd hi
 have hp':tmps[p]?.getD undef= .pointer (some ⟨g,0,none⟩):=by simpa using hp
 simp[results,h,hp',asAddr,h1]
set_option maxRecDepth 100000 in
set_option maxHeartbeats 2000000 in
theorem Qsv (h s:List UInt8) (hl:h.length=288) (hs:s.length=192) (w:World):
 Calls Tryz.prog 77 #[.agg (h.map W8).toArray,.agg (s.map W8).toArray] w fun e w'=>e= .returned (.bool (QiK h s))∧Later w w':=by
 have C1:=Qa8 w 82 (h.map W8)
 have C2:Bag w ((w.alloc (.cells (h.map W8).toArray 82)).alloc (.cells (s.map W8).toArray 134)) [(w.heap.size+1,134,s.map W8),(w.heap.size,82,h.map W8)]:=
  C1.add (Qaa _ _) (by simp) (by omega) (Blk.new' _ _ _ (by simp))
 clear C1
 have s0:(subB h 0 32).length=32:=Qav (by omega)
 have s1:(subB h 32 16).length=16:=Qav (by omega)
 have s2:(subB h 48 240).length=240:=Qav (by omega)
 have k0:(kMac s).length=32:=Qav (by omega)
 have hC:=hid (fun A B C d e0 (w:World) h1 h2 h3=>QrS A B C 32 32 2 d 16 e0 (kMac s) (subB h 32 16) [subB h 0 32,subB h 48 240] w h1 (by omega) (by omega) h2 (by omega) h3 (by omega) (by simp[s0,s2]))
 have hF:=hid (show QiK h s=decide ((Qbm (kMac s) [subB h 0 32,subB h 48 240].flatten).take 16=subB h 32 16) by
  rw[QiK,tagB,List.flatten_cons,List.flatten_cons,List.flatten_nil,QC1])
 go_enter Tryz.func77,Tryz.ntmps77
 go_wp2_with fail
 generalize hW:(w.alloc _).alloc _=w1
 replace C2:Bag w w1 [(w.heap.size+1,134,s.map W8),(w.heap.size,82,h.map W8)]:=by rw[←hW];exact C2
 clear hW
 refine Qad [([0,1,2,3,4,5,6,7,8],9),([],10)] [11] [] (by as_aux_lemma=>kernel_rfl) (by as_aux_lemma=>kernel_rfl) (by intro _ _ d _ _ h;cases d<;>exact h) ?_
 simp only[Qai,pick,QCo,QCp,QCq,QCr,QCs]
 repeat (go_big_quiet_step (fail))
 refine wpQuiet_nil ?_
 go_wp2_with fail
 try refine⟨by first|assumption|exact Qab _|exact Qaa _ _|exact Later.refl _,?_⟩
 try simp only[Qai,pick,QCo,QCp,QCq,QCr,QCs]
 repeat (go_big_quiet_step (fail))
 refine wpQuiet_nil ?_
 have l2:=(Qab w1).trans (Qaa _ (.cells #[.slice (some ⟨w.heap.size,0,none⟩) 32 32,.slice (some ⟨w.heap.size,48,none⟩) 240 240] 32))
 have B2:=C2.later l2
 have P3:=Qie (bad:=fun _=>False) (ps:=[subB h 0 32,subB h 48 240]) ((Blk.new w1.drew 32 [.slice (some ⟨w.heap.size,0,none⟩) 32 32,.slice (some ⟨w.heap.size,48,none⟩) 240 240]).rd rfl) (Qcr _ _) ⟨QeL (QcT (B2.nth 1 rfl) rfl s0) (QCx _),QeL (QcT (B2.nth 1 rfl) rfl s2) (QCx _),trivial⟩
 go_wp2_with fail
 (refine (hC.out _ _ _ _ _ _ (QcT (B2.nth 0 rfl) rfl k0) (QcT (B2.nth 1 rfl) rfl s1) P3).mono ?_);rintro e w3 ⟨rfl,l3⟩
 rw[←hF.out]
 go_wp2_with fail
 try refine⟨by first|assumption|exact Qab _|exact Qaa _ _|exact Later.refl _,?_⟩
 try simp only[Qai,pick,QCo,QCp,QCq,QCr,QCs]
 repeat (go_big_quiet_step (fail))
 refine wpQuiet_nil ?_
 go_wp2_with fail
 go_ret
 exact⟨rfl,B2.lat.trans l3⟩
abbrev cz0:List Value:=[.int .u8 0,.int .u8 0,.int .u32 0,.int .u64 0,.int .u8 0,.int .u8 0,.int .u8 0,.int .u8 0,.int .u8 0,.int .u8 0,.int .u8 0,.int .u8 0,.int .u8 0,.int .u8 0,.int .u8 0,.int .u8 0,.int .u8 0,.int .u8 0,.int .u8 0,.int .u8 0]
theorem Qa6 {w:World} {b p n:Nat} {bs:List UInt8} (h:RdB w (some ⟨b,p,none⟩) n bs) (i:Nat) (hi:i<n):w.cell? ⟨b,p+i,none⟩=some (W8 (bs.getD i 0)):=by
 obtain⟨b',o',he,_,hc⟩:=h.2 (by omega)
 have hl:=h.len
 cases he
 exact hc i _ (by rw[QCH,QCu,QCv (by omega)];rfl)
theorem Qjo (b:List UInt8) (hb:b.length=32) (d:UInt32) (x:UInt64) (hd:d=(Qdt b).dl) (hx:x=(Qdt b).nx):
 Qau (((CC ⟨b.getD 0 0,b.getD 1 0,0,0,QaV⟩).set 2 (W32 d)).set 3 (W64 x)) 4 (((b.drop 14).map W8).take 16)=CC (Qdt b):=by
 subst hd hx
 have hm:=Qp7 b hb
 have hml:((b.drop 14).map W8).take 16=(subB b 14 16).map W8:=by rw[←QDB];rfl
 have hl:=Qav (bs:=b) (off:=14) (n:=16) (by omega)
 rw[hml,Qau,QCt,hl,List.drop_eq_nil_of_le (by rw[QCZ,QCZ,Qam];omega),QC1,CC,CC,hm]
 rfl
theorem QlE (b:List UInt8):decE b=if (!(cmdE (Qdt b)==1)&&(!(b.getD 30 0==0)|| !(b.getD 31 0==0)))=true then 3 else cmdE (Qdt b):=by
 rw[decE]
 congr 1
 simp
theorem Qjp (c:Cmd):cmdE c=0∨cmdE c=1∨cmdE c=3∨cmdE c=11:=by
 unfold cmdE
 split
 ·simp
 ·split
  ·simp
  ·split<;>simp
set_option maxRecDepth 100000 in
set_option maxHeartbeats 8000000 in
theorem QmU (A:Option Addr) (c:Nat) (b:List UInt8) (w:World) (hb:RdB w A 32 b) (hc:32≤c):
 Calls Tryz.prog 79 #[.slice A 32 c] w fun e w'=>e= .returned (.tuple #[.agg (CC (decC b)).toArray,.int .i64 (decE b:Nat)])∧Later w w':=by
 have hbl:=hb.len
 obtain⟨b0,p,rfl,_,_⟩:=hb.2 (by omega)
 have B0:=Qa8 w 98 cz0
 have hz0:cz0.length=20:=rfl
 have hG1:Hid (∀ w,RdB w (some ⟨b0,p,none⟩) 32 b→Calls Tryz.prog 45 #[.int .i64 2,.slice (some ⟨b0,p,none⟩) 32 c,.int .i64 2,.int .i64 4] w fun e w'=>e= .returned (.tuple #[W64 (QCN (beN (subB b 2 4) 0)),.int .i64 0])∧Later w w'):=
  hid (fun w h=>QhI _ 32 c 2 4 b w h (by omega) (by omega) (by omega) (by omega))
 have hG2:Hid (∀ w,RdB w (some ⟨b0,p,none⟩) 32 b→Calls Tryz.prog 45 #[.int .i64 2,.slice (some ⟨b0,p,none⟩) 32 c,.int .i64 6,.int .i64 8] w fun e w'=>e= .returned (.tuple #[W64 (QCN (beN (subB b 6 8) 0)),.int .i64 0])∧Later w w'):=
  hid (fun w h=>QhI _ 32 c 6 8 b w h (by omega) (by omega) (by omega) (by omega))
 have hfill:=hid (Qjo b hbl _ (QCN (beN (subB b 6 8) 0)) (Qyl (beN (subB b 2 4) 0)) rfl)
 have hcut:cutA (some ⟨b0,p,none⟩) 30 c=some ⟨b0,p+30,none⟩:=by rw[cutA,if_neg (by omega)];rfl
 have hcutc:cutA (some ⟨b0,p,none⟩) 14 c=some ⟨b0,p+14,none⟩:=by rw[cutA,if_neg (by omega)];rfl
 have hCk:=hid (Qpq (Qdt b))
 have hE:=Qjp (Qdt b)
 have hD:=hid (QlE b)
 have hC:=hid (show decC b=if decE b=0 then Qdt b else cmd0 from rfl)
 have hcd:=hb.cut (c:=c) (show 14≤32 by omega) hc
 rw[hcutc]at hcd
 generalize QCN (beN (subB b 2 4) 0)=x1 at *
 generalize QCN (beN (subB b 6 8) 0)=x2 at *
 generalize decC b=DC at *
 generalize decE b=DE at *
 generalize cmdE (Qdt b)=e9 at *
 have hb0:=QfL
 go_enter Tryz.func79,Tryz.ntmps79
 go_wp2_with fail
 generalize hW:w.alloc _=w1
 replace B0:Bag w w1 [(w.heap.size,98,cz0)]:=by rw[←hW];exact B0
 clear hW
 have r1:=(hb.later B0.lat).later (Qab _)
 have c0:=Qa6 r1 0 (by omega)
 have c1:=Qa6 r1 1 (by omega)
 have hlb:b0<w1.drew.heap.size:=by
  obtain⟨_,_,he,h,_⟩:=r1.2 (by omega)
  cases he
  exact h
 rw[QDP]at c0
 have hbc:=Qjx (b.getD 0 0) (b.getD 1 0)
 generalize b.getD 0 0=k0 at *
 generalize b.getD 1 0=k1 at *
 refine Qad [([0,1,2,3,4,5,6],7)] [] [8] (by as_aux_lemma=>kernel_rfl) (by as_aux_lemma=>kernel_rfl) (by intro _ _ d _ _ h;cases d<;>exact h) ?_
 simp only[Qai,pick,QCo,QCp,QCq,QCr,QCs]
 repeat (first|go_big_quiet_skip|(go_big_quiet_want;(refine Qb0 _ _ rfl (CC ⟨k0,k1,0,0,QaV⟩) (by simp only[QCA,QCR,QCC];exact hbc) ?_);simp only[Act.put,QCw,QCz,QCy];go_big_quiet_on)|(go_big_quiet_step (fail)))
 refine wpQuiet_nil ?_
 go_wp2_with fail
 try refine⟨by first|assumption|exact Qab _|exact Qaa _ _|exact Later.refl _,?_⟩
 try simp only[Qai,pick,QCo,QCp,QCq,QCr,QCs]
 repeat (go_big_quiet_step (fail))
 refine wpQuiet_nil ?_
 go_wp2_with (first
  | (refine QbJ rfl rfl _ _ rfl (Blk.new w1.drew _ cz0) rfl rfl rfl ?_;intro w3 hb3 ho3)
  | fail)
 have B1:=B0.push ((Qab _).trans (Qaa _ _)) (QCx _) ho3 hb3
 clear hb3 ho3 r1 c0 c1 hlb B0
 generalize w1.heap.size=g3 at *
 (with_reducible refine (hG1.out _ (hb.later B1.lat)).mono ?_);rintro e w4 ⟨rfl,j4⟩
 go_wp2_with fail
 (with_reducible refine (hG2.out _ (hb.later (B1.lat.trans j4))).mono ?_);rintro e w5 ⟨rfl,j5⟩
 replace B1:=(B1.later j4).later j5
 clear j4 j5 hG1 hG2
 go_wp2_with (first
  | (refine Qac rfl rfl _ _ _ rfl g3 2 _ _ (B1.nth 0 rfl) rfl (by rw[Qam];omega) rfl (by kernel_rfl) ?_;intro v6 w6 hv6 hb6 ho6;simp[go_sem]at hv6;subst hv6
     have B2:=B1.write 0 rfl ho6 hb6)
  | (refine Qac rfl rfl _ _ _ rfl g3 3 _ _ (B2.nth 0 rfl) rfl (by rw[QCZ,Qam];omega) rfl (by kernel_rfl) ?_;intro v7 w7 hv7 hb7 ho7;simp[go_sem]at hv7;subst hv7
     have B3:=B2.write 0 rfl ho7 hb7)
  | fail)
 clear hb6 ho6 hb7 ho7 B1 B2
 have B4:=B3.drew
 have hlb:b0<w7.drew.heap.size:=by
  obtain⟨_,_,he,h,_⟩:=(hb.later B4.lat).2 (by omega)
  cases he
  exact h
 refine Qad [] [0,1,2,3] [4] (by as_aux_lemma=>kernel_rfl) (by as_aux_lemma=>kernel_rfl) (by intro _ _ d _ _ h;cases d<;>exact h) ?_
 simp only[Qai,pick,QCo,QCp,QCq,QCr,QCs]
 repeat (go_big_quiet_step (fail))
 refine wpQuiet_nil ?_
 go_wp2_with (first
  | (refine Qax rfl _ _ _ _ rfl 5 Tryz.underlying32 QbR g3 4 16 16 _ _ (B4.nth 0 rfl) (some ⟨b0,p+14,none⟩) 18 (c-14) ((b.drop 14).map W8) (Rd.later hcd B4.lat) (QaE _) rfl rfl (by have:=Qam ⟨k0,k1,0,0,QaV⟩;simp only[QCZ];omega) ?_;intro w8 hb8 ho8;rw[hfill.out]at hb8
     have B5:=B4.write 0 rfl ho8 hb8)
  | (refine Qep rfl _ rfl (B5.nth 0 rfl) rfl ?_)
  | fail)
 (with_reducible refine (hCk.out _).mono ?_);rintro e w9 ⟨rfl,j9⟩
 have B6:=B5.later j9
 have r9:=hb.later B6.lat
 have c30:=Qa6 r9 30 (by omega)
 have c31:=Qa6 r9 31 (by omega)
 clear hb8 ho8 B5 B4 B3 j9 hcd hcutc hfill hCk r9 hlb hbc
 generalize b.getD 30 0=d30 at *
 generalize b.getD 31 0=d31 at *
 generalize Qdt b=cm at *
 rcases hE with rfl|rfl|rfl|rfl
 all_goals
  cases h30:(d30==0)<;>cases h31:(d31==0)
  all_goals
   have hDE:=hD.out
   have hDC:=hC.out
   rw[h30,h31]at hDE
   simp at hDE
   rw[hDE]at hDC
   simp at hDC
   replace hDE:=hid hDE
   replace hDC:=hid hDC
   have n30:(d30 != 0)= !(d30==0):=rfl
   have n31:(d31 != 0)= !(d31==0):=rfl
   rw[h30]at n30
   rw[h31]at n31
   clear hD hC
   go_wp2_with (first
    | (refine Qep rfl _ rfl (B6.nth 0 rfl) rfl ?_)
    | (refine Qah rfl _ _ rfl (CC cmd0) (by simp only[QCA,QCC];exact hb0) ?_)
    | (refine QbJ rfl rfl _ _ rfl (B6.nth 1 rfl) rfl rfl hz0 ?_;intro w10 hb10 ho10)
    | fail)
   exact bodyPost_ret (Qae rfl _ _ _ _ _ _ hb10 rfl Tryz.underlying98 rfl (by rw[Qam];exact Qdx)) rfl ⟨by rw[hDE.out,hDC.out];rfl,(B6.write 1 rfl ho10 hb10).lat⟩
section
variable {ops:Array Oper} {rest:List Oper} {o:Oper} {a:Act} {w:World} {Q:Exit→Act→World→Prop}
theorem QcN {P:Program} {J:Act→Prop} (ty:TypeId) (x:Operand) (ho:o.op= .load ty x) {w0:World} {bad:List Nat} {g:Nat} {t:TypeId} {l:List Value} (off:Nat) (vs:List Value) (hb:Blk w0 g t l) (hn:∀b∈bad,g≠b) (hx:a.eval x= .pointer (some ⟨g,off,none⟩))
 (hv:∀j v,vs[j]?=some v→l[off+j]?=some v) (d:TypeDesc) (hu:P.underlying ty=some d) (hd:QbH d=true) (hi:(P.info? ty).map (·.size)=some vs.length) (h:J (a.put o.dst (.agg vs.toArray))):o.quiet P a (Spared w0 bad) J:=
 QaN _ x ho g off vs (fun _ hw j v hv'=>Blk.cellD (hw.blk hb hn) _ (hv j v hv')) hx d hu hd hi h
end
theorem Qe1 (l:List Value):∀j v,l[j]?=some v→l[0+j]?=some v:=fun j v h=>by rw[QCI];exact h
theorem QkP {w:World} {g n k:Nat} {t:TypeId} {bs:List UInt8} {rest:List Value} (h:Blk w g t (bs.map W8++rest)) (hn:bs.length=n) (hk:k<n):Rd w (some ⟨g,k,none⟩) (n-k) ((bs.drop k).map W8):=by
 have h1:=(QdA h hn).cut (k:=k) (c:=n+1) (by omega) (by omega)
 rw[show cutA (some ⟨g,0,none⟩) k (n+1)=some ⟨g,k,none⟩ by
  rw[cutA,if_neg (by omega)]
  show some ((⟨g,0,none⟩:Addr).add k)=_
  rw[Qdl,QCI]]at h1
 exact h1
theorem QuI (nb pl:List UInt8) (hn:nb.length=32) (hp:pl.length=288):putB (putB (putB (QCn 288 0) 0 nb) 32 ((pl.drop 32).take 16)) 48 (pl.drop 48)=nb++pl.drop 32:=by
 have h:=QrV (nb++pl.drop 32) (by rw[QCB,QCS];omega)
 rw[QD9 hn,QDg hn,show (nb++pl.drop 32).drop 48=pl.drop 48 by rw[QEh,List.drop_eq_nil_of_le (by omega),QCs,hn,QD8]]at h
 exact h
theorem Qpg (h s:List UInt8) (hl:h.length=288):[subB h 48 240,QCn 48 0].flatten.length=288∧xorB [subB h 48 240,QCn 48 0].flatten (chaS (kStr s) 288)=QbQ h s:=by
 have s2:(subB h 48 240).length=240:=Qav (by omega)
 rw[List.flatten_cons,List.flatten_cons,List.flatten_nil,QC1]
 exact⟨by rw[QCB,s2,QCJ],rfl⟩
set_option maxRecDepth 100000 in
set_option maxHeartbeats 8000000 in
theorem QsA (h s:List UInt8) (hl:h.length=288) (hs:s.length=192) (w:World):
 Calls Tryz.prog 57 #[.agg (h.map W8).toArray,.agg (s.map W8).toArray] w fun e w'=>e= .returned (.tuple #[.agg (CC (QgW h s)).toArray,.agg ((QiJ h s).map W8).toArray,.int .i64 (QeC h s:Nat)])∧Later w w':=by
 have HZ:=hid zcH
 have l0:(QCn 288 (0:UInt8)).length=288:=QCJ
 have C1:=Qa8 w 82 (h.map W8)
 have C2:=C1.add (Qaa _ (.cells (s.map W8).toArray 134)) (k:=w.heap.size+1) (by simp) (by omega) (Blk.new' _ _ _ (by simp))
 have C3:=C2.add (Qaa _ (.cells cz0.toArray 98)) (k:=w.heap.size+2) (by simp) (by omega) (Blk.new' _ _ _ (by simp))
 have C4:=C3.add (Qaa _ (.cells Tryz.zeroCells82 82)) (k:=w.heap.size+3) (by simp) (by omega) ((Blk.new' _ _ Tryz.zeroCells82.toList (by simp)).cast HZ.out)
 clear C1 C2 C3
 have s2:(subB h 48 240).length=240:=Qav (by omega)
 have k1:(kStr s).length=32:=Qav (by omega)
 have hF:=hid (Qsv h s hl hs)
 have hpf:=Qpg h s hl
 have hT:=hid (fun B d g (w:World) hk hp=>Qr7 (some ⟨g,32,none⟩) 32 2 d B (kStr s) [subB h 48 240,QCn 48 0] w hk hp (by omega) (by rw[hpf.1];omega))
 rw[hpf.1,hpf.2]at hT
 have hpl:=QeF h s hl
 have hD:=hid (fun A c (w:World) h1 h2=>QmU A c ((QbQ h s).take 32) w h1 h2)
 have hE:Hid (QeC h s=if QiK h s=false then 6 else if decE ((QbQ h s).take 32)≠0 then 3 else if (decC ((QbQ h s).take 32)).kd=1 then Qna s else 0):=hid rfl
 have hC:Hid (QgW h s=if QeC h s=0 then decC ((QbQ h s).take 32) else cmd0):=hid rfl
 have hN:Hid (QiJ h s=if QeC h s=0∧(decC ((QbQ h s).take 32)).kd=1 then QgD s++(QbQ h s).drop 32 else QCn 288 0):=hid rfl
 have hX:=hid (fun (w:World)=>Qt5 s (kBli s) (kAlp s) hs rfl rfl w)
 have hput:=hid (QuI (QgD s) (QbQ h s) (QbF _ _) hpl)
 have hXb:Hid (QcQ (kBli s) (kAlp s)=QgD s∧Qbt (kBli s) (kAlp s)=Qna s):=hid ⟨rfl,rfl⟩
 rw[hXb.out.1,hXb.out.2]at hX
 have nbl:(QgD s).length=32:=QbF _ _
 have hb0:=QfL
 have hbh:=Qql
 clear hpf hXb
 generalize QgW h s=OC at *
 generalize QiJ h s=ON at *
 generalize QeC h s=OE at *
 generalize QiK h s=F at *
 generalize QbQ h s=pl at *
 generalize decE (pl.take 32)=dE at *
 generalize decC (pl.take 32)=dC at *
 generalize Qna s=nE at *
 generalize QgD s=nb at *
 have hnbl:=nbl
 generalize QCn 288 (0:UInt8)=Z at *
 have hzl:(Z.map W8).length=288:=by rw[QCt];exact l0
 have hz0:cz0.length=20:=rfl
 go_enter Tryz.func57,Tryz.ntmps57
 go_wp2_with (first
  | (refine Qo1 rfl _ rfl (C4.nth 3 rfl) hl rfl ?_)
  | (refine Qks rfl _ rfl (C4.nth 2 rfl) hs rfl ?_)
  | fail)
 (with_reducible refine (hF.out _).mono ?_);rintro e w5 ⟨rfl,l5⟩
 replace C4:=C4.later l5
 clear l5 hF
 cases F
 ·have HE:=hE.out
  rw[if_pos rfl]at HE
  have HC:=hC.out
  rw[HE,if_neg (by decide)]at HC
  have HN:=hN.out
  rw[HE,if_neg (by simp)]at HN
  replace HE:=hid HE
  replace HC:=hid HC
  replace HN:=hid HN
  clear hE hC hN
  go_wp2_with (first
   | (refine Qah rfl 98 _ rfl (CC cmd0) (by simp only[QCA,QCC];exact hb0) ?_)
   | (refine Qah rfl 82 _ rfl (Z.map W8) (by simp only[QCA,QCC];exact hbh) ?_)
   | (refine QbJ rfl rfl _ _ rfl (C4.nth 1 rfl) rfl rfl hz0 ?_;intro w6 hb6 ho6
      have C5:=C4.write 1 rfl ho6 hb6)
   | (refine QeQ rfl rfl _ _ rfl (C5.nth 0 rfl) rfl rfl l0 hzl ?_;intro w7 hb7 ho7
      have C6:=C5.write 0 rfl ho7 hb7)
   | fail)
  exact bodyPost_ret (Qcc rfl _ _ _ _ _ _ _ _ _ _ (C6.nth 1 rfl) rfl Tryz.underlying98 rfl (by rw[Qam];exact Qdx) (C6.nth 0 rfl) rfl Tryz.underlying82 rfl (by rw[QCt,l0];exact Qdu)) rfl ⟨by rw[HE.out,HC.out,HN.out];rfl,C6.lat⟩
 ·replace hE:Hid (OE=if dE≠0 then 3 else if dC.kd=1 then nE else 0):=hid (by rw[hE.out,if_neg (by decide)])
  go_wp2_with fail
  have C5:=C4.drew
  clear C4
  refine Qad [([0,1,2,3,4],5),([],6),([],7)] [8,9,10,11,12] [] (by as_aux_lemma=>kernel_rfl) (by as_aux_lemma=>kernel_rfl) (by intro _ _ d _ _ h;cases d<;>exact h) ?_
  simp only[Qai,pick,QCo,QCp,QCq,QCr,QCs]
  repeat (go_big_quiet_step (fail))
  refine wpQuiet_nil ?_
  go_wp2_with (first
   | (refine QaH rfl _ _ _ rfl 5 _ 1 Tryz.underlying32 QbW rfl _ _ _ _ 48 rfl rfl rfl rfl (by omega) (by omega) ?_;intro w6 hb6 hl6)
   | fail)
  try refine⟨by first|assumption|exact Qab _|exact Qaa _ _|exact Later.refl _,?_⟩
  try simp only[Qai,pick,QCo,QCp,QCq,QCr,QCs]
  repeat (go_big_quiet_step (fail))
  refine wpQuiet_nil ?_
  have C6:=C5.later hl6
  go_wp2_with fail
  try refine⟨by first|assumption|exact Qab _|exact Qaa _ _|exact Later.refl _,?_⟩
  try simp only[Qai,pick,QCo,QCp,QCq,QCr,QCs]
  repeat (go_big_quiet_step (fail))
  refine wpQuiet_nil ?_
  have l7:=Qaa w6 (.cells #[.slice (some ⟨w.heap.size,48,none⟩) 240 240,.slice (some ⟨w5.drew.heap.size,0,none⟩) 48 48] 32)
  have C7:=C6.later l7
  have P7:=Qie (bad:=fun _=>False) (ps:=[subB h 48 240,QCn 48 0]) ((Blk.new w6 32 [.slice (some ⟨w.heap.size,48,none⟩) 240 240,.slice (some ⟨w5.drew.heap.size,0,none⟩) 48 48]).rd rfl) (Qcr _ _) ⟨QeL (QcT (C7.nth 3 rfl) rfl s2) (QCx _),QeL (show RdB _ (some ⟨w5.drew.heap.size,0,none⟩) 48 (QCn 48 0) from (hb6.later l7).rd rfl) (QCx _),trivial⟩
  have hk7:=QcT (C7.nth 2 rfl) rfl k1
  go_wp2_with fail
  (refine (hT.out _ _ _ _ hk7 P7).mono ?_);rintro e w8 ⟨A8,c8,rfl,o8,l8⟩
  obtain⟨g8,r8,rfl,hg8,hb8,hc8,hcc8⟩:=QfB o8 (by omega)
  have C8:=C7.fresh l8 hg8 hb8
  clear C5 C6 C7 P7 hk7 l7 hl6 hb6 hT o8 hb8 hg8 hc8
  go_wp2_with fail
  try refine⟨by first|assumption|exact Qab _|exact Qaa _ _|exact Later.refl _,?_⟩
  try simp only[Qai,pick,QCo,QCp,QCq,QCr,QCs]
  repeat (go_big_quiet_step (fail))
  refine wpQuiet_nil ?_
  go_wp2_with fail
  (refine (hD.out _ _ _ ((QdA (C8.nth 0 rfl) hpl).take (m:=32) (by omega)) (by omega)).mono ?_);rintro e w9 ⟨rfl,l9⟩
  have C9:=C8.later l9
  clear C8 l9 hD
  by_cases hd0:dE=0
  ·subst hd0
   replace hE:Hid (OE=if dC.kd=1 then nE else 0):=hid (by rw[hE.out,if_neg (by simp)])
   cases hk1:(dC.kd==1)
   ·have hkn: ¬dC.kd=1:=by simpa using hk1
    have n1:(dC.kd != 1)=true:=by rw[bne,hk1];rfl
    have HE:OE=0:=by rw[hE.out,if_neg hkn]
    have HC:OC=dC:=by rw[hC.out,HE,if_pos rfl]
    have HN:ON=Z:=by rw[hN.out,if_neg (fun h=>hkn h.2)]
    replace HE:=hid HE
    replace HC:=hid HC
    replace HN:=hid HN
    clear hE hC hN hkn
    go_wp2_with (first
     | (refine QbJ rfl rfl _ _ rfl (Blk.new w9 _ cz0) rfl rfl rfl ?_;intro w10 hb10 ho10
        have C10:=C9.push (Qaa _ _) (QCx _) ho10 hb10
        have hc0:=(QdK hb10).1)
     | (refine Qep rfl _ rfl (C10.nth 0 rfl) rfl ?_)
     | (refine Qah rfl 82 _ rfl (Z.map W8) (by simp only[QCA,QCC];exact hbh) ?_)
     | (refine QbJ rfl rfl _ _ rfl (C10.nth 3 rfl) rfl rfl hz0 ?_;intro w11 hb11 ho11
        have C11:=C10.write 3 rfl ho11 hb11)
     | (refine QeQ rfl rfl _ _ rfl (C11.nth 2 rfl) rfl rfl l0 hzl ?_;intro w12 hb12 ho12
        have C12:=C11.write 2 rfl ho12 hb12)
     | fail)
    exact bodyPost_ret (Qcc rfl _ _ _ _ _ _ _ _ _ _ (C12.nth 3 rfl) rfl Tryz.underlying98 rfl (by rw[Qam];exact Qdx) (C12.nth 2 rfl) rfl Tryz.underlying82 rfl (by rw[QCt,l0];exact Qdu)) rfl ⟨by rw[HE.out,HC.out,HN.out];rfl,C12.lat⟩
   ·have hky:dC.kd=1:=by simpa using hk1
    have n1:(dC.kd != 1)=false:=by rw[bne,hk1];rfl
    replace hE:Hid (OE=nE):=hid (by rw[hE.out,if_pos hky])
    have l1:(putB Z 0 nb).length=288:=by rw[Qca (by omega)];exact l0
    have l2:(putB (putB Z 0 nb) 32 ((pl.drop 32).take 16)).length=288:=by rw[Qca (by rw[QCP,QCS];omega)];exact l1
    have e3:((pl.drop 48).take 240)=pl.drop 48:=QCE (by rw[QCS];omega)
    have HNL:(nb++pl.drop 32).length=288:=by rw[QCB,QCS];omega
    replace e3:=hid e3
    generalize hZ2:putB (putB Z 0 nb) 32 ((pl.drop 32).take 16)=Z2 at *
    generalize hZ1:putB Z 0 nb=Z1 at *
    replace hZ1:=hid hZ1
    replace hZ2:=hid hZ2
    replace hky:=hid hky
    go_wp2_with (first
     | (refine QbJ rfl rfl _ _ rfl (Blk.new w9 _ cz0) rfl rfl rfl ?_;intro w10 hb10 ho10
        have C10:=C9.push (Qaa _ _) (QCx _) ho10 hb10
        have hc0:=(QdK hb10).1)
     | (refine Qks rfl _ rfl ((C10.later (Qaa _ _)).nth 4 rfl) hs rfl ?_)
     | fail)
    (with_reducible refine (hX.out _).mono ?_);rintro e w11 ⟨rfl,l11⟩
    have C11:=(C10.fresh (Qaa _ _) (QCx _) ((Blk.new w10 _ Tryz.zeroCells82.toList).cast HZ.out)).later l11
    clear hb10 ho10 l11 C10 C9
    have hc0':=(QdK (C11.nth 1 rfl)).1
    by_cases hn0:nE=0
    ·subst hn0
     have HE:=hE.out
     have HC:OC=dC:=by rw[hC.out,HE,if_pos rfl]
     have HN:ON=nb++pl.drop 32:=by rw[hN.out,if_pos ⟨HE,hky.out⟩]
     replace HE:=hid HE
     replace HC:=hid HC
     replace HN:=hid HN
     clear hE hC hN
     generalize nb++pl.drop 32=NX at *
     have hNX:=hid (QhK NX 288 HNL)
     go_wp2_with (first
      | (refine Qg2 0 32 rfl rfl _ _ rfl (C11.nth 0 rfl) rfl rfl QcZ hnbl (by omega) ?_;intro w12 hb12 ho12;rw[hZ1.out]at hb12
         have C12:=C11.write 0 rfl ho12 hb12)
      | fail)
     have C13:=C12.drew
     clear C11 C12 hb12 ho12
     have r32:=QkP (k:=32) (C13.nth 2 rfl) hpl (by omega)
     refine Qad [] [0,1,2,3] [4] (by as_aux_lemma=>kernel_rfl) (by as_aux_lemma=>kernel_rfl) (by intro _ _ d _ _ h;cases d<;>exact h) ?_
     simp only[Qai,pick,QCo,QCp,QCq,QCr,QCs]
     repeat (go_big_quiet_step (fail))
     refine wpQuiet_nil ?_
     go_wp2_with (first
      | (refine Qax rfl _ _ _ _ rfl 5 Tryz.underlying32 QbR w10.heap.size 32 16 16 _ _ (C13.nth 0 rfl) (some ⟨g8,32,none⟩) 256 (c8-32) ((pl.drop 32).map W8) r32 (QaE _) rfl rfl (by rw[QCt];omega) ?_;intro w14 hb14 ho14;rw[←QDB,QcS,hZ2.out]at hb14
         have C14:=C13.write 0 rfl ho14 hb14)
      | fail)
     have C15:=C14.drew
     simp only[Act.put,QCw,QCz,QCy]
     have r48:=QkP (k:=48) (C15.nth 2 rfl) hpl (by omega)
     refine Qad [] [0,1,2,3] [4] (by as_aux_lemma=>kernel_rfl) (by as_aux_lemma=>kernel_rfl) (by intro _ _ d _ _ h;cases d<;>exact h) ?_
     simp only[Qai,pick,QCo,QCp,QCq,QCr,QCs]
     repeat (go_big_quiet_step (fail))
     refine wpQuiet_nil ?_
     go_wp2_with (first
      | (refine Qax rfl _ _ _ _ rfl 5 Tryz.underlying32 QbR w10.heap.size 48 240 240 _ _ (C15.nth 0 rfl) (some ⟨g8,48,none⟩) 240 (c8-48) ((pl.drop 48).map W8) r48 (QaE _) rfl rfl (by rw[QCt];omega) ?_;intro w16 hb16 ho16;rw[←QDB,QcS,e3.out,hput.out]at hb16
         have C16:=C15.write 0 rfl ho16 hb16)
      | fail)
     simp only[Act.put,QCw,QCz,QCy]
     clear hb14 ho14 hb16 ho16 C13 C14 C15 r32 r48
     have hne03:=C16.ne 0 4 rfl rfl (by decide)
     refine Qdd [0,1] [2,3,4] (fun i=>if i=1 then [2] else []) (fun i=>if i=2 then w.heap.size+2 else w.heap.size+3) (by as_aux_lemma=>kernel_rfl) (by as_aux_lemma=>kernel_rfl) (by intro _ _ d _ _ h;cases d<;>exact h) ?_
     refine⟨_,rfl,rfl,?_⟩
     refine QcN _ _ rfl 0 (CC dC) (C16.nth 1 rfl) (by simp) rfl (Qe1 _) _ Tryz.underlying98 rfl (by rw[Qam];exact Qdx) ?_
     simp only[Act.put,QCw,QCz,QCy]
     refine⟨_,rfl,rfl,?_⟩
     refine QcN _ _ rfl 0 (NX.map W8) (C16.nth 0 rfl) (by intro b hb;simp at hb;subst hb;exact hne03) rfl (Qe1 _) _ Tryz.underlying82 rfl (by rw[QCt,HNL];exact Qdu) ?_
     simp only[Act.put,QCw,QCz,QCy]
     simp only[Qiw,Qge,pick,QCo,QCp,QCq,QCr,QCs]
     refine QbJ rfl rfl _ _ rfl (C16.drew.nth 4 rfl) rfl rfl hz0 ?_
     intro w17 hb17 ho17
     have C17:=C16.drew.write 4 rfl ho17 hb17
     refine⟨ho17,?_⟩
     refine QeQ rfl rfl _ _ rfl (C17.nth 3 rfl) rfl rfl HNL hzl ?_
     intro w18 hb18 ho18
     have C18:=C17.write 3 rfl ho18 hb18
     refine⟨ho18,?_⟩
     go_wp2_with fail
     refine⟨World.grownBy.refl _ _,?_⟩
     go_wp2_with fail
     exact bodyPost_ret (Qcc rfl _ _ _ _ _ _ _ _ _ _ (C18.nth 4 rfl) rfl Tryz.underlying98 rfl (by rw[Qam];exact Qdx) (C18.nth 3 rfl) rfl Tryz.underlying82 rfl (by rw[QCt,HNL];exact Qdu)) rfl ⟨by rw[HE.out,HC.out,HN.out];rfl,C18.lat⟩
    ·have hne:((nE:Int) != 0)=true:=by simp;omega
     have HE:=hE.out
     have HC:OC=cmd0:=by rw[hC.out,HE,if_neg hn0]
     have HN:ON=Z:=by rw[hN.out,HE,if_neg (fun h=>hn0 h.1)]
     replace HE:=hid HE
     replace HC:=hid HC
     replace HN:=hid HN
     clear hE hC hN
     go_wp2_with (first
      | (refine Qg2 0 32 rfl rfl _ _ rfl (C11.nth 0 rfl) rfl rfl QcZ hnbl (by omega) ?_;intro w12 hb12 ho12;rw[hZ1.out]at hb12
         have C12:=C11.write 0 rfl ho12 hb12)
      | (refine Qah rfl 98 _ rfl (CC cmd0) (by simp only[QCA,QCC];exact hb0) ?_)
      | (refine Qah rfl 82 _ rfl (Z.map W8) (by simp only[QCA,QCC];exact hbh) ?_)
      | (refine QbJ rfl rfl _ _ rfl (C12.nth 4 rfl) rfl rfl hz0 ?_;intro w13 hb13 ho13
         have C13:=C12.write 4 rfl ho13 hb13)
      | (refine QeQ rfl rfl _ _ rfl (C13.nth 3 rfl) rfl rfl l0 hzl ?_;intro w14 hb14 ho14
         have C14:=C13.write 3 rfl ho14 hb14)
      | fail)
     exact bodyPost_ret (Qcc rfl _ _ _ _ _ _ _ _ _ _ (C14.nth 4 rfl) rfl Tryz.underlying98 rfl (by rw[Qam];exact Qdx) (C14.nth 3 rfl) rfl Tryz.underlying82 rfl (by rw[QCt,l0];exact Qdu)) rfl ⟨by rw[HE.out,HC.out,HN.out];rfl,C14.lat⟩
  ·have HE:OE=3:=by rw[hE.out,if_pos hd0]
   have HC:OC=cmd0:=by rw[hC.out,HE,if_neg (by decide)]
   have HN:ON=Z:=by rw[hN.out,HE,if_neg (by simp)]
   have hne:((dE:Int) != 0)=true:=by simp;omega
   replace HE:=hid HE
   replace HC:=hid HC
   replace HN:=hid HN
   clear hE hC hN
   go_wp2_with (first
    | (refine QbJ rfl rfl _ _ rfl (Blk.new w9 _ cz0) rfl rfl rfl ?_;intro w10 hb10 ho10
       have C10:=C9.push (Qaa _ _) (QCx _) ho10 hb10)
    | (refine Qah rfl 98 _ rfl (CC cmd0) (by simp only[QCA,QCC];exact hb0) ?_)
    | (refine Qah rfl 82 _ rfl (Z.map W8) (by simp only[QCA,QCC];exact hbh) ?_)
    | (refine QbJ rfl rfl _ _ rfl (C10.nth 3 rfl) rfl rfl hz0 ?_;intro w11 hb11 ho11
       have C11:=C10.write 3 rfl ho11 hb11)
    | (refine QeQ rfl rfl _ _ rfl (C11.nth 2 rfl) rfl rfl l0 hzl ?_;intro w12 hb12 ho12
       have C12:=C11.write 2 rfl ho12 hb12)
    | fail)
   exact bodyPost_ret (Qcc rfl _ _ _ _ _ _ _ _ _ _ (C12.nth 3 rfl) rfl Tryz.underlying98 rfl (by rw[Qam];exact Qdx) (C12.nth 2 rfl) rfl Tryz.underlying82 rfl (by rw[QCt,l0];exact Qdu)) rfl ⟨by rw[HE.out,HC.out,HN.out];rfl,C12.lat⟩
theorem Qvt (b:List UInt8) (h:b.length=768):putB (b.take 288++QCn 480 0) 288 ((b.drop 288).take 480)=b:=by
 rw[QdQ _ _ _ 288 (by rw[QCP];omega) (by rw[QCJ,QCP,QCS];omega),QCE (l:=b.drop 288) (by rw[QCS];omega),QC3]
set_option maxRecDepth 100000 in
set_option maxHeartbeats 4000000 in
theorem QpZ (A:Option Addr) (c:Nat) (b:List UInt8) (w:World) (hb:RdB w A 768 b) (hc:768≤c):
 Calls Tryz.prog 22 #[.slice A 768 c] w fun e w'=>e= .returned (.tuple #[.agg (b.map W8).toArray,.int .i64 0])∧Later w w':=by
 have hbl:=hb.len
 obtain⟨b0,p,rfl,hb00,_⟩:=hb.2 (by omega)
 have HZ:=hid zcP
 have HH:=hid zcH
 have B0:Bag w (w.alloc (.cells Tryz.zeroCells85 85)) [(w.heap.size,85,(QCn 768 (0:UInt8)).map W8)]:=(Bag.none w).add (Qaa _ _) (by simp) (QCx _) ((Blk.new w _ Tryz.zeroCells85.toList).cast zcP)
 have l0:((QCn 768 (0:UInt8)).map W8).length=768:=by rw[QCt,QCJ]
 have lh:((QCn 288 (0:UInt8)).map W8).length=288:=by rw[QCt,QCJ]
 have hhl:(b.take 288).length=288:=by rw[QCP];omega
 have hH:=hid (fun (w:World) h=>Qpf (some ⟨b0,p,none⟩) c (b.take 288) w h (by omega))
 have hp1:=Qpu (b.take 288) hhl
 have hp1l:(b.take 288++QCn 480 (0:UInt8)).length=768:=by rw[QCB,hhl,QCJ]
 have hput:=hid (Qvt b hbl)
 have h288:Hid (∀ w,RdB w (some ⟨b0,p,none⟩) 768 b→RdB w (some ⟨b0,p+288,none⟩) 480 (b.drop 288)):=hid (fun w h=>by
  have:=RdB.cut h (k:=288) (c:=769) (by omega) (by omega)
  rw[show cutA (some ⟨b0,p,none⟩) 288 769=some ⟨b0,p+288,none⟩ by rw[cutA,if_neg (by omega)];rfl]at this
  exact this)
 have hcc:cutA (some ⟨b0,p,none⟩) 288 c=some ⟨b0,p+288,none⟩:=by rw[cutA,if_neg (by omega)];rfl
 have HT:Hid (∀ w,RdB w (some ⟨b0,p,none⟩) 768 b→RdB w (some ⟨b0,p,none⟩) 288 (b.take 288)):=hid (fun w h=>RdB.take h (by omega))
 generalize QCn 768 (0:UInt8)=Z at *
 generalize QCn 288 (0:UInt8)=ZH at *
 generalize b.take 288++QCn 480 (0:UInt8)=P1 at *
 generalize b.take 288=hd at *
 go_enter Tryz.func22,Tryz.ntmps22
 go_wp2_with fail
 generalize hW:w.alloc _=w1
 replace B0:Bag w w1 [(w.heap.size,85,Z.map W8)]:=by rw[←hW];exact B0
 clear hW
 (with_reducible refine (hH.out _ (HT.out _ (hb.later B0.lat))).mono ?_);rintro e w2 ⟨rfl,l2⟩
 replace B0:=B0.later l2
 go_wp2_with (first
  | (refine QeQ rfl rfl _ _ rfl ((Blk.new w2 _ Tryz.zeroCells82.toList).cast HH.out) rfl rfl hhl lh ?_;intro w3 hb3 ho3
     have B1:=B0.push (Qaa _ _) (QCx _) ho3 hb3)
  | (refine Qo1 rfl _ rfl (B1.nth 0 rfl) hhl rfl ?_)
  | (refine Qah rfl 85 _ rfl (P1.map W8) (by simp only[QCA,QCR,QCC];exact hp1) ?_)
  | (refine QgG rfl rfl _ _ rfl ((Blk.new w3 _ Tryz.zeroCells85.toList).cast HZ.out) rfl rfl hp1l l0 ?_;intro w4 hb4 ho4
     have B2:=B1.push (Qaa _ _) (QCx _) ho4 hb4)
  | fail)
 have B3:=B2.drew
 have hlb:b0<w4.drew.heap.size:=QCM hb00 B3.lat.size
 refine Qad [] [0,1,2,3] [4] (by as_aux_lemma=>kernel_rfl) (by as_aux_lemma=>kernel_rfl) (by intro _ _ d _ _ h;cases d<;>exact h) ?_
 simp only[Qai,pick,QCo,QCp,QCq,QCr,QCs]
 repeat (go_big_quiet_step (fail))
 refine wpQuiet_nil ?_
 go_wp2_with (first
  | (refine Qax rfl _ _ _ _ rfl 5 Tryz.underlying32 QbR w3.heap.size 288 480 480 _ _ (B3.nth 0 rfl) (some ⟨b0,p+288,none⟩) 480 (c-288) ((b.drop 288).map W8) (h288.out _ (hb.later B3.lat)) (QaE _) rfl rfl (by rw[QCt];omega) ?_;intro w5 hb5 ho5;rw[←QDB,QcS,hput.out]at hb5
     have B4:=B3.write 0 rfl ho5 hb5)
  | (refine QsE rfl _ rfl (B4.nth 0 rfl) hbl rfl ?_)
  | (refine QgG rfl rfl _ _ rfl (B4.nth 2 rfl) rfl rfl hbl l0 ?_;intro w6 hb6 ho6)
  | fail)
 exact bodyPost_ret (Qae rfl _ _ _ _ _ _ hb6 rfl Tryz.underlying85 rfl (by rw[QCt,hbl];exact Qhg)) rfl ⟨rfl,(B4.write 2 rfl ho6 hb6).lat⟩
theorem Qkt:(Tryz.prog.info? 100).map (·.size)=some 20:=by kernel_rfl
theorem QBk:(Tryz.prog.info? 100).bind (·.zero)=some (.agg (CC cmd0).toArray):=by kernel_rfl
theorem QpW (c:Cmd):Tryz.prog.built 100 [(0,.agg (CC c).toArray)]=some (CC c).toArray:=by
 rw[QaO (pl:=[(0,20)]) Tryz.underlying100 QBk (by kernel_rfl),QaS (vs:=CC c) (off:=0) rfl (by rw[Qam];rfl) (by rw[Qam,Qam];omega),QbM,Qao _ _ (by rw[Qam,Qam])]
def PC (c:Cmd) (P:List UInt8) (v:Value):List Value:=CC c++(P.map W8++[v])
def nil8:Value:=.slice none 0 0
def z768:List UInt8:=QCn 768 0
theorem QaY:z768.length=768:=QCJ
theorem QbU (c:Cmd) {P:List UInt8} (h:P.length=768) (v:Value):(PC c P v).length=789:=by
 rw[PC,QCB,QCB,Qam,QCt,h]
 rfl
theorem Qzn (c:Cmd) (P:List UInt8) {v:Value} (h:v.oneCell'=true):∀u∈PC c P v,u.oneCell'=true:=by
 intro u hu
 rw[PC]at hu
 rcases QDc.1 hu with hu|hu
 ·exact QsI c u hu
 ·rcases QDc.1 hu with hu|hu
  ·exact QaE P u hu
  ·rw[QDH.1 hu];exact h
theorem Qf8:(Tryz.prog.info? 102).map (·.size)=some 789:=by kernel_rfl
theorem Qwd:(Tryz.prog.info? 102).bind (·.zero)=some (.agg (PC cmd0 z768 nil8).toArray):=by
 rw[PC,z768,QC8]
 kernel_rfl
theorem zcPe:Tryz.zeroCells102.toList=PC cmd0 z768 nil8:=by
 rw[PC,z768,QC8]
 kernel_rfl
theorem Qlw:Tryz.prog.built 102 []=some (PC cmd0 z768 nil8).toArray:=by
 rw[QaO (pl:=[(0,20),(20,768),(788,1)]) Tryz.underlying102 Qwd (by kernel_rfl),QbM]
theorem Ql2 {A B vs:List Value} (h:vs.length=A.length):Qau (A++B) 0 vs=vs++B:=by
 rw[Qau,QEm,QCs,QCI,h,List.drop_left]
theorem Qsh (c:Cmd):Tryz.prog.built 102 [(0,.agg (CC c).toArray)]=some (PC c z768 nil8).toArray:=by
 rw[QaO (pl:=[(0,20),(20,768),(788,1)]) Tryz.underlying102 Qwd (by kernel_rfl),QaS (vs:=CC c) (off:=0) rfl (by rw[Qam];rfl) (by rw[Qam,QbU _ QaY];omega),QbM,PC,PC,Ql2 (by rw[Qam,Qam])]
theorem QkY (c:Cmd) (P:List UInt8) (v:Value):∀j u,(CC c)[j]?=some u→(PC c P v)[0+j]?=some u:=fun j u h=>by
 rw[QCI,PC,QCD (QCK.1 h).1]
 exact h
theorem Qzq (c:Cmd) (P:List UInt8) (v:Value):∀j u,(P.map W8)[j]?=some u→(PC c P v)[20+j]?=some u:=fun j u h=>by
 rw[PC,QCF (by rw[Qam];omega),Qam,Nat.add_sub_cancel_left,QCD (QCK.1 h).1]
 exact h
theorem Qxh (c:Cmd) {P:List UInt8} (h:P.length=768) (v:Value):(PC c P v)[788]?=some v:=by
 rw[PC,QCF (by rw[Qam];omega),Qam,QCF (by rw[QCt,h];omega),QCt,h]
 rfl
theorem Qyu (c:Cmd) {P:List UInt8} (h:P.length=768) (v v':Value):(PC c P v).set 788 v'=PC c P v':=by
 rw[PC,QCX _ _ (by rw[Qam];omega),Qam,QCX _ _ (by rw[QCt,h];omega),QCt,h]
 rfl
theorem QrA (c:Cmd) {P vs:List UInt8} (v:Value) (k:Nat) (h:k+vs.length≤P.length):Qau (PC c P v) (20+k) (vs.map W8)=PC c (putB P k vs) v:=by
 have hc:=Qam c
 rw[PC,PC,←QcS,Qau,Qau,List.take_append,hc,QCE (by omega),Nat.add_sub_cancel_left,QDk (by rw[QCt];omega),QEh,hc,List.drop_eq_nil_of_le (by omega),QCs,QCt,show 20+k+vs.length-20=k+vs.length by omega,QDu (by rw[QCt];omega)]
 simp only[QCL]
section
variable {ops:Array Oper} {rest:List Oper} {o:Oper} {a:Act} {w:World} {Q:Exit→Act→World→Prop}
theorem Qd7 (hgd:o.guard=none) (hd:o.dst=none) (x y:Operand) (ho:o.op= .store 102 x y) {g:Nat} {t:TypeId} {l:List Value} {c:Cmd} {P:List UInt8} {v:Value} (hg:Blk w g t l) (hx:a.eval x= .pointer (some ⟨g,0,none⟩)) (hy:a.eval y= .agg (PC c P v).toArray) (hP:P.length=768) (hv:v.oneCell'=true) (hl:l.length=789)
 (h:∀w',Blk w' g t (PC c P v)→Only g w w'→wpList Tryz.prog ops Q rest a w'):wpList Tryz.prog ops Q (o :: rest) a w:=
 Qaf hgd hd _ x y ho g t l _ hg hx hy 789 Qf8 (QbU c hP v) hl (Qzn c P hv) h
theorem Qtb (hw:Region.wanted o (yielded ops a.tmps)=true) (x:Operand) (ho:o.op= .load 102 x) {g:Nat} {t:TypeId} {c:Cmd} {P:List UInt8} {v:Value} (hb:Blk w g t (PC c P v)) (hP:P.length=768) (hx:a.eval x= .pointer (some ⟨g,0,none⟩))
 (h:wpList Tryz.prog ops Q rest (a.put o.dst (.agg (PC c P v).toArray)) w):wpList Tryz.prog ops Q (o :: rest) a w:=
 Qal hw _ x ho g 0 _ (fun j v hv=>by rw[QCI];exact hb.cellD j hv) hx _ Tryz.underlying102 rfl (by rw[QbU c hP];exact Qf8) h
theorem Qtj (hw:Region.wanted o (yielded ops a.tmps)=true) (x:Operand) (ho:o.op= .load 100 x) {g:Nat} {t:TypeId} {c:Cmd} {P:List UInt8} {v:Value} (hb:Blk w g t (PC c P v)) (hx:a.eval x= .pointer (some ⟨g,0,none⟩))
 (h:wpList Tryz.prog ops Q rest (a.put o.dst (.agg (CC c).toArray)) w):wpList Tryz.prog ops Q (o :: rest) a w:=
 Qal hw _ x ho g 0 _ (fun j v hv=>hb.cellD _ (QkY _ _ _ j v hv)) hx _ Tryz.underlying100 rfl (by rw[Qam];exact Qkt) h
end
set_option maxRecDepth 100000 in
theorem Qn4 (c:Cmd) (w:World):Calls Tryz.prog 29 #[.agg (CC c).toArray] w fun e w'=>e= .returned (.bool (!(c.kd==1)))∧Later w w':=by
 have hb:Blk (w.alloc (.cells (CC c).toArray 100)) w.heap.size 100 (CC c):=Blk.new _ _ _
 have c0:=(QdK hb).1
 have n1:(c.kd != 1)= !(c.kd==1):=rfl
 go_enter Tryz.func29,Tryz.ntmps29
 go_wp2
 go_ret
 exact⟨rfl,Qaa _ _⟩
set_option maxRecDepth 100000 in
theorem QuJ (c:Cmd) (w:World):Calls Tryz.prog 28 #[.agg (CC c).toArray] w fun e w'=>e= .returned (.int .i64 (c.dl.toNat:Nat))∧Later w w':=by
 have hb:Blk (w.alloc (.cells (CC c).toArray 100)) w.heap.size 100 (CC c):=Blk.new _ _ _
 have c0:=(QdK hb).2.2.1
 have hw:IntKind.i64.wrap (c.dl.toNat:Int)=(c.dl.toNat:Int):=by
  have:=c.dl.toNat_lt
  simp only[IntKind.wrap,IntKind.bits,IntKind.signed]
  simp
  omega
 go_enter Tryz.func28,Tryz.ntmps28
 go_wp2
 go_ret
 exact⟨rfl,Qaa _ _⟩
theorem QhW (s p:List UInt8) (hp:p.length=768) (hs:s.length=192):(relP s p).length=768:=by
 have h1:(p.take 288).length=288:=by rw[QCP];omega
 have hf:fitW (kPay s) (p.drop 288):=⟨Qav (by omega),by rw[QCS];omega,by rw[QCS];omega⟩
 unfold relP
 split
 ·rw[QCB,Qfj _ _ h1,QcR,QgI okO hf,Qde _ _ _ hf.2.1,QCS,hp]
 ·exact QCJ
theorem Qeo (s p:List UInt8) (hp:p.length=768) (hs:s.length=192):(QcR s p).length=480:=by
 have hf:fitW (kPay s) (p.drop 288):=⟨Qav (by omega),by rw[QCS];omega,by rw[QCS];omega⟩
 rw[QcR,QgI okO hf,Qde _ _ _ hf.2.1,QCS,hp]
theorem QoV (p:List UInt8) (k n:Nat) (h:p.length=k+n):subB p k n=p.drop k:=by rw[subB,QCE (by rw[QCS];omega)]
theorem QxZ (hd bd:List UInt8) (h1:hd.length=288) (h2:bd.length=480):putB (putB z768 0 hd) 288 (bd.take 480)=hd++bd:=by
 rw[QCE (by omega),z768,show QCn 768 (0:UInt8)=QCn 288 0++QCn 480 0 by rw[QDz],Qc9 _ _ _ (by rw[QCJ,h1]),QdQ _ _ _ 288 h1 (by rw[QCJ,h2])]
theorem Qo6 {w:World} {base g n c:Nat} {bs:List UInt8} {rest:List Value} (h:Blk w g 5 (bs.map W8++rest)) (hb:base≤g) (hn:bs.length=n) (hc:c=(bs.map W8++rest).length) (hm:(bs.map W8++rest).length≤maxLen):OwnB w base (some ⟨g,0,none⟩) n c bs:=by
 subst hc
 have:=QsX h hb hm
 rw[QCt,hn]at this
 exact this
theorem Qru {w:World} {base n c:Nat} {A:Option Addr} {bs:List UInt8} {l:List Value} (h:OwnB w base A n c bs) (hc:c=l.length):l.length≤maxLen:=by
 subst hc
 rcases h.2 with ⟨hv,_⟩|⟨g,cap,cur,hv,_,_,_,hm,_⟩
 ·injection hv with _ _ h3
  omega
 ·injection hv with _ _ h3
  omega
set_option maxRecDepth 100000 in
set_option maxHeartbeats 8000000 in
theorem Qtn (s p:List UInt8) (hp:p.length=768) (hs:s.length=192) (w:World):
 Calls Tryz.prog 42 #[.agg (s.map W8).toArray,.agg (p.map W8).toArray] w fun e w'=>∃A' c',e= .returned (.tuple #[.agg (PC (relC s p) (relP s p) (.slice A' (relB s p).length c')).toArray,.int .i64 (relE s p:Nat)])∧OwnB w' w.heap.size A' (relB s p).length c' (relB s p)∧Later w w':=by
 have HZ:=hid zcPe
 have HH:=hid zcH
 have C1:=Qa8 w 134 (s.map W8)
 have C2:=C1.add (Qaa _ (.cells (p.map W8).toArray 85)) (k:=w.heap.size+1) (by simp) (by omega) (Blk.new' _ _ _ (by simp))
 have C3:=C2.add (Qaa _ (.cells Tryz.zeroCells102 102)) (k:=w.heap.size+2) (by simp) (by omega) ((Blk.new' _ _ Tryz.zeroCells102.toList (by simp)).cast HZ.out)
 clear C1 C2
 have hdl:(p.take 288).length=288:=by rw[QCP];omega
 have k2:(kPay s).length=32:=Qav (by omega)
 have bl:(p.drop 288).length=480:=by rw[QCS];omega
 have hO:=hid (QsA (p.take 288) s hdl hs)
 have hf:fitW (kPay s) (p.drop 288):=⟨k2,by omega,by omega⟩
 have hWi:=hid (fun A B c d (w:World) h1 hc h2 hd=>Qsp A B 32 c 480 d (kPay s) (p.drop 288) w h1 hc h2 hd (by omega) (by omega))
 rw[QgB okO hf]at hWi
 have hBl:=Qeo s p hp hs
 have hst:=hid (QoV p 288 480 hp)
 have hE:Hid (relE s p=QeC (p.take 288) s):=hid rfl
 have hC:Hid (relC s p=QgW (p.take 288) s):=hid rfl
 have hP:Hid (relP s p=if relE s p=0∧(relC s p).kd=1 then QiJ (p.take 288) s++QcR s p else z768):=hid rfl
 have hB:Hid (relB s p=if relE s p=0∧(relC s p).kd≠1 then QcR s p else []):=hid rfl
 have hON:=Qfj (p.take 288) s hdl
 have hput:=hid (QxZ (QiJ (p.take 288) s) (QcR s p) hON hBl)
 rw[show Qdq (kPay s) (p.drop 288) rsO=QcR s p from rfl,hBl]at hWi
 have hcz:Hid (QeC (p.take 288) s≠0→QgW (p.take 288) s=cmd0):=hid (fun h=>by rw[QgW,if_neg h])
 rw[←hE.out]at hcz hO
 have hsh:Hid (subB p 0 288=p.take 288):=hid rfl
 generalize relP s p=RP at *
 generalize relB s p=RB at *
 generalize QcR s p=BD at *
 generalize QiJ (p.take 288) s=ON at *
 generalize relE s p=RE at *
 generalize hRC:relC s p=RC at *
 have HC:=hC.out
 rw[←HC]at hO hcz
 clear HC hC hE hRC
 generalize p.take 288=PH at *
 generalize p.drop 288=PD at *
 have hb0:=Qlw
 have hb1:=QpW RC
 have hb2:=Qsh RC
 have hzl:(PC cmd0 z768 nil8).length=789:=QbU _ QaY _
 have lh:((QCn 288 (0:UInt8)).map W8).length=288:=by rw[QCt,QCJ]
 generalize QCn 288 (0:UInt8)=ZH at *
 go_enter Tryz.func42,Tryz.ntmps42
 go_wp2_with (first
  | (refine QsB 0 288 rfl _ rfl (C3.nth 1 rfl) rfl Tryz.underlying82 rfl Qdu hsh.out hdl ?_)
  | (refine Qks rfl _ rfl (C3.nth 2 rfl) hs rfl ?_)
  | fail)
 (with_reducible refine (hO.out _).mono ?_);rintro e w5 ⟨rfl,l5⟩
 replace C3:=C3.later l5
 clear l5 hO
 have Ca:=C3.fresh (Qaa _ (.cells cz0.toArray 98)) (QCx _) (Blk.new w5 98 cz0)
 have Cb:=Ca.add (Qaa _ (.cells Tryz.zeroCells82 82)) (k:=w5.heap.size+1) (fun q hq e=>by
  have:=(Ca.blk q hq).lt
  simp at this
  omega) (by have:=C3.lat.size;omega) ((Blk.new' _ 82 Tryz.zeroCells82.toList (by simp)).cast HH.out)
 clear Ca C3
 by_cases hr:RE=0
 ·subst hr
  replace hP:Hid (RP=if RC.kd=1 then ON++BD else z768):=hid (by rw[hP.out];simp)
  replace hB:Hid (RB=if RC.kd≠1 then BD else []):=hid (by rw[hB.out];simp)
  clear hcz
  go_wp2_with (first
   | (refine QbJ rfl rfl _ _ rfl (Cb.nth 1 rfl) rfl rfl rfl ?_;intro w6 hb6 ho6
      have Cc:=Cb.write 1 rfl ho6 hb6)
   | (refine QeQ rfl rfl _ _ rfl (Cc.nth 0 rfl) rfl rfl hON lh ?_;intro w7 hb7 ho7
      have Cd:=Cc.write 0 rfl ho7 hb7)
   | fail)
  have Ce:=Cd.drew
  clear Cb Cc Cd hb6 ho6 hb7 ho7
  refine Qad [([0,1,2,3,4],5)] [6,7,8,9,10] [] (by as_aux_lemma=>kernel_rfl) (by as_aux_lemma=>kernel_rfl) (by intro _ _ d _ _ h;cases d<;>exact h) ?_
  simp only[Qai,pick,QCo,QCp,QCq,QCr,QCs]
  repeat (go_big_quiet_step (fail))
  refine wpQuiet_nil ?_
  go_wp2_with fail
  (refine (hWi.out _ _ _ _ _ (QcT (Ce.nth 4 rfl) rfl k2) (by omega) (QcT (Ce.nth 3 rfl) hst.out bl) (QCx _)).mono ?_);rintro e w8 ⟨l8,A8,c8,rfl,o8⟩
  go_wp2_with fail
  try refine⟨by first|assumption|exact Qab _|exact Qaa _ _|exact Later.refl _,?_⟩
  try simp only[Qai,pick,QCo,QCp,QCq,QCr,QCs]
  repeat (go_big_quiet_step (fail))
  refine wpQuiet_nil ?_
  obtain⟨g8,r8,rfl,hg8,hb8,hc8,hcc8⟩:=QfB o8 (by omega)
  have hm8:(BD.map W8++r8).length≤maxLen:=Qru o8 hc8
  have Cf:=Ce.fresh l8 hg8 hb8
  replace hc8:=hid hc8
  clear o8 Ce hWi hb8 hg8
  go_wp2_with (first
   | (refine Qep rfl _ rfl (Cf.nth 2 rfl) rfl ?_)
   | (refine Qah rfl 100 _ rfl (CC RC) (by simp only[QCA,QCR,QCC];exact hb1) ?_)
   | (refine Qah rfl 102 _ rfl (PC RC z768 nil8) (by simp only[QCA,QCR,QCC];exact hb2) ?_)
   | (refine Qd7 rfl rfl _ _ rfl ((Blk.new w8 _ Tryz.zeroCells102.toList).cast HZ.out) rfl rfl QaY rfl hzl ?_;intro w9 hb9 ho9
      have Cg:=Cf.push (Qaa _ _) (QCx _) ho9 hb9)
   | (refine Qtj rfl _ rfl (Cg.nth 0 rfl) rfl ?_)
   | fail)
  (with_reducible refine (Qn4 RC _).mono ?_);rintro e w10 ⟨rfl,l10⟩
  have Ch:=Cg.later l10
  clear hb9 ho9 Cg Cf
  cases hk:(RC.kd==1)
  ·have hkn:RC.kd≠1:=by simpa using hk
   have HP:RP=z768:=by rw[hP.out,if_neg hkn]
   have HB:RB=BD:=by rw[hB.out,if_pos hkn]
   replace HP:=hid HP
   replace HB:=hid HB
   go_wp2_with (first
    | (refine Qac rfl rfl _ _ _ rfl w8.heap.size 788 _ _ (Ch.nth 0 rfl) rfl (by rw[QbU _ QaY];omega) rfl (by kernel_rfl) ?_;intro v11 w11 hv11 hb11 ho11;simp[go_sem]at hv11;subst hv11;rw[Qyu _ QaY]at hb11
       have Ci:=Ch.write 0 rfl ho11 hb11)
    | (refine Qtb rfl _ rfl (Ci.nth 0 rfl) QaY rfl ?_)
    | (refine Qd7 rfl rfl _ _ rfl (Ci.nth 4 rfl) rfl rfl QaY rfl hzl ?_;intro w12 hb12 ho12
       have Cj:=Ci.write 4 rfl ho12 hb12)
    | fail)
   refine bodyPost_ret (Qae rfl _ _ _ _ _ _ hb12 rfl Tryz.underlying102 rfl (by rw[QbU _ QaY];exact Qf8)) rfl ⟨some ⟨g8,0,none⟩,c8,by rw[HP.out,HB.out,hBl];rfl,?_,Cj.lat⟩
   rw[HB.out,hBl]
   exact Qo6 (Cj.nth 1 rfl) (Cj.at_low 1 rfl) hBl hc8.out hm8
  ·have hky:RC.kd=1:=by simpa using hk
   have HP:RP=ON++BD:=by rw[hP.out,if_pos hky]
   have HB:RB=[]:=by rw[hB.out,if_neg (by simp[hky])]
   have hPl:(ON++BD).length=768:=by rw[QCB];omega
   have l1:(putB z768 0 ON).length=768:=by rw[Qca (by rw[QaY];omega)];exact QaY
   replace HP:=hid HP
   replace HB:=hid HB
   have r8:=hid (fun w (h:Blk w g8 5 (BD.map W8++r8))=>(show Rd w (some ⟨g8,0,none⟩) 480 (BD.map W8) from QdA h hBl))
   generalize ON++BD=PK at *
   have hs1:=hid (QrA RC (P:=z768) (vs:=ON) nil8 0 (by rw[QaY];omega))
   have hs2:=hid (QrA RC (P:=putB z768 0 ON) (vs:=BD.take 480) nil8 288 (by rw[l1,QCP];omega))
   rw[hput.out]at hs2
   generalize putB z768 0 ON=P1 at *
   go_wp2_with (first
    | (refine Qo1 rfl _ rfl (Ch.nth 2 rfl) hON rfl ?_)
    | (refine Qaj rfl rfl 82 _ _ rfl w8.heap.size 20 _ _ (ON.map W8) (Ch.nth 0 rfl) rfl rfl (by rw[QCt,hON];exact Qdu) (by rw[QbU _ QaY,QCt];omega) (QaE _) ?_;intro w11 hb11 ho11;rw[hs1.out]at hb11
       have Ci:=Ch.write 0 rfl ho11 hb11)
    | (refine Qax rfl _ _ _ _ rfl 5 Tryz.underlying32 QbR w8.heap.size 308 480 480 _ _ (Ci.nth 0 rfl) (some ⟨g8,0,none⟩) 480 c8 (BD.map W8) (r8.out _ (Ci.nth 1 rfl)) (QaE _) rfl rfl (by rw[QbU _ l1];omega) ?_;intro w13 hb13 ho13;rw[←QDB,hs2.out]at hb13
       have Ck:=Ci.write 0 rfl ho13 hb13)
    | (refine Qtb rfl _ rfl (Ck.nth 0 rfl) hPl rfl ?_)
    | (refine Qd7 rfl rfl _ _ rfl (Ck.nth 4 rfl) rfl rfl hPl rfl hzl ?_;intro w12 hb12 ho12
       have Cj:=Ck.write 4 rfl ho12 hb12)
    | fail)
   refine bodyPost_ret (Qae rfl _ _ _ _ _ _ hb12 rfl Tryz.underlying102 rfl (by rw[QbU _ hPl];exact Qf8)) rfl ⟨none,0,by rw[HP.out,HB.out];rfl,?_,Cj.lat⟩
   rw[HB.out]
   exact Qay _ _ _
 ·have hne:((RE:Int) != 0)=true:=by simp;omega
  have HC:=hcz.out hr
  subst HC
  have HP:RP=z768:=by rw[hP.out,if_neg (fun h=>hr h.1)]
  have HB:RB=[]:=by rw[hB.out,if_neg (fun h=>hr h.1)]
  replace HP:=hid HP
  replace HB:=hid HB
  clear hP hB
  go_wp2_with (first
   | (refine QbJ rfl rfl _ _ rfl (Cb.nth 1 rfl) rfl rfl rfl ?_;intro w6 hb6 ho6
      have Cc:=Cb.write 1 rfl ho6 hb6)
   | (refine QeQ rfl rfl _ _ rfl (Cc.nth 0 rfl) rfl rfl hON lh ?_;intro w7 hb7 ho7
      have Cd:=Cc.write 0 rfl ho7 hb7)
   | (refine Qah rfl 102 _ rfl (PC cmd0 z768 nil8) (by simp only[QCA,QCC];exact hb0) ?_)
   | (refine Qd7 rfl rfl _ _ rfl (Cd.nth 2 rfl) rfl rfl QaY rfl hzl ?_;intro w12 hb12 ho12
      have Cj:=Cd.write 2 rfl ho12 hb12)
   | fail)
  refine bodyPost_ret (Qae rfl _ _ _ _ _ _ hb12 rfl Tryz.underlying102 rfl (by rw[QbU _ QaY];exact Qf8)) rfl ⟨none,0,by rw[HP.out,HB.out];rfl,?_,Cj.lat⟩
  rw[HB.out]
  exact Qay _ _ _
set_option maxRecDepth 100000 in
set_option maxHeartbeats 4000000 in
theorem Qpz (A:Option Addr) (n c:Nat) (k p:List UInt8) (w:World) (hk:RdB w A n k) (hn:n≤140737488355328) (hp:p.length=768):
 Calls Tryz.prog 26 #[.slice A n c,.agg (p.map W8).toArray] w fun e w'=>∃A' c',e= .returned (.tuple #[.agg (PC (unwC k p) (unwP k p) (.slice A' (unwB k p).length c')).toArray,.int .i64 (unwE k p:Nat)])∧OwnB w' w.heap.size A' (unwB k p).length c' (unwB k p)∧Later w w':=by
 have HZ:=hid zcPe
 have C1:=Qa8 w 85 (p.map W8)
 have C2:=C1.add (Qaa _ (.cells Tryz.zeroCells102 102)) (k:=w.heap.size+1) (by simp) (by omega) ((Blk.new' _ _ Tryz.zeroCells102.toList (by simp)).cast HZ.out)
 clear C1
 have hal:(p.take 32).length=32:=by rw[QCP];omega
 have hPe:=hid (fun (w:World) B d hk' hu=>QuY A B n c 32 d k (p.take 32) w hk' hu hn (by omega))
 have hsl:=Qcs k (p.take 32)
 have hO:=hid (Qtn (Qcp k (p.take 32)) p hp hsl)
 have hE:Hid (unwE k p=if Qbt k (p.take 32)=0 then relE (Qcp k (p.take 32)) p else Qbt k (p.take 32)):=hid rfl
 have hC:Hid (unwC k p=if Qbt k (p.take 32)=0 then relC (Qcp k (p.take 32)) p else cmd0):=hid rfl
 have hP:Hid (unwP k p=if Qbt k (p.take 32)=0 then relP (Qcp k (p.take 32)) p else z768):=hid rfl
 have hB:Hid (unwB k p=if Qbt k (p.take 32)=0 then relB (Qcp k (p.take 32)) p else []):=hid rfl
 have hRPl:=QhW (Qcp k (p.take 32)) p hp hsl
 have hsh:Hid (subB p 0 32=p.take 32):=hid rfl
 generalize unwE k p=UE at *
 generalize unwC k p=UC at *
 generalize unwP k p=UP at *
 generalize unwB k p=UB at *
 generalize Qbt k (p.take 32)=ME at *
 generalize relP (Qcp k (p.take 32)) p=RP at *
 generalize relC (Qcp k (p.take 32)) p=RC at *
 generalize relB (Qcp k (p.take 32)) p=RB at *
 generalize relE (Qcp k (p.take 32)) p=RE at *
 generalize Qcp k (p.take 32)=S at *
 generalize p.take 32=al at *
 have hb0:=Qlw
 have hzl:(PC cmd0 z768 nil8).length=789:=QbU _ QaY _
 have hz1:=Qz2
 go_enter Tryz.func26,Tryz.ntmps26
 go_wp2_with fail
 (refine (hPe.out _ _ _ (hk.later C2.lat) (QcT (C2.nth 1 rfl) hsh.out hal)).mono ?_);rintro e w3 ⟨rfl,l3⟩
 replace C2:=C2.later l3
 clear hPe l3
 by_cases h0:ME=0
 ·subst h0
  replace hE:=hid (hE.out.trans (if_pos rfl))
  replace hC:=hid (hC.out.trans (if_pos rfl))
  replace hP:=hid (hP.out.trans (if_pos rfl))
  replace hB:=hid (hB.out.trans (if_pos rfl))
  go_wp2_with (first
   | (refine Qgv rfl rfl _ _ rfl (Blk.new w3 _ Tryz.zeroCells134.toList) rfl rfl hsl hz1 ?_;intro w4 hb4 ho4
      have C3:=C2.push (Qaa _ _) (QCx _) ho4 hb4)
   | (refine Qks rfl _ rfl (C3.nth 0 rfl) hsl rfl ?_)
   | (refine QsE rfl _ rfl (C3.nth 2 rfl) hp rfl ?_)
   | fail)
  (with_reducible refine (hO.out _).mono ?_);rintro e w5 ⟨A5,c5,rfl,o5,l5⟩
  have hone:(Value.slice A5 RB.length c5).oneCell'=true:=rfl
  have C4:=C3.later l5
  have hlow:∀b,(Value.slice A5 RB.length c5).ownBlock=some b→b≠w.heap.size+1:=fun b hb e=>by
   have h1:=(World.ownsRow.lt o5 b hb).1
   have h2:=(C3.nth 1 rfl).lt
   omega
  go_wp2_with (first
   | (refine Qd7 rfl rfl _ _ rfl (C4.nth 1 rfl) rfl rfl hRPl hone hzl ?_;intro w6 hb6 ho6
      have C5:=C4.write 1 rfl ho6 hb6
      have o6:=Qb9 o5 ho6 hlow)
   | fail)
  refine bodyPost_ret (Qae rfl _ _ _ _ _ _ hb6 rfl Tryz.underlying102 rfl (by rw[QbU _ hRPl];exact Qf8)) rfl ⟨A5,c5,by rw[hE.out,hC.out,hP.out,hB.out];rfl,?_,C5.lat⟩
  rw[hB.out]
  exact Qbb o6 C3.lat.size
 ·have hne:((ME:Int) != 0)=true:=by simp;omega
  replace hE:=hid (hE.out.trans (if_neg h0))
  replace hC:=hid (hC.out.trans (if_neg h0))
  replace hP:=hid (hP.out.trans (if_neg h0))
  replace hB:=hid (hB.out.trans (if_neg h0))
  go_wp2_with (first
   | (refine Qgv rfl rfl _ _ rfl (Blk.new w3 _ Tryz.zeroCells134.toList) rfl rfl hsl hz1 ?_;intro w4 hb4 ho4
      have C3:=C2.push (Qaa _ _) (QCx _) ho4 hb4)
   | (refine Qah rfl 102 _ rfl (PC cmd0 z768 nil8) (by simp only[QCA,QCC];exact hb0) ?_)
   | (refine Qd7 rfl rfl _ _ rfl (C3.nth 1 rfl) rfl rfl QaY rfl hzl ?_;intro w6 hb6 ho6
      have C5:=C3.write 1 rfl ho6 hb6)
   | fail)
  refine bodyPost_ret (Qae rfl _ _ _ _ _ _ hb6 rfl Tryz.underlying102 rfl (by rw[QbU _ QaY];exact Qf8)) rfl ⟨none,0,by rw[hE.out,hC.out,hP.out,hB.out];rfl,?_,C5.lat⟩
  rw[hB.out]
  exact Qay _ _ _
end Go.Proofs.YtdkpcdgckgaklaaGreat
