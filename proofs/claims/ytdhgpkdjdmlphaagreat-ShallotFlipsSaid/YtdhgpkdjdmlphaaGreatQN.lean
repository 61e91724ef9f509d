/-
  Lemmas for the last text of this claim (part 14 of 20).
-/
import Derived.ArgAppend
import Derived.BigQuiet
import Derived.BigRegion
import Derived.ChangeOld
import Derived.Deep.RegionWith
import Derived.DeepKeys4
import Derived.JoinedCond
import Derived.LaidMore
import Derived.Laws.BytesArg
import Derived.Laws.CopyOwn
import Derived.Laws.Externs
import Derived.Laws.IdiomStrings
import Derived.Laws.Tables
import Derived.Lib.AppendStr
import Derived.Lib.AppendZerosOnto
import Derived.Lib.Mul64
import Derived.Lib.SlBytesConst
import Derived.LoopN
import Derived.Maps.OwnSet
import Derived.OpenShut
import Derived.OrdersHeld
import Derived.ProofKit
import Derived.Shelf.Spec.BitsCarry
import Derived.ShutString
import Derived.Test.YtdhgpkdjdmlphaaGreatProg
import Derived.Test.YtdhgpkdjdmlphaaGreatRows
import Derived.WalkKit
import Derived.WalkLawsBesides
import Derived.WalkSpells
import Derived.Test.YtdhgpkdjdmlphaaGreatQC
import Derived.Test.YtdhgpkdjdmlphaaGreatQI
import Derived.Test.YtdhgpkdjdmlphaaGreatQK
import Derived.Test.YtdhgpkdjdmlphaaGreatQL
open Bool renaming and_eq_true → QCV, eq_iff_iff → QDr
open List renaming replicate → QCA, getElem?_cons_succ → QCB, getElem?_cons_zero → QCC, length_map → QCE, cons_append → QCF, nil_append → QCG, setIfInBounds_toArray → QCJ, length_replicate → QCM, set_cons_zero → QCN, set_cons_succ → QCO, take_of_length_le → QCP, append_assoc → QCR, map_toArray → QCW, mem_cons → QCX, not_mem_nil → QCY, map_nil → QC2, length_drop → QC3, map_cons → QC7, take_append_drop → QC9, map_replicate → QDg, map_take → QD1, drop_drop → QEo
open Nat renaming le_refl → QCL
open Option renaming toList_some → QCD
set_option linter.all false
namespace Go.Proofs.YtdhgpkdjdmlphaaGreat
open Go.RowKit
open Go.BigFrame
abbrev sMac:ByteArray:=⟨#[109,97,99]⟩
abbrev Qdi:ByteArray:=⟨#[115,116,114,101,97,109]⟩
abbrev sPay:ByteArray:=⟨#[112,97,121]⟩
abbrev QbT:ByteArray:=⟨#[98,108,105,110,100]⟩
def k4 (s:List UInt8):List UInt8:=derB s sMac++(derB s Qdi++(derB s sPay++derB s QbT))
theorem Qe7 (s:List UInt8):(k4 s).length=128:=by simp[k4,Qaz]
theorem Qyu (s:List UInt8):Qdp s [sMac,Qdi,sPay,QbT] 4=k4 s:=by
 rw[Qdp,k4]
 simp
def ofB (s:List UInt8):List UInt8:=if s.length=32 then k4 s else QCA 128 0
def ofE (s:List UInt8):Nat:=if s.length=32 then 0 else 2
theorem Qge:(Tryz.prog.info? 51).map (·.size)=some 128:=by kernel_rfl
theorem QsJ:(Tryz.prog.info? 51).bind (·.zero)=some (.agg (QCA 128 (W8 0)).toArray):=by kernel_rfl
theorem Qpl (p q r s:List UInt8) (hp:p.length=32) (hq:q.length=32) (hr:r.length=32) (hs:s.length=32):
 Program.built Tryz.prog 51 [(0,.agg (p.map W8).toArray),(1,.agg (q.map W8).toArray),(2,.agg (r.map W8).toArray),(3,.agg (s.map W8).toArray)]=some ((p++(q++(r++s))).map W8).toArray:=by
 have h:=Qew (n:=128) (pl:=[(0,32),(32,32),(64,32),(96,32)]) Tryz.underlying51 QsJ (by kernel_rfl) [(0,0,p),(1,32,q),(2,64,r),(3,96,s)] (by
  intro x hx
  simp only[QCX,QCY,or_false]at hx
  rcases hx with rfl|rfl|rfl|rfl<;>simp[hp,hq,hr,hs])
 rw[show QeQ (QCA 128 0) ([(0,0,p),(1,32,q),(2,64,r),(3,96,s)].map fun x=>(x.2.1,x.2.2))=p++(q++(r++s)) by
  simp only[QC7,QC2,QeQ]
  rw[show QCA 128 (0:UInt8)=QCA 32 0++(QCA 32 0++(QCA 32 0++QCA 32 0)) by simp]
  rw[QcS _ _ _ (by simp[hp]),QbH _ _ _ _ 32 hp (by simp[hq])]
  rw[←QCR p q,QbH _ _ _ _ 64 (by simp[hp,hq]) (by simp[hr]),←QCR _ r,Qdb _ _ _ 96 (by simp[hp,hq,hr]) (by simp[hs])]
  simp]at h
 exact h
theorem QiL:Program.built Tryz.prog 51 []=some ((QCA 128 (0:UInt8)).map W8).toArray:=by
 rw[QDg]
 kernel_rfl
theorem QnU (p q:List UInt8) (hp:p.length=32) (hq:q.length=32):
 Program.built Tryz.prog 51 [(0,.agg (p.map W8).toArray),(1,.agg (q.map W8).toArray)]=some ((p++(q++(QCA 32 0++QCA 32 0))).map W8).toArray:=by
 have h:=Qew (n:=128) (pl:=[(0,32),(32,32),(64,32),(96,32)]) Tryz.underlying51 QsJ (by kernel_rfl) [(0,0,p),(1,32,q)] (by
  intro x hx
  simp only[QCX,QCY,or_false]at hx
  rcases hx with rfl|rfl<;>simp[hp,hq])
 rw[show QeQ (QCA 128 0) ([(0,0,p),(1,32,q)].map fun x=>(x.2.1,x.2.2))=p++(q++(QCA 32 0++QCA 32 0)) by
  simp only[QC7,QC2,QeQ]
  rw[show QCA 128 (0:UInt8)=QCA 32 0++(QCA 32 0++(QCA 32 0++QCA 32 0)) by simp]
  rw[QcS _ _ _ (by simp[hp]),QbH _ _ _ _ 32 hp (by simp[hq])]]at h
 exact h
section
variable {ops:Array Oper} {rest:List Oper} {o:Oper} {a:Act} {w:World} {Q:Exit→Act→World→Prop}
theorem QgU (hgd:o.guard=none) (hd:o.dst=none) (x y:Operand) (ho:o.op= .store 51 x y) {g:Nat} {t:TypeId} {l:List Value} {bs:List UInt8} (hg:Blk w g t l) (hx:a.eval x= .pointer (some ⟨g,0,none⟩)) (hy:a.eval y= .agg (bs.map W8).toArray) (hbl:bs.length=128) (hl:l.length=128)
 (h:∀w',Blk w' g t (bs.map W8)→Only g w w'→wpList Tryz.prog ops Q rest a w'):wpList Tryz.prog ops Q (o :: rest) a w:=
 Qf8 128 hgd hd x y ho hg hx hy Qge hbl hl h
theorem QvE (hw:Region.wanted o (yielded ops a.tmps)=true) (x:Operand) (ho:o.op= .load 51 x) {g:Nat} {t:TypeId} {bs:List UInt8} (hb:Blk w g t (bs.map W8)) (hl:bs.length=128) (hx:a.eval x= .pointer (some ⟨g,0,none⟩))
 (h:wpList Tryz.prog ops Q rest (a.put o.dst (.agg (bs.map W8).toArray)) w):wpList Tryz.prog ops Q (o :: rest) a w:=
 Qbe hw _ x ho g t _ hb hx _ Tryz.underlying51 rfl 128 Qge (by rw[QCE,hl]) h
end
set_option maxRecDepth 100000 in
set_option maxHeartbeats 4000000 in
theorem Qxx (A:Option Addr) (n c:Nat) (s:List UInt8) (w:World) (hx:RdB w A n s) (hc:n≤c) (hn:n≤35184372088832):
 Calls Tryz.prog 96 #[.slice A n c] w fun e w'=>e= .returned (.tuple #[.agg ((ofB s).map W8).toArray,.int .i64 (ofE s:Nat)])∧Later w w':=by
 have hl:=hx.len
 have B0:=Qbr w 51 Tryz.zeroCells51.toList
 have hz0:Tryz.zeroCells51.toList.length=128:=by kernel_rfl
 by_cases h32:n=32
 ·subst h32
  have e1:ofE s=0:=by rw[ofE,if_pos hl]
  have e2:ofB s=k4 s:=by rw[ofB,if_pos hl]
  rw[e1,e2]
  clear e1 e2
  have hD:=hid (fun (w:World) B d h1 h2=>Qjq A B 32 c 4 d s [sMac,Qdi,sPay,QbT] w h1 hc hn h2 (by omega) (by omega) (by intro x hx;simp only[QCX,QCY,or_false]at hx;rcases hx with rfl|rfl|rfl|rfl<;>decide))
  rw[Qyu]at hD
  rw[k4]at *
  have hp:=Qaz s sMac
  have hq:=Qaz s Qdi
  have hr:=Qaz s sPay
  have ht:=Qaz s QbT
  generalize derB s sMac=p at *
  generalize derB s Qdi=q at *
  generalize derB s sPay=r at *
  generalize derB s QbT=t at *
  have hbk:=Qpl p q r t hp hq hr ht
  obtain⟨K,hK⟩:∃K,K=p++(q++(r++t)):=⟨_,rfl⟩
  rw[←hK]at hD hbk ⊢
  have s0:subB K 0 32=p:=by rw[hK,QjO _ _ _ hp]
  have s1:subB K 32 32=q:=by rw[hK,Qcw _ _ _ _ _ hp hq]
  have s2:subB K 64 32=r:=by rw[hK,←QCR,Qcw _ _ _ _ _ (by simp[hp,hq]) hr]
  have s3:subB K 96 32=t:=by rw[hK,←QCR,←QCR,QmG _ _ _ _ (by simp[hp,hq,hr]) ht]
  have hKl:K.length=128:=by rw[hK];simp[hp,hq,hr,ht]
  clear hK
  go_enter Tryz.func96,Tryz.ntmps96
  go_wp2_with fail
  generalize hW:(w.alloc _).alloc _=w1
  have B1:Bag w w1 [(w.heap.size,51,Tryz.zeroCells51.toList)]:=by rw[←hW];exact B0.later (Qaa _ _)
  have hS:Strs w1 (some ⟨w.heap.size+1,0,none⟩) 4 [sMac,Qdi,sPay,QbT]:=by
   rw[←hW]
   exact Blk.rd (Blk.new' (w.alloc (.cells Tryz.zeroCells51 51)) 9 [Value.string sMac,Value.string Qdi,Value.string sPay,Value.string QbT] (by simp)) rfl
  clear hW
  (with_reducible refine (hD.out _ _ 4 (hx.later B1.lat) hS).mono ?_);rintro e w2 ⟨g,rfl,hg,hb2,j2⟩
  have B2:=(B1.later j2).add (Qab _) (k:=g) (by have:=(B1.nth 0 rfl).lt;simp;omega) (by have:=B1.lat.size;omega) hb2.drew
  clear hS hb2 hg B0 j2 B1
  go_wp2_with fail
  refine Qaf [] [0,1,2,3,4,5,6,7,8,9,10,11,12] [13,14] (by as_aux_lemma=>kernel_rfl) (by as_aux_lemma=>kernel_rfl) (by intro _ _ d _ _ h;cases d<;>exact h) ?_
  simp only[Qah,pick,QCB,QCC,QCD,QCF,QCG]
  repeat (first|go_big_quiet_skip|(go_big_quiet_want;(first|refine QeB 0 32 _ rfl (B2.nth 0 rfl) rfl Tryz.underlying30 rfl Qdn s0 hp ?_|refine QeB 32 32 _ rfl (B2.nth 0 rfl) rfl Tryz.underlying30 rfl Qdn s1 hq ?_|refine QeB 64 32 _ rfl (B2.nth 0 rfl) rfl Tryz.underlying30 rfl Qdn s2 hr ?_|refine QeB 96 32 _ rfl (B2.nth 0 rfl) rfl Tryz.underlying30 rfl Qdn s3 ht ?_|refine QcB _ _ rfl (K.map W8) (by simp only[QCW,QC7,QC2];exact hbk) ?_);simp only[Act.put,QCJ,QCO,QCN];go_big_quiet_on)|(go_big_quiet_step (fail)))
  refine wpQuiet_nil ?_
  go_wp2_with (first
   | (refine QgU rfl rfl _ _ rfl (B2.nth 1 rfl) rfl rfl hKl hz0 ?_;intro w9 hb9 ho9)
   | fail)
  exact bodyPost_ret (Qag rfl _ _ _ _ _ _ hb9 rfl Tryz.underlying51 rfl (by rw[QCE,hKl];exact Qge)) rfl ⟨rfl,(B2.write 1 rfl ho9 hb9).lat⟩
 ·have e1:ofE s=2:=by rw[ofE,if_neg (by omega)]
  have e2:ofB s=QCA 128 0:=by rw[ofB,if_neg (by omega)]
  rw[e1,e2]
  clear e1 e2
  have hb0:=QiL
  have hzl:(QCA 128 (0:UInt8)).length=128:=by simp
  generalize QCA 128 (0:UInt8)=Z at *
  have hne:((n:Int) != 32)=true:=by simp;omega
  go_enter Tryz.func96,Tryz.ntmps96
  go_wp2_with (first
   | (refine Qak rfl 51 _ rfl (Z.map W8) ?hb ?_;(case hb=>simp only[QCW,QC2];exact hb0))
   | (refine QgU rfl rfl _ _ rfl (B0.nth 0 rfl) rfl rfl hzl hz0 ?_;intro w9 hb9 ho9)
   | fail)
  exact bodyPost_ret (Qag rfl _ _ _ _ _ _ hb9 rfl Tryz.underlying51 rfl (by rw[QCE,hzl];exact Qge)) rfl ⟨rfl,(Qaa _ _).only ho9 (QCL _)⟩
set_option maxRecDepth 100000 in
set_option maxHeartbeats 4000000 in
theorem Qug (A:Option Addr) (n c:Nat) (s:List UInt8) (w:World) (hx:RdB w A n s) (hn:n≤35184372088832):
 Calls Tryz.prog 69 #[.slice A n c] w fun e w'=>e= .returned (.tuple #[.agg ((ofB s).map W8).toArray,.int .i64 (ofE s:Nat)])∧Later w w':=by
 have hl:=hx.len
 have B0:=Qbr w 51 Tryz.zeroCells51.toList
 have hz0:Tryz.zeroCells51.toList.length=128:=by kernel_rfl
 by_cases h32:n=32
 ·subst h32
  have e1:ofE s=0:=by rw[ofE,if_pos hl]
  have e2:ofB s=k4 s:=by rw[ofB,if_pos hl]
  rw[e1,e2]
  clear e1 e2
  have d1:=hid (fun (w:World) h=>Qdw A 32 c s sMac w h (by omega) (by decide))
  have d2:=hid (fun (w:World) h=>Qdw A 32 c s Qdi w h (by omega) (by decide))
  have d3:=hid (fun (w:World) h=>Qdw A 32 c s sPay w h (by omega) (by decide))
  have d4:=hid (fun (w:World) h=>Qdw A 32 c s QbT w h (by omega) (by decide))
  rw[k4]at *
  have hp:=Qaz s sMac
  have hq:=Qaz s Qdi
  have hr:=Qaz s sPay
  have ht:=Qaz s QbT
  generalize derB s sMac=p at *
  generalize derB s Qdi=q at *
  generalize derB s sPay=r at *
  generalize derB s QbT=t at *
  have hbk:=QnU p q hp hq
  have f1:(p++(q++(QCA 32 0++QCA 32 (0:UInt8)))).length=128:=by simp[hp,hq]
  have p1:putB (p++(q++(QCA 32 0++QCA 32 (0:UInt8)))) 64 r=p++(q++(r++QCA 32 (0:UInt8))):=by
   rw[←QCR p q,QbH _ _ _ _ 64 (by simp[hp,hq]) (by simp[hr]),QCR]
  have f2:(p++(q++(r++QCA 32 (0:UInt8)))).length=128:=by simp[hp,hq,hr]
  have p2:putB (p++(q++(r++QCA 32 (0:UInt8)))) 96 t=p++(q++(r++t)):=by
   rw[←QCR q r,←QCR p,Qdb _ _ _ 96 (by simp[hp,hq,hr]) (by simp[ht])]
   simp
  have f3:(p++(q++(r++t))).length=128:=by simp[hp,hq,hr,ht]
  generalize p++(q++(r++t))=K3 at *
  generalize p++(q++(r++QCA 32 (0:UInt8)))=K2 at *
  generalize p++(q++(QCA 32 0++QCA 32 (0:UInt8)))=K1 at *
  have P1:=hid p1
  have P2:=hid p2
  clear p1 p2
  go_enter Tryz.func69,Tryz.ntmps69
  go_wp2_with fail
  generalize hW:w.alloc _=w1
  replace B0:Bag w w1 [(w.heap.size,51,Tryz.zeroCells51.toList)]:=by rw[←hW];exact B0
  clear hW
  (with_reducible refine (d1.out _ (hx.later B0.lat)).mono ?_);rintro e w2 ⟨rfl,j2⟩
  go_wp2_with fail
  (with_reducible refine (d2.out _ (hx.later (B0.lat.trans j2))).mono ?_);rintro e w3 ⟨rfl,j3⟩
  go_wp2_with (first
   | (refine Qak rfl 51 _ rfl (K1.map W8) ?hb ?_;(case hb=>simp only[QCW,QC7,QC2];exact hbk))
   | (refine QgU rfl rfl _ _ rfl (Blk.new w3 _ Tryz.zeroCells51.toList) rfl rfl f1 hz0 ?_;intro w4 hb4 ho4)
   | fail)
  have B1:=B0.push ((j2.trans j3).trans (Qaa w3 _)) (j2.trans j3).size ho4 hb4
  clear j2 j3 hb4 ho4
  (with_reducible refine (d3.out _ (hx.later B1.lat)).mono ?_);rintro e w5 ⟨rfl,j5⟩
  go_wp2_with (first
   | (refine Qf1 64 32 rfl rfl _ _ rfl ((B1.later j5).nth 0 rfl) rfl rfl Qdn hr (by omega) ?_;intro w6 hb6 ho6;rw[P1.out]at hb6
      have B2:=(B1.later j5).write 0 rfl ho6 hb6)
   | fail)
  clear j5 hb6 ho6 B1
  (with_reducible refine (d4.out _ (hx.later B2.lat)).mono ?_);rintro e w7 ⟨rfl,j7⟩
  go_wp2_with (first
   | (refine Qf1 96 32 rfl rfl _ _ rfl ((B2.later j7).nth 0 rfl) rfl rfl Qdn ht (by omega) ?_;intro w8 hb8 ho8;rw[P2.out]at hb8
      have B3:=(B2.later j7).write 0 rfl ho8 hb8)
   | (refine QvE rfl _ rfl (B3.nth 0 rfl) f3 rfl ?_)
   | (refine QgU rfl rfl _ _ rfl (B3.nth 1 rfl) rfl rfl f3 hz0 ?_;intro w9 hb9 ho9)
   | fail)
  exact bodyPost_ret (Qag rfl _ _ _ _ _ _ hb9 rfl Tryz.underlying51 rfl (by rw[QCE,f3];exact Qge)) rfl ⟨rfl,(B3.write 1 rfl ho9 hb9).lat⟩
 ·have e1:ofE s=2:=by rw[ofE,if_neg (by omega)]
  have e2:ofB s=QCA 128 0:=by rw[ofB,if_neg (by omega)]
  rw[e1,e2]
  clear e1 e2
  have hb0:=QiL
  have hzl:(QCA 128 (0:UInt8)).length=128:=by simp
  generalize QCA 128 (0:UInt8)=Z at *
  have hne:((n:Int) != 32)=true:=by simp;omega
  go_enter Tryz.func69,Tryz.ntmps69
  go_wp2_with (first
   | (refine Qak rfl 51 _ rfl (Z.map W8) ?hb ?_;(case hb=>simp only[QCW,QC2];exact hb0))
   | (refine QgU rfl rfl _ _ rfl (B0.nth 0 rfl) rfl rfl hzl hz0 ?_;intro w9 hb9 ho9)
   | fail)
  exact bodyPost_ret (Qag rfl _ _ _ _ _ _ hb9 rfl Tryz.underlying51 rfl (by rw[QCE,hzl];exact Qge)) rfl ⟨rfl,(Qaa _ _).only ho9 (QCL _)⟩
theorem Qjp (x y:List UInt8) (off n:Nat):(subB x off n==subB y off n&&x.drop (off+n)==y.drop (off+n))=(x.drop off==y.drop off):=by
 rw[QDr]
 simp only[QCV,beq_iff_eq,subB,←QEo]
 constructor
 ·rintro⟨h1,h2⟩
  rw[←QC9 n (x.drop off),h1,h2,QC9]
 ·intro h
  rw[h]
  exact⟨rfl,rfl⟩
theorem Qnr (x y:List UInt8) (off n:Nat) (hx:x.length=off+n) (hy:y.length=off+n):(subB x off n==subB y off n)=(x.drop off==y.drop off):=by
 rw[subB,subB,QCP (by rw[QC3];omega),QCP (by rw[QC3];omega)]
theorem Qbz (x:List UInt8) (off n:Nat):(((x.map W8).drop off).take n)=(subB x off n).map W8:=by rw[subB,QD1,List.map_drop]
abbrev Y128:={l:List UInt8 // l.length=128}
theorem Qk3 {P:Program} {t:TypeId} {fs:Array Field} (hu:P.underlying t=some (.struct fs)):P.fieldsOf t=fs:=by unfold Program.fieldsOf;rw[hu]
theorem Qxv (d:Nat) (x y:List UInt8) (hx:x.length=128) (hy:y.length=128) (w:World):
 (Op.eqFields (d+2) (x.map W8).toArray (y.map W8).toArray (Tryz.prog.fieldsOf 51).toList).run Tryz.prog w= .ok (x==y) w:=by
 rw[Qk3 Tryz.underlying51]
 have l1:∀off,off+32≤128→(subB x off 32).length=32:=fun off h=>Qan (by omega)
 have l2:∀off,off+32≤128→(subB y off 32).length=32:=fun off h=>Qan (by omega)
 rw[Qb5 (k:=0) rfl (by decide) rfl (Qbz x 0 32) (Qbz y 0 32) (l1 _ (by omega)) (l2 _ (by omega)),Qb5 (k:=32) rfl (by decide) rfl (Qbz x 32 32) (Qbz y 32 32) (l1 _ (by omega)) (l2 _ (by omega)),
  Qb5 (k:=64) rfl (by decide) rfl (Qbz x 64 32) (Qbz y 64 32) (l1 _ (by omega)) (l2 _ (by omega)),Qb5 (k:=96) rfl (by decide) rfl (Qbz x 96 32) (Qbz y 96 32) (l1 _ (by omega)) (l2 _ (by omega)),Qc6]
 have h:(x==y)=(subB x 0 32==subB y 0 32&&(subB x 32 32==subB y 32 32&&(subB x 64 32==subB y 64 32&&subB x 96 32==subB y 96 32))):=by
  rw[Qnr x y 96 32 (by omega) (by omega),Qjp x y 64 32,Qjp x y 32 32,Qjp x y 0 32]
  rfl
 rw[h]
 cases subB x 0 32==subB y 0 32<;>cases subB x 32 32==subB y 32 32<;>cases subB x 64 32==subB y 64 32<;>cases subB x 96 32==subB y 96 32<;>rfl
theorem QtG:Tryz.prog.eqGuardType Tryz.prog.depth 51=false:=by kernel_rfl
theorem QpX:Tryz.prog.stoodInHeld 51=false:=by kernel_rfl
theorem Qny:Tryz.prog.underlying 51=some (.struct (Tryz.prog.fieldsOf 51)):=by rw[Qk3 Tryz.underlying51];exact Tryz.underlying51
@[go_sem high] theorem Qwy (op:BinOp) (x y:Operand) (xs ys:Array Value) (w:World):(eqGuard op 51 x y (.agg xs) (.agg ys)).run Tryz.prog w= .ok () w:=run_eqGuard_agg w op _ x y xs ys QtG
@[go_sem high] theorem Qv2 (x y:Y128) (w:World):(binOp .eql 51 (.agg (x.val.map W8).toArray) (.agg (y.val.map W8).toArray)).run Tryz.prog w= .ok (.bool (x.val==y.val)) w:=by
  rw[Qgm Qny QpX,Qxv 9997 _ _ x.2 y.2]
  rfl
theorem QhY:(Tryz.prog.info? 53).map (·.size)=some 192:=by kernel_rfl
theorem QhN:(Tryz.prog.info? 78).map (·.size)=some 192:=by kernel_rfl
theorem Qw8:(Tryz.prog.info? 53).bind (·.zero)=some (.agg (QCA 192 (W8 0)).toArray):=by kernel_rfl
theorem put3 (k a s:List UInt8) (hk:k.length=128) (ha:a.length=32) (hs:s.length=32):QeQ (QCA 192 0) [(0,k),(128,a),(160,s)]=k++(a++s):=by
 simp only[QeQ]
 rw[show QCA 192 (0:UInt8)=QCA 128 0++(QCA 32 0++QCA 32 0) by simp]
 rw[QcS _ _ _ (by simp[hk]),QbH _ _ _ _ 128 hk (by simp[ha]),←QCR,Qdb _ _ _ 160 (by simp[hk,ha]) (by simp[hs]),QCR]
theorem Qpj (k a s:List UInt8) (hk:k.length=128) (ha:a.length=32) (hs:s.length=32):
 Program.built Tryz.prog 53 [(0,.agg (k.map W8).toArray),(1,.agg (a.map W8).toArray),(2,.agg (s.map W8).toArray)]=some ((k++(a++s)).map W8).toArray:=by
 have h:=Qew (n:=192) (pl:=[(0,128),(128,32),(160,32)]) Tryz.underlying53 Qw8 (by kernel_rfl) [(0,0,k),(1,128,a),(2,160,s)] (by
  intro x hx
  simp only[QCX,QCY,or_false]at hx
  rcases hx with rfl|rfl|rfl<;>simp[hk,ha,hs])
 rw[show QeQ (QCA 192 0) ([(0,0,k),(1,128,a),(2,160,s)].map fun x=>(x.2.1,x.2.2))=k++(a++s) from put3 k a s hk ha hs]at h
 exact h
theorem QnE:Program.built Tryz.prog 53 []=some ((QCA 192 (0:UInt8)).map W8).toArray:=by
 rw[QDg]
 kernel_rfl
theorem Qlc:Program.built Tryz.prog 78 []=some ((QCA 192 (0:UInt8)).map W8).toArray:=by
 rw[QDg]
 kernel_rfl
section
variable {ops:Array Oper} {rest:List Oper} {o:Oper} {a:Act} {w:World} {Q:Exit→Act→World→Prop}
theorem QeK (hgd:o.guard=none) (hd:o.dst=none) (x y:Operand) (ho:o.op= .store 53 x y) {g:Nat} {t:TypeId} {l:List Value} {bs:List UInt8} (hg:Blk w g t l) (hx:a.eval x= .pointer (some ⟨g,0,none⟩)) (hy:a.eval y= .agg (bs.map W8).toArray) (hbl:bs.length=192) (hl:l.length=192)
 (h:∀w',Blk w' g t (bs.map W8)→Only g w w'→wpList Tryz.prog ops Q rest a w'):wpList Tryz.prog ops Q (o :: rest) a w:=
 Qf8 192 hgd hd x y ho hg hx hy QhY hbl hl h
theorem Qkf (hgd:o.guard=none) (hd:o.dst=none) (x y:Operand) (ho:o.op= .store 78 x y) {g:Nat} {t:TypeId} {l:List Value} {bs:List UInt8} (hg:Blk w g t l) (hx:a.eval x= .pointer (some ⟨g,0,none⟩)) (hy:a.eval y= .agg (bs.map W8).toArray) (hbl:bs.length=192) (hl:l.length=192)
 (h:∀w',Blk w' g t (bs.map W8)→Only g w w'→wpList Tryz.prog ops Q rest a w'):wpList Tryz.prog ops Q (o :: rest) a w:=
 Qf8 192 hgd hd x y ho hg hx hy QhN hbl hl h
theorem Qfh (hw:Region.wanted o (yielded ops a.tmps)=true) (x:Operand) (ho:o.op= .load 53 x) {g:Nat} {t:TypeId} {bs:List UInt8} (hb:Blk w g t (bs.map W8)) (hl:bs.length=192) (hx:a.eval x= .pointer (some ⟨g,0,none⟩))
 (h:wpList Tryz.prog ops Q rest (a.put o.dst (.agg (bs.map W8).toArray)) w):wpList Tryz.prog ops Q (o :: rest) a w:=
 Qbe hw _ x ho g t _ hb hx _ Tryz.underlying53 rfl 192 QhY (by rw[QCE,hl]) h
theorem Qyd (hw:Region.wanted o (yielded ops a.tmps)=true) (x:Operand) (ho:o.op= .load 78 x) {g:Nat} {t:TypeId} {bs:List UInt8} (hb:Blk w g t (bs.map W8)) (hl:bs.length=192) (hx:a.eval x= .pointer (some ⟨g,0,none⟩))
 (h:wpList Tryz.prog ops Q rest (a.put o.dst (.agg (bs.map W8).toArray)) w):wpList Tryz.prog ops Q (o :: rest) a w:=
 Qbe hw _ x ho g t _ hb hx _ Tryz.underlying78 rfl 192 QhN (by rw[QCE,hl]) h
end
set_option maxRecDepth 100000 in
set_option maxHeartbeats 4000000 in
theorem QjK (al s:List UInt8) (hal:al.length=32) (hs:s.length=32) (w:World):
 Calls Tryz.prog 58 #[.agg (al.map W8).toArray,.agg (s.map W8).toArray] w fun e w'=>e= .returned (.tuple #[.agg ((k4 s++(al++s)).map W8).toArray,.int .i64 0])∧Later w w':=by
 have hO:=hid (fun (w:World) g h=>Qxx (some ⟨g,0,none⟩) 32 32 s w h (by omega) (by omega))
 rw[show ofB s=k4 s by rw[ofB,if_pos hs],show ofE s=0 by rw[ofE,if_pos hs]]at hO
 have hkl:=Qe7 s
 generalize k4 s=K at *
 have hbs:=Qpj K al s hkl hal hs
 have hTl:(K++(al++s)).length=192:=by simp[hkl,hal,hs]
 generalize K++(al++s)=T at *
 have hz1:Tryz.zeroCells51.toList.length=128:=by kernel_rfl
 have hz0:Tryz.zeroCells53.toList.length=192:=by kernel_rfl
 have C1:=Qbr w 30 (al.map W8)
 have C2:Bag w ((w.alloc (.cells (al.map W8).toArray 30)).alloc (.cells (s.map W8).toArray 30)) [(w.heap.size+1,30,s.map W8),(w.heap.size,30,al.map W8)]:=
  C1.add (Qaa _ _) (by simp) (by omega) (Blk.new' _ _ _ (by simp))
 have C3:Bag w (((w.alloc (.cells (al.map W8).toArray 30)).alloc (.cells (s.map W8).toArray 30)).alloc (.cells Tryz.zeroCells53 53)) [(w.heap.size+2,53,Tryz.zeroCells53.toList),(w.heap.size+1,30,s.map W8),(w.heap.size,30,al.map W8)]:=
  C2.add (Qaa _ _) (by simp) (by omega) (Blk.new' _ _ _ (by simp))
 clear C1 C2
 go_enter Tryz.func58,Tryz.ntmps58
 go_wp2_with fail
 generalize hW:((w.alloc _).alloc _).alloc _=w0
 replace C3:Bag w w0 [(w.heap.size+2,53,Tryz.zeroCells53.toList),(w.heap.size+1,30,s.map W8),(w.heap.size,30,al.map W8)]:=by rw[←hW];exact C3
 clear hW
 (with_reducible refine (hO.out _ _ (Qb8 (C3.nth 1 rfl) hs)).mono ?_);rintro e w1 ⟨rfl,j1⟩
 go_wp2_with (first
  | (refine QgU rfl rfl _ _ rfl (Blk.new w1 _ Tryz.zeroCells51.toList) rfl rfl hkl hz1 ?_;intro w2 hb2 ho2
     have C4:=C3.push (j1.trans (Qaa w1 _)) j1.size ho2 hb2)
  | (refine QvE rfl _ rfl (C4.nth 0 rfl) hkl rfl ?_)
  | (refine Qeo rfl _ rfl (C4.nth 3 rfl) hal rfl ?_)
  | (refine Qeo rfl _ rfl (C4.nth 2 rfl) hs rfl ?_)
  | (refine Qak rfl 53 _ rfl (T.map W8) ?hb ?_;(case hb=>simp only[QCW,QC7,QC2];exact hbs))
  | (refine QeK rfl rfl _ _ rfl (C4.nth 1 rfl) rfl rfl hTl hz0 ?_;intro w9 hb9 ho9)
  | fail)
 exact bodyPost_ret (Qag rfl _ _ _ _ _ _ hb9 rfl Tryz.underlying53 rfl (by rw[QCE,hTl];exact QhY)) rfl ⟨rfl,(C4.write 1 rfl ho9 hb9).lat⟩
set_option maxRecDepth 100000 in
set_option maxHeartbeats 4000000 in
theorem QoK (x b al:List UInt8) (hx:x.length=192) (hb:subB x 96 32=b) (hal:subB x 128 32=al) (w:World):
 Calls Tryz.prog 59 #[.agg (x.map W8).toArray] w fun e w'=>e= .returned (.tuple #[.agg ((Qbg b al).map W8).toArray,.int .i64 (QaX b al:Nat)])∧Later w w':=by
 have hbl:b.length=32:=by rw[←hb];exact Qan (by omega)
 have hall:al.length=32:=by rw[←hal];exact Qan (by omega)
 have hM:=hid (fun (w:World) g h1 h2=>QhH (some ⟨g,96,none⟩) (some ⟨g,128,none⟩) 32 32 32 32 b al w h1 h2 (by omega) (by omega))
 have hml:=QaP b al
 generalize Qbg b al=M at *
 generalize QaX b al=e9 at *
 have C1:=Qbr w 53 (x.map W8)
 have C2:Bag w ((w.alloc (.cells (x.map W8).toArray 53)).alloc (.cells (QCA 32 (Value.int .u8 0)).toArray 30)) [(w.heap.size+1,30,QCA 32 (Value.int .u8 0)),(w.heap.size,53,x.map W8)]:=
  C1.add (Qaa _ _) (by simp) (by omega) (Blk.new' _ _ _ (by simp))
 clear C1
 go_enter Tryz.func59,Tryz.ntmps59
 go_wp2_with fail
 generalize hW:(w.alloc _).alloc _=w0
 replace C2:Bag w w0 [(w.heap.size+1,30,QCA 32 (Value.int .u8 0)),(w.heap.size,53,x.map W8)]:=by rw[←hW];exact C2
 clear hW
 refine Qaf [([0,1,2,3,4],5)] [6,7] [8,9] (by as_aux_lemma=>kernel_rfl) (by as_aux_lemma=>kernel_rfl) (by intro _ _ d _ _ h;cases d<;>exact h) ?_
 simp only[Qah,pick,QCB,QCC,QCD,QCF,QCG]
 repeat (go_big_quiet_step (fail))
 refine wpQuiet_nil ?_
 go_wp2_with fail
 (with_reducible refine (hM.out _ _ (QbU (C2.drew.nth 1 rfl) hb hbl) (QbU (C2.drew.nth 1 rfl) hal hall)).mono ?_);rintro e w2 ⟨rfl,j2⟩
 go_wp2_with fail
 try refine⟨by first|assumption|exact Qab _|exact Qaa _ _|exact Later.refl _,?_⟩
 try simp only[Qah,pick,QCB,QCC,QCD,QCF,QCG]
 repeat (go_big_quiet_step (fail))
 refine wpQuiet_nil ?_
 go_wp2_with (first
  | (refine QaJ rfl rfl _ _ rfl ((C2.drew.later j2).nth 0 rfl) rfl rfl hml rfl ?_;intro w9 hb9 ho9)
  | fail)
 exact bodyPost_ret (Qag rfl _ _ _ _ _ _ hb9 rfl Tryz.underlying30 rfl (by rw[QCE,hml];exact Qbd)) rfl ⟨rfl,((C2.drew.later j2).write 0 rfl ho9 hb9).lat⟩
def Qit (al s:List UInt8):List UInt8:=k4 s++(al++s)
theorem Qhm (al s:List UInt8) (h:al.length=32) (hs:s.length=32):(Qit al s).length=192:=by simp[Qit,Qe7,h,hs]
theorem QnR (al s:List UInt8) (h:al.length=32):subB (Qit al s) 128 32=al:=by rw[Qit,Qcw _ _ _ _ _ (Qe7 s) h]
theorem QnP (al s:List UInt8):subB (Qit al s) 96 32=derB s QbT:=by
 rw[Qit,k4,show derB s sMac++(derB s Qdi++(derB s sPay++derB s QbT))++(al++s)=(derB s sMac++(derB s Qdi++derB s sPay))++(derB s QbT++(al++s)) by simp only[QCR],
  Qcw _ _ _ _ _ (by simp[Qaz]) (Qaz _ _)]
def QbB (ks us:List UInt8):List UInt8:=if QaX ks us=0 then Qit us (Qbg ks us) else QCA 192 0
theorem Qc5 (ks us:List UInt8):(QbB ks us).length=192:=by
 unfold QbB
 split
 ·rename_i h
  exact Qhm _ _ (Qii h).2 (QaP _ _)
 ·exact QCM
theorem QwT:Tryz.zeroCells53.toList.length=192:=by kernel_rfl
theorem QvP:Tryz.zeroCells78.toList=(QCA 192 (0:UInt8)).map W8:=by kernel_rfl
set_option maxRecDepth 100000 in
set_option maxHeartbeats 4000000 in
theorem Qvn (A B:Option Addr) (n c m d:Nat) (ks us:List UInt8) (w:World) (hk:RdB w A n ks) (hu:RdB w B m us) (hn:n≤140737488355328) (hm:m≤140737488355328):
 Calls Tryz.prog 65 #[.slice A n c,.slice B m d] w fun e w'=>e= .returned (.tuple #[.agg ((QbB ks us).map W8).toArray,.int .i64 (QaX ks us:Nat)])∧Later w w':=by
 have hkl:=hk.len
 have hul:=hu.len
 have B0:=Qbr w 53 Tryz.zeroCells53.toList
 have hz0:=QwT
 have hM:=hid (fun (w:World) A B c d h1 h2=>QhH A B n c m d ks us w h1 h2 hn hm)
 have hml:=QaP ks us
 have hP1:=hid (fun (h:QaX ks us=0)=>show QbB ks us=Qit us (Qbg ks us) by rw[QbB,if_pos h])
 have hP2:=hid (fun (h: ¬QaX ks us=0)=>show QbB ks us=QCA 192 0 by rw[QbB,if_neg h])
 have hlen:=hid (fun (h:QaX ks us=0)=>(Qii h).2)
 have hPl:=Qc5 ks us
 generalize QbB ks us=PL at *
 generalize Qbg ks us=M at *
 generalize QaX ks us=e9 at *
 by_cases he:e9=0
 ·have hP:=hP1.out he
  have hul2:=hlen.out he
  have hS:=hid (fun w=>QjK us M hul2 hml w)
  rw[show k4 M++(us++M)=PL from hP.symm]at hS
  obtain rfl:m=32:=by omega
  subst he
  clear hP1 hP2 hlen hP
  have hput:putB (QCA 32 (0:UInt8)) 0 us=us:=QkA _ _ (by simp[hul2])
  have hz32:(QCA 32 (0:UInt8)).length=32:=by simp
  have hzm:(QCA 32 (Value.int .u8 0))=(QCA 32 (0:UInt8)).map W8:=by rw[QDg];rfl
  generalize QCA 32 (0:UInt8)=Z at *
  have HP:=hid hput
  have HZ:=hid hzm
  clear hput hzm
  go_enter Tryz.func65,Tryz.ntmps65
  go_wp2_with fail
  generalize hW:w.alloc _=w0
  replace B0:Bag w w0 [(w.heap.size,53,Tryz.zeroCells53.toList)]:=by rw[←hW];exact B0
  clear hW
  (with_reducible refine (hM.out _ _ _ _ _ (hk.later B0.lat) (hu.later B0.lat)).mono ?_);rintro e w1 ⟨rfl,j1⟩
  go_wp2_with (first
   | (refine QaJ rfl rfl _ _ rfl (Blk.new w1 _ (QCA 32 (.int .u8 0))) rfl rfl hml rfl ?_;intro w2 hb2 ho2
      have B1:=B0.push (j1.trans (Qaa w1 _)) j1.size ho2 hb2
      have B2:=B1.add (Qaa w2 (.cells (QCA 32 (Value.int .u8 0)).toArray 30)) (k:=w2.heap.size) (by have h1:=(B1.nth 0 rfl).lt;have h2:=(B1.nth 1 rfl).lt;simp;omega) B1.lat.size ((Blk.new w2 _ (QCA 32 (.int .u8 0))).cast HZ.out))
   | (refine Qh4 0 32 rfl _ _ _ _ rfl 5 Tryz.underlying22 Qbu (B2.nth 0 rfl) (hu.later B2.lat) rfl rfl (by omega) ?_;intro w3 hb3 ho3
      rw[HP.out]at hb3
      have B3:=B2.write 0 rfl ho3 hb3)
   | (refine Qeo rfl _ rfl (B3.nth 0 rfl) hul2 rfl ?_)
   | (refine Qeo rfl _ rfl (B3.nth 1 rfl) hml rfl ?_)
   | fail)
  (with_reducible refine (hS.out _).mono ?_);rintro e w4 ⟨rfl,j4⟩
  go_wp2_with (first
   | (refine QeK rfl rfl _ _ rfl ((B3.later j4).nth 2 rfl) rfl rfl hPl hz0 ?_;intro w9 hb9 ho9)
   | fail)
  exact bodyPost_ret (Qag rfl _ _ _ _ _ _ hb9 rfl Tryz.underlying53 rfl (by rw[QCE,hPl];exact QhY)) rfl ⟨rfl,((B3.later j4).write 2 rfl ho9 hb9).lat⟩
 ·have hP:=hP2.out he
  have hb0:=QnE
  rw[←hP]at hb0
  have hne:((e9:Int) != 0)=true:=by simp;omega
  clear hP1 hP2 hlen hP
  go_enter Tryz.func65,Tryz.ntmps65
  go_wp2_with fail
  generalize hW:w.alloc _=w0
  replace B0:Bag w w0 [(w.heap.size,53,Tryz.zeroCells53.toList)]:=by rw[←hW];exact B0
  clear hW
  (with_reducible refine (hM.out _ _ _ _ _ (hk.later B0.lat) (hu.later B0.lat)).mono ?_);rintro e w1 ⟨rfl,j1⟩
  go_wp2_with (first
   | (refine QaJ rfl rfl _ _ rfl (Blk.new w1 _ (QCA 32 (.int .u8 0))) rfl rfl hml rfl ?_;intro w2 hb2 ho2
      have B1:=B0.push (j1.trans (Qaa w1 _)) j1.size ho2 hb2)
   | (refine Qak rfl 53 _ rfl (PL.map W8) ?hb ?_;(case hb=>simp only[QCW,QC2];exact hb0))
   | (refine QeK rfl rfl _ _ rfl (B1.nth 1 rfl) rfl rfl hPl hz0 ?_;intro w9 hb9 ho9)
   | fail)
  exact bodyPost_ret (Qag rfl _ _ _ _ _ _ hb9 rfl Tryz.underlying53 rfl (by rw[QCE,hPl];exact QhY)) rfl ⟨rfl,(B1.write 1 rfl ho9 hb9).lat⟩
theorem Qus (us M:List UInt8) (hu:us.length=32) (hM:M.length=32) (K:List UInt8) (hK:K.length=128):
 putB (putB (putB (QCA 192 (0:UInt8)) 128 us) 160 M) 0 K=K++(us++M):=by
 rw[show QCA 192 (0:UInt8)=QCA 128 0++(QCA 32 0++QCA 32 0) by simp]
 rw[QbH _ _ _ _ 128 (by simp) (by simp[hu]),←QCR,Qdb _ _ _ 160 (by simp[hu]) (by simp[hM]),QCR,QcS _ _ _ (by simp[hK])]
set_option maxRecDepth 100000 in
set_option maxHeartbeats 4000000 in
theorem QuE (A B:Option Addr) (n c m d:Nat) (ks us:List UInt8) (w:World) (hk:RdB w A n ks) (hu:RdB w B m us) (hn:n≤140737488355328) (hm:m≤140737488355328):
 Calls Tryz.prog 25 #[.slice A n c,.slice B m d] w fun e w'=>e= .returned (.tuple #[.agg ((QbB ks us).map W8).toArray,.int .i64 (QaX ks us:Nat)])∧Later w w':=by
 have hkl:=hk.len
 have hul:=hu.len
 have hzz:=QvP
 have B0:Bag w (w.alloc (.cells Tryz.zeroCells78 78)) [(w.heap.size,78,(QCA 192 (0:UInt8)).map W8)]:=(Bag.none w).add (Qaa _ _) (by simp) (QCL _) ((Blk.new w _ Tryz.zeroCells78.toList).cast hzz)
 have hM:=hid (fun (w:World) A B c d h1 h2=>Qow A B n c m d ks us w h1 h2 hn hm)
 have hml:=QaP ks us
 have hP1:=hid (fun (h:QaX ks us=0)=>show QbB ks us=Qit us (Qbg ks us) by rw[QbB,if_pos h])
 have hP2:=hid (fun (h: ¬QaX ks us=0)=>show QbB ks us=QCA 192 0 by rw[QbB,if_neg h])
 have hlen:=hid (fun (h:QaX ks us=0)=>(Qii h).2)
 have hPl:=Qc5 ks us
 have hzl:(QCA 192 (0:UInt8)).length=192:=by simp
 generalize QbB ks us=PL at *
 generalize Qbg ks us=M at *
 generalize QaX ks us=e9 at *
 by_cases he:e9=0
 ·have hP:=hP1.out he
  have hul2:=hlen.out he
  have hO:=hid (fun (w:World) g h=>Qug (some ⟨g,0,none⟩) 32 32 M w h (by omega))
  rw[show ofB M=k4 M by rw[ofB,if_pos hml],show ofE M=0 by rw[ofE,if_pos hml]]at hO
  have hput:=Qus us M hul2 hml (k4 M) (Qe7 M)
  have hkl4:=Qe7 M
  rw[Qit]at hP
  rw[←hP]at hput
  generalize k4 M=K at *
  obtain rfl:m=32:=by omega
  subst he
  clear hP1 hP2 hlen hP
  generalize hZ0:QCA 192 (0:UInt8)=Z at *
  have l1:(putB Z 128 us).length=192:=by rw[Qbc (by omega)];exact hzl
  have l2:(putB (putB Z 128 us) 160 M).length=192:=by rw[Qbc (by omega)];exact l1
  generalize hP1':putB Z 128 us=Z1 at *
  generalize hP2':putB Z1 160 M=Z2 at *
  have P1:=hid hP1'
  have P2:=hid hP2'
  have P3:=hid hput
  have HZ:=hid hzz
  have hZl:(Z.map W8).length=192:=by rw[QCE,hzl]
  clear hP1' hP2' hput hzz hZ0
  go_enter Tryz.func25,Tryz.ntmps25
  go_wp2_with fail
  generalize hW:w.alloc _=w0
  replace B0:Bag w w0 [(w.heap.size,78,Z.map W8)]:=by rw[←hW];exact B0
  clear hW
  (with_reducible refine (hM.out _ _ _ _ _ (hk.later B0.lat) (hu.later B0.lat)).mono ?_);rintro e w1 ⟨rfl,j1⟩
  go_wp2_with (first
   | (refine QaJ rfl rfl _ _ rfl (Blk.new w1 _ (QCA 32 (.int .u8 0))) rfl rfl hml rfl ?_;intro w2 hb2 ho2
      have B1:=B0.push (j1.trans (Qaa w1 _)) j1.size ho2 hb2
      have B2:=B1.add (Qaa w2 (.cells Tryz.zeroCells78 78)) (k:=w2.heap.size) (by have h1:=(B1.nth 0 rfl).lt;have h2:=(B1.nth 1 rfl).lt;simp;omega) B1.lat.size ((Blk.new w2 _ Tryz.zeroCells78.toList).cast HZ.out))
   | (refine Qh4 128 32 rfl _ _ _ _ rfl 5 Tryz.underlying22 Qbu (B2.nth 0 rfl) (hu.later B2.lat) rfl rfl (by omega) ?_;intro w3 hb3 ho3
      rw[P1.out]at hb3
      have B3:=B2.write 0 rfl ho3 hb3)
   | (refine Qeo rfl _ rfl (B3.nth 1 rfl) hml rfl ?_)
   | (refine Qf1 160 32 rfl rfl _ _ rfl (B3.nth 0 rfl) rfl rfl Qdn hml (by omega) ?_;intro w4 hb4 ho4;rw[P2.out]at hb4
      have B4:=B3.write 0 rfl ho4 hb4)
   | fail)
  (with_reducible refine (hO.out _ _ (Qb8 (B4.nth 1 rfl) hml)).mono ?_);rintro e w5 ⟨rfl,j5⟩
  go_wp2_with (first
   | (refine Qf1 0 128 rfl rfl _ _ rfl ((B4.later j5).nth 0 rfl) rfl rfl Qge hkl4 (by omega) ?_;intro w6 hb6 ho6;rw[P3.out]at hb6
      have B5:=(B4.later j5).write 0 rfl ho6 hb6)
   | (refine Qyd rfl _ rfl (B5.nth 0 rfl) hPl rfl ?_)
   | (refine Qkf rfl rfl _ _ rfl (B5.nth 2 rfl) rfl rfl hPl hZl ?_;intro w9 hb9 ho9)
   | fail)
  exact bodyPost_ret (Qag rfl _ _ _ _ _ _ hb9 rfl Tryz.underlying78 rfl (by rw[QCE,hPl];exact QhN)) rfl ⟨rfl,(B5.write 2 rfl ho9 hb9).lat⟩
 ·have hP:=hP2.out he
  have hb0:=Qlc
  rw[←hP]at hb0
  have hne:((e9:Int) != 0)=true:=by simp;omega
  have hz0:((QCA 192 (0:UInt8)).map W8).length=192:=by rw[QCE];exact hzl
  clear hP1 hP2 hlen hP hzl hzz
  generalize QCA 192 (0:UInt8)=Z at *
  go_enter Tryz.func25,Tryz.ntmps25
  go_wp2_with fail
  generalize hW:w.alloc _=w0
  replace B0:Bag w w0 [(w.heap.size,78,Z.map W8)]:=by rw[←hW];exact B0
  clear hW
  (with_reducible refine (hM.out _ _ _ _ _ (hk.later B0.lat) (hu.later B0.lat)).mono ?_);rintro e w1 ⟨rfl,j1⟩
  go_wp2_with (first
   | (refine QaJ rfl rfl _ _ rfl (Blk.new w1 _ (QCA 32 (.int .u8 0))) rfl rfl hml rfl ?_;intro w2 hb2 ho2
      have B1:=B0.push (j1.trans (Qaa w1 _)) j1.size ho2 hb2)
   | (refine Qak rfl 78 _ rfl (PL.map W8) ?hb ?_;(case hb=>simp only[QCW,QC2];exact hb0))
   | (refine Qkf rfl rfl _ _ rfl (B1.nth 1 rfl) rfl rfl hPl hz0 ?_;intro w9 hb9 ho9)
   | fail)
  exact bodyPost_ret (Qag rfl _ _ _ _ _ _ hb9 rfl Tryz.underlying78 rfl (by rw[QCE,hPl];exact QhN)) rfl ⟨rfl,(B1.write 1 rfl ho9 hb9).lat⟩
end Go.Proofs.YtdhgpkdjdmlphaaGreat
