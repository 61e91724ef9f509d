/-
  Lemmas for the last text of this claim (part 14 of 20).
-/
import Derived.ArgAppend
import Derived.BigQuiet
import Derived.BigRegion
import Derived.ChangeOld
import Derived.Deep.RegionWith
import Derived.DeepKeys4
import Derived.JoinedCond
import Derived.LaidMore
import Derived.Laws.BytesArg
import Derived.Laws.CopyOwn
import Derived.Laws.Externs
import Derived.Laws.IdiomStrings
import Derived.Laws.Tables
import Derived.Lib.AppendStr
import Derived.Lib.AppendZerosOnto
import Derived.Lib.Mul64
import Derived.Lib.SlBytesConst
import Derived.LoopN
import Derived.Maps.OwnSet
import Derived.OpenShut
import Derived.OrdersHeld
import Derived.ProofKit
import Derived.Shelf.Spec.BitsCarry
import Derived.ShutString
import Derived.Test.YtdhgpkdjdmlphaaGreatProg
import Derived.Test.YtdhgpkdjdmlphaaGreatRows
import Derived.WalkKit
import Derived.WalkLawsBesides
import Derived.WalkSpells
import Derived.Test.YtdhgpkdjdmlphaaGreatSB
import Derived.Test.YtdhgpkdjdmlphaaGreatSD
import Derived.Test.YtdhgpkdjdmlphaaGreatSH
import Derived.Test.YtdhgpkdjdmlphaaGreatSI
import Derived.Test.YtdhgpkdjdmlphaaGreatSK
open Bool renaming and_eq_true → QCZ, eq_iff_iff → QDv
open Int renaming natCast_mul → QEp, toNat_natCast → QEs
open List renaming replicate → QCC, getElem?_cons_succ → QCD, getElem?_cons_zero → QCE, length_map → QCG, nil_append → QCI, cons_append → QCJ, setIfInBounds_toArray → QCL, length_append → QCM, length_replicate → QCO, set_cons_zero → QCP, set_cons_succ → QCQ, getElem?_append_right → QCR, map_toArray → QCS, take_of_length_le → QCT, append_assoc → QCU, mem_cons → QCV, not_mem_nil → QCW, getElem?_eq_some_iff → QCX, getElem?_append_left → QC0, map_nil → QC2, length_drop → QC7, take_append_drop → QC9, map_cons → QDa, map_replicate → QDi, map_append → QDo, range → QDt, mem_map → QDu, drop_drop → QD5, mem_append → QD7, map_take → QEt, mem_singleton → QEG, range_succ → QEN
open Nat renaming le_refl → QCN, lt_of_lt_of_le → QC3, le_trans → QDk, mul_comm → QDz, le_mul_of_pos_right → QDK, sub_self → QD0
open Option renaming toList_some → QCF, map_some → QEc
set_option linter.all false
namespace Go.Proofs.YtdhgpkdjdmlphaaGreat
open Go.RowKit
open Go.BigFrame
abbrev sMac:ByteArray:=⟨#[109,97,99]⟩
abbrev QeH:ByteArray:=⟨#[115,116,114,101,97,109]⟩
abbrev sPay:ByteArray:=⟨#[112,97,121]⟩
abbrev Qcc:ByteArray:=⟨#[98,108,105,110,100]⟩
def k4 (s:List UInt8):List UInt8:=derB s sMac++(derB s QeH++(derB s sPay++derB s Qcc))
theorem QhU (s:List UInt8):(k4 s).length=128:=by simp[k4,QaF]
theorem Qyv (s:List UInt8):Qds s [sMac,QeH,sPay,Qcc] 4=k4 s:=by
 rw[Qds,k4]
 simp
def ofB (s:List UInt8):List UInt8:=if s.length=32 then k4 s else QCC 128 0
def ofE (s:List UInt8):Nat:=if s.length=32 then 0 else 2
theorem Qkp:(Tryz.prog.info? 51).map (·.size)=some 128:=by kernel_rfl
theorem QwV:(Tryz.prog.info? 51).bind (·.zero)=some (.agg (QCC 128 (W8 0)).toArray):=by kernel_rfl
theorem Qp1 (p q r s:List UInt8) (hp:p.length=32) (hq:q.length=32) (hr:r.length=32) (hs:s.length=32):
 Program.built Tryz.prog 51 [(0,.agg (p.map W8).toArray),(1,.agg (q.map W8).toArray),(2,.agg (r.map W8).toArray),(3,.agg (s.map W8).toArray)]=some ((p++(q++(r++s))).map W8).toArray:=by
 have h:=QfS (n:=128) (pl:=[(0,32),(32,32),(64,32),(96,32)]) Tryz.underlying51 QwV (by kernel_rfl) [(0,0,p),(1,32,q),(2,64,r),(3,96,s)] (by
  intro x hx
  simp only[QCV,QCW,or_false]at hx
  rcases hx with rfl|rfl|rfl|rfl<;>simp[hp,hq,hr,hs])
 rw[show QfP (QCC 128 0) ([(0,0,p),(1,32,q),(2,64,r),(3,96,s)].map fun x=>(x.2.1,x.2.2))=p++(q++(r++s)) by
  simp only[QDa,QC2,QfP]
  rw[show QCC 128 (0:UInt8)=QCC 32 0++(QCC 32 0++(QCC 32 0++QCC 32 0)) by simp]
  rw[Qeu _ _ _ (by simp[hp]),Qcg _ _ _ _ 32 hp (by simp[hq])]
  rw[←QCU p q,Qcg _ _ _ _ 64 (by simp[hp,hq]) (by simp[hr]),←QCU _ r,Qe9 _ _ _ 96 (by simp[hp,hq,hr]) (by simp[hs])]
  simp]at h
 exact h
theorem QnT:Program.built Tryz.prog 51 []=some ((QCC 128 (0:UInt8)).map W8).toArray:=by
 rw[QDi]
 kernel_rfl
section
variable {ops:Array Oper} {rest:List Oper} {o:Oper} {a:Act} {w:World} {Q:Exit→Act→World→Prop}
theorem Qmz (hgd:o.guard=none) (hd:o.dst=none) (x y:Operand) (ho:o.op= .store 51 x y) {g:Nat} {t:TypeId} {l:List Value} {bs:List UInt8} (hg:Blk w g t l) (hx:a.eval x= .pointer (some ⟨g,0,none⟩)) (hy:a.eval y= .agg (bs.map W8).toArray) (hbl:bs.length=128) (hl:l.length=128)
 (h:∀w',Blk w' g t (bs.map W8)→Only g w w'→wpList Tryz.prog ops Q rest a w'):wpList Tryz.prog ops Q (o :: rest) a w:=
 QgL 128 hgd hd x y ho hg hx hy Qkp hbl hl h
theorem QyL (hw:Region.wanted o (yielded ops a.tmps)=true) (x:Operand) (ho:o.op= .load 51 x) {g:Nat} {t:TypeId} {bs:List UInt8} (hb:Blk w g t (bs.map W8)) (hl:bs.length=128) (hx:a.eval x= .pointer (some ⟨g,0,none⟩))
 (h:wpList Tryz.prog ops Q rest (a.put o.dst (.agg (bs.map W8).toArray)) w):wpList Tryz.prog ops Q (o :: rest) a w:=
 Qbp hw _ x ho g t _ hb hx _ Tryz.underlying51 rfl 128 Qkp (by rw[QCG,hl]) h
end
set_option maxRecDepth 100000 in
set_option maxHeartbeats 4000000 in
theorem Qyl (A:Option Addr) (n c:Nat) (s:List UInt8) (w:World) (hx:RdB w A n s) (hc:n≤c) (hn:n≤35184372088832):
 Calls Tryz.prog 96 #[.slice A n c] w fun e w'=>e= .returned (.tuple #[.agg ((ofB s).map W8).toArray,.int .i64 (ofE s:Nat)])∧Later w w':=by
 have hl:=hx.len
 have B0:=Qba w 51 Tryz.zeroCells51.toList
 have hz0:Tryz.zeroCells51.toList.length=128:=by kernel_rfl
 by_cases h32:n=32
 ·subst h32
  have e1:ofE s=0:=by rw[ofE,if_pos hl]
  have e2:ofB s=k4 s:=by rw[ofB,if_pos hl]
  rw[e1,e2]
  clear e1 e2
  have hD:=hid (fun (w:World) B d h1 h2=>Qjx A B 32 c 4 d s [sMac,QeH,sPay,Qcc] w h1 hc hn h2 (by omega) (by omega) (by intro x hx;simp only[QCV,QCW,or_false]at hx;rcases hx with rfl|rfl|rfl|rfl<;>decide))
  rw[Qyv]at hD
  rw[k4]at *
  have hp:=QaF s sMac
  have hq:=QaF s QeH
  have hr:=QaF s sPay
  have ht:=QaF s Qcc
  generalize derB s sMac=p at *
  generalize derB s QeH=q at *
  generalize derB s sPay=r at *
  generalize derB s Qcc=t at *
  have hbk:=Qp1 p q r t hp hq hr ht
  obtain⟨K,hK⟩:∃K,K=p++(q++(r++t)):=⟨_,rfl⟩
  rw[←hK]at hD hbk ⊢
  have s0:subB K 0 32=p:=by rw[hK,Qjm _ _ _ hp]
  have s1:subB K 32 32=q:=by rw[hK,QbW _ _ _ _ _ hp hq]
  have s2:subB K 64 32=r:=by rw[hK,←QCU,QbW _ _ _ _ _ (by simp[hp,hq]) hr]
  have s3:subB K 96 32=t:=by rw[hK,←QCU,←QCU,Qmk _ _ _ _ (by simp[hp,hq,hr]) ht]
  have hKl:K.length=128:=by rw[hK];simp[hp,hq,hr,ht]
  clear hK
  go_enter Tryz.func96,Tryz.ntmps96
  go_wp2_with fail
  generalize hW:(w.alloc _).alloc _=w1
  have B1:Bag w w1 [(w.heap.size,51,Tryz.zeroCells51.toList)]:=by rw[←hW];exact B0.later (Qaa _ _)
  have hS:Strs w1 (some ⟨w.heap.size+1,0,none⟩) 4 [sMac,QeH,sPay,Qcc]:=by
   rw[←hW]
   exact Blk.rd (Blk.new' (w.alloc (.cells Tryz.zeroCells51 51)) 9 [Value.string sMac,Value.string QeH,Value.string sPay,Value.string Qcc] (by simp)) rfl
  clear hW
  (with_reducible refine (hD.out _ _ 4 (hx.later B1.lat) hS).mono ?_);rintro e w2 ⟨g,rfl,hg,hb2,j2⟩
  have B2:=(B1.later j2).add (Qab _) (k:=g) (by have:=(B1.nth 0 rfl).lt;simp;omega) (by have:=B1.lat.size;omega) hb2.drew
  clear hS hb2 hg B0 j2 B1
  go_wp2_with fail
  refine Qag [] [0,1,2,3,4,5,6,7,8,9,10,11,12] [13,14] (by as_aux_lemma=>kernel_rfl) (by as_aux_lemma=>kernel_rfl) (by intro _ _ d _ _ h;cases d<;>exact h) ?_
  simp only[Qai,pick,QCD,QCE,QCF,QCJ,QCI]
  repeat (first|go_big_quiet_skip|(go_big_quiet_want;(first|refine QgH 0 32 _ rfl (B2.nth 0 rfl) rfl Tryz.underlying30 rfl Qc6 s0 hp ?_|refine QgH 32 32 _ rfl (B2.nth 0 rfl) rfl Tryz.underlying30 rfl Qc6 s1 hq ?_|refine QgH 64 32 _ rfl (B2.nth 0 rfl) rfl Tryz.underlying30 rfl Qc6 s2 hr ?_|refine QgH 96 32 _ rfl (B2.nth 0 rfl) rfl Tryz.underlying30 rfl Qc6 s3 ht ?_|refine QbN _ _ rfl (K.map W8) (by simp only[QCS,QDa,QC2];exact hbk) ?_);simp only[Act.put,QCL,QCQ,QCP];go_big_quiet_on)|(go_big_quiet_step (fail)))
  refine wpQuiet_nil ?_
  go_wp2_with (first
   | (refine Qmz rfl rfl _ _ rfl (B2.nth 1 rfl) rfl rfl hKl hz0 ?_;intro w9 hb9 ho9)
   | fail)
  exact bodyPost_ret (Qaf rfl _ _ _ _ _ _ hb9 rfl Tryz.underlying51 rfl (by rw[QCG,hKl];exact Qkp)) rfl ⟨rfl,(B2.write 1 rfl ho9 hb9).lat⟩
 ·have e1:ofE s=2:=by rw[ofE,if_neg (by omega)]
  have e2:ofB s=QCC 128 0:=by rw[ofB,if_neg (by omega)]
  rw[e1,e2]
  clear e1 e2
  have hb0:=QnT
  have hzl:(QCC 128 (0:UInt8)).length=128:=by simp
  generalize QCC 128 (0:UInt8)=Z at *
  have hne:((n:Int) != 32)=true:=by simp;omega
  go_enter Tryz.func96,Tryz.ntmps96
  go_wp2_with (first
   | (refine Qal rfl 51 _ rfl (Z.map W8) ?hb ?_;(case hb=>simp only[QCS,QC2];exact hb0))
   | (refine Qmz rfl rfl _ _ rfl (B0.nth 0 rfl) rfl rfl hzl hz0 ?_;intro w9 hb9 ho9)
   | fail)
  exact bodyPost_ret (Qaf rfl _ _ _ _ _ _ hb9 rfl Tryz.underlying51 rfl (by rw[QCG,hzl];exact Qkp)) rfl ⟨rfl,(Qaa _ _).only ho9 (QCN _)⟩
theorem QjM (x y:List UInt8) (off n:Nat):(subB x off n==subB y off n&&x.drop (off+n)==y.drop (off+n))=(x.drop off==y.drop off):=by
 rw[QDv]
 simp only[QCZ,beq_iff_eq,subB,←QD5]
 constructor
 ·rintro⟨h1,h2⟩
  rw[←QC9 n (x.drop off),h1,h2,QC9]
 ·intro h
  rw[h]
  exact⟨rfl,rfl⟩
theorem Qmx (x y:List UInt8) (off n:Nat) (hx:x.length=off+n) (hy:y.length=off+n):(subB x off n==subB y off n)=(x.drop off==y.drop off):=by
 rw[subB,subB,QCT (by rw[QC7];omega),QCT (by rw[QC7];omega)]
theorem QbA (x:List UInt8) (off n:Nat):(((x.map W8).drop off).take n)=(subB x off n).map W8:=by rw[subB,QEt,List.map_drop]
abbrev Y128:={l:List UInt8 // l.length=128}
theorem Qlm {P:Program} {t:TypeId} {fs:Array Field} (hu:P.underlying t=some (.struct fs)):P.fieldsOf t=fs:=by unfold Program.fieldsOf;rw[hu]
theorem Qyf (d:Nat) (x y:List UInt8) (hx:x.length=128) (hy:y.length=128) (w:World):
 (Op.eqFields (d+2) (x.map W8).toArray (y.map W8).toArray (Tryz.prog.fieldsOf 51).toList).run Tryz.prog w= .ok (x==y) w:=by
 rw[Qlm Tryz.underlying51]
 have l1:∀off,off+32≤128→(subB x off 32).length=32:=fun off h=>Qam (by omega)
 have l2:∀off,off+32≤128→(subB y off 32).length=32:=fun off h=>Qam (by omega)
 rw[Qb3 (k:=0) rfl (by decide) rfl (QbA x 0 32) (QbA y 0 32) (l1 _ (by omega)) (l2 _ (by omega)),Qb3 (k:=32) rfl (by decide) rfl (QbA x 32 32) (QbA y 32 32) (l1 _ (by omega)) (l2 _ (by omega)),
  Qb3 (k:=64) rfl (by decide) rfl (QbA x 64 32) (QbA y 64 32) (l1 _ (by omega)) (l2 _ (by omega)),Qb3 (k:=96) rfl (by decide) rfl (QbA x 96 32) (QbA y 96 32) (l1 _ (by omega)) (l2 _ (by omega)),Qdd]
 have h:(x==y)=(subB x 0 32==subB y 0 32&&(subB x 32 32==subB y 32 32&&(subB x 64 32==subB y 64 32&&subB x 96 32==subB y 96 32))):=by
  rw[Qmx x y 96 32 (by omega) (by omega),QjM x y 64 32,QjM x y 32 32,QjM x y 0 32]
  rfl
 rw[h]
 cases subB x 0 32==subB y 0 32<;>cases subB x 32 32==subB y 32 32<;>cases subB x 64 32==subB y 64 32<;>cases subB x 96 32==subB y 96 32<;>rfl
theorem QuP:Tryz.prog.eqGuardType Tryz.prog.depth 51=false:=by kernel_rfl
theorem Qpd:Tryz.prog.stoodInHeld 51=false:=by kernel_rfl
theorem QnI:Tryz.prog.underlying 51=some (.struct (Tryz.prog.fieldsOf 51)):=by rw[Qlm Tryz.underlying51];exact Tryz.underlying51
@[go_sem high] theorem Qwx (op:BinOp) (x y:Operand) (xs ys:Array Value) (w:World):(eqGuard op 51 x y (.agg xs) (.agg ys)).run Tryz.prog w= .ok () w:=run_eqGuard_agg w op _ x y xs ys QuP
@[go_sem high] theorem Qwz (x y:Y128) (w:World):(binOp .eql 51 (.agg (x.val.map W8).toArray) (.agg (y.val.map W8).toArray)).run Tryz.prog w= .ok (.bool (x.val==y.val)) w:=by
  rw[Qgd QnI Qpd,Qyf 9997 _ _ x.2 y.2]
  rfl
theorem Qie:(Tryz.prog.info? 53).map (·.size)=some 192:=by kernel_rfl
theorem Qxb:(Tryz.prog.info? 53).bind (·.zero)=some (.agg (QCC 192 (W8 0)).toArray):=by kernel_rfl
theorem put3 (k a s:List UInt8) (hk:k.length=128) (ha:a.length=32) (hs:s.length=32):QfP (QCC 192 0) [(0,k),(128,a),(160,s)]=k++(a++s):=by
 simp only[QfP]
 rw[show QCC 192 (0:UInt8)=QCC 128 0++(QCC 32 0++QCC 32 0) by simp]
 rw[Qeu _ _ _ (by simp[hk]),Qcg _ _ _ _ 128 hk (by simp[ha]),←QCU,Qe9 _ _ _ 160 (by simp[hk,ha]) (by simp[hs]),QCU]
theorem QpV (k a s:List UInt8) (hk:k.length=128) (ha:a.length=32) (hs:s.length=32):
 Program.built Tryz.prog 53 [(0,.agg (k.map W8).toArray),(1,.agg (a.map W8).toArray),(2,.agg (s.map W8).toArray)]=some ((k++(a++s)).map W8).toArray:=by
 have h:=QfS (n:=192) (pl:=[(0,128),(128,32),(160,32)]) Tryz.underlying53 Qxb (by kernel_rfl) [(0,0,k),(1,128,a),(2,160,s)] (by
  intro x hx
  simp only[QCV,QCW,or_false]at hx
  rcases hx with rfl|rfl|rfl<;>simp[hk,ha,hs])
 rw[show QfP (QCC 192 0) ([(0,0,k),(1,128,a),(2,160,s)].map fun x=>(x.2.1,x.2.2))=k++(a++s) from put3 k a s hk ha hs]at h
 exact h
theorem QnN:Program.built Tryz.prog 53 []=some ((QCC 192 (0:UInt8)).map W8).toArray:=by
 rw[QDi]
 kernel_rfl
section
variable {ops:Array Oper} {rest:List Oper} {o:Oper} {a:Act} {w:World} {Q:Exit→Act→World→Prop}
theorem Qec (hgd:o.guard=none) (hd:o.dst=none) (x y:Operand) (ho:o.op= .store 53 x y) {g:Nat} {t:TypeId} {l:List Value} {bs:List UInt8} (hg:Blk w g t l) (hx:a.eval x= .pointer (some ⟨g,0,none⟩)) (hy:a.eval y= .agg (bs.map W8).toArray) (hbl:bs.length=192) (hl:l.length=192)
 (h:∀w',Blk w' g t (bs.map W8)→Only g w w'→wpList Tryz.prog ops Q rest a w'):wpList Tryz.prog ops Q (o :: rest) a w:=
 QgL 192 hgd hd x y ho hg hx hy Qie hbl hl h
theorem QeN (hw:Region.wanted o (yielded ops a.tmps)=true) (x:Operand) (ho:o.op= .load 53 x) {g:Nat} {t:TypeId} {bs:List UInt8} (hb:Blk w g t (bs.map W8)) (hl:bs.length=192) (hx:a.eval x= .pointer (some ⟨g,0,none⟩))
 (h:wpList Tryz.prog ops Q rest (a.put o.dst (.agg (bs.map W8).toArray)) w):wpList Tryz.prog ops Q (o :: rest) a w:=
 Qbp hw _ x ho g t _ hb hx _ Tryz.underlying53 rfl 192 Qie (by rw[QCG,hl]) h
end
set_option maxRecDepth 100000 in
set_option maxHeartbeats 4000000 in
theorem Qjy (al s:List UInt8) (hal:al.length=32) (hs:s.length=32) (w:World):
 Calls Tryz.prog 58 #[.agg (al.map W8).toArray,.agg (s.map W8).toArray] w fun e w'=>e= .returned (.tuple #[.agg ((k4 s++(al++s)).map W8).toArray,.int .i64 0])∧Later w w':=by
 have hO:=hid (fun (w:World) g h=>Qyl (some ⟨g,0,none⟩) 32 32 s w h (by omega) (by omega))
 rw[show ofB s=k4 s by rw[ofB,if_pos hs],show ofE s=0 by rw[ofE,if_pos hs]]at hO
 have hkl:=QhU s
 generalize k4 s=K at *
 have hbs:=QpV K al s hkl hal hs
 have hTl:(K++(al++s)).length=192:=by simp[hkl,hal,hs]
 generalize K++(al++s)=T at *
 have hz1:Tryz.zeroCells51.toList.length=128:=by kernel_rfl
 have hz0:Tryz.zeroCells53.toList.length=192:=by kernel_rfl
 have C1:=Qba w 30 (al.map W8)
 have C2:Bag w ((w.alloc (.cells (al.map W8).toArray 30)).alloc (.cells (s.map W8).toArray 30)) [(w.heap.size+1,30,s.map W8),(w.heap.size,30,al.map W8)]:=
  C1.add (Qaa _ _) (by simp) (by omega) (Blk.new' _ _ _ (by simp))
 have C3:Bag w (((w.alloc (.cells (al.map W8).toArray 30)).alloc (.cells (s.map W8).toArray 30)).alloc (.cells Tryz.zeroCells53 53)) [(w.heap.size+2,53,Tryz.zeroCells53.toList),(w.heap.size+1,30,s.map W8),(w.heap.size,30,al.map W8)]:=
  C2.add (Qaa _ _) (by simp) (by omega) (Blk.new' _ _ _ (by simp))
 clear C1 C2
 go_enter Tryz.func58,Tryz.ntmps58
 go_wp2_with fail
 generalize hW:((w.alloc _).alloc _).alloc _=w0
 replace C3:Bag w w0 [(w.heap.size+2,53,Tryz.zeroCells53.toList),(w.heap.size+1,30,s.map W8),(w.heap.size,30,al.map W8)]:=by rw[←hW];exact C3
 clear hW
 (with_reducible refine (hO.out _ _ (Qb9 (C3.nth 1 rfl) hs)).mono ?_);rintro e w1 ⟨rfl,j1⟩
 go_wp2_with (first
  | (refine Qmz rfl rfl _ _ rfl (Blk.new w1 _ Tryz.zeroCells51.toList) rfl rfl hkl hz1 ?_;intro w2 hb2 ho2
     have C4:=C3.push (j1.trans (Qaa w1 _)) j1.size ho2 hb2)
  | (refine QyL rfl _ rfl (C4.nth 0 rfl) hkl rfl ?_)
  | (refine QeW rfl _ rfl (C4.nth 3 rfl) hal rfl ?_)
  | (refine QeW rfl _ rfl (C4.nth 2 rfl) hs rfl ?_)
  | (refine Qal rfl 53 _ rfl (T.map W8) ?hb ?_;(case hb=>simp only[QCS,QDa,QC2];exact hbs))
  | (refine Qec rfl rfl _ _ rfl (C4.nth 1 rfl) rfl rfl hTl hz0 ?_;intro w9 hb9 ho9)
  | fail)
 exact bodyPost_ret (Qaf rfl _ _ _ _ _ _ hb9 rfl Tryz.underlying53 rfl (by rw[QCG,hTl];exact Qie)) rfl ⟨rfl,(C4.write 1 rfl ho9 hb9).lat⟩
set_option maxRecDepth 100000 in
set_option maxHeartbeats 4000000 in
theorem Qoq (x b al:List UInt8) (hx:x.length=192) (hb:subB x 96 32=b) (hal:subB x 128 32=al) (w:World):
 Calls Tryz.prog 59 #[.agg (x.map W8).toArray] w fun e w'=>e= .returned (.tuple #[.agg ((Qbj b al).map W8).toArray,.int .i64 (Qa2 b al:Nat)])∧Later w w':=by
 have hbl:b.length=32:=by rw[←hb];exact Qam (by omega)
 have hall:al.length=32:=by rw[←hal];exact Qam (by omega)
 have hM:=hid (fun (w:World) g h1 h2=>QhL (some ⟨g,96,none⟩) (some ⟨g,128,none⟩) 32 32 32 32 b al w h1 h2 (by omega) (by omega))
 have hml:=QaV b al
 generalize Qbj b al=M at *
 generalize Qa2 b al=e9 at *
 have C1:=Qba w 53 (x.map W8)
 have C2:Bag w ((w.alloc (.cells (x.map W8).toArray 53)).alloc (.cells (QCC 32 (Value.int .u8 0)).toArray 30)) [(w.heap.size+1,30,QCC 32 (Value.int .u8 0)),(w.heap.size,53,x.map W8)]:=
  C1.add (Qaa _ _) (by simp) (by omega) (Blk.new' _ _ _ (by simp))
 clear C1
 go_enter Tryz.func59,Tryz.ntmps59
 go_wp2_with fail
 generalize hW:(w.alloc _).alloc _=w0
 replace C2:Bag w w0 [(w.heap.size+1,30,QCC 32 (Value.int .u8 0)),(w.heap.size,53,x.map W8)]:=by rw[←hW];exact C2
 clear hW
 refine Qag [([0,1,2,3,4],5)] [6,7] [8,9] (by as_aux_lemma=>kernel_rfl) (by as_aux_lemma=>kernel_rfl) (by intro _ _ d _ _ h;cases d<;>exact h) ?_
 simp only[Qai,pick,QCD,QCE,QCF,QCJ,QCI]
 repeat (go_big_quiet_step (fail))
 refine wpQuiet_nil ?_
 go_wp2_with fail
 (with_reducible refine (hM.out _ _ (QbK (C2.drew.nth 1 rfl) hb hbl) (QbK (C2.drew.nth 1 rfl) hal hall)).mono ?_);rintro e w2 ⟨rfl,j2⟩
 go_wp2_with fail
 try refine⟨by first|assumption|exact Qab _|exact Qaa _ _|exact Later.refl _,?_⟩
 try simp only[Qai,pick,QCD,QCE,QCF,QCJ,QCI]
 repeat (go_big_quiet_step (fail))
 refine wpQuiet_nil ?_
 go_wp2_with (first
  | (refine QaK rfl rfl _ _ rfl ((C2.drew.later j2).nth 0 rfl) rfl rfl hml rfl ?_;intro w9 hb9 ho9)
  | fail)
 exact bodyPost_ret (Qaf rfl _ _ _ _ _ _ hb9 rfl Tryz.underlying30 rfl (by rw[QCG,hml];exact Qbe)) rfl ⟨rfl,((C2.drew.later j2).write 0 rfl ho9 hb9).lat⟩
def Qkr (al s:List UInt8):List UInt8:=k4 s++(al++s)
theorem Qhf (al s:List UInt8) (h:al.length=32) (hs:s.length=32):(Qkr al s).length=192:=by simp[Qkr,QhU,h,hs]
theorem QmE (al s:List UInt8) (h:al.length=32):subB (Qkr al s) 128 32=al:=by rw[Qkr,QbW _ _ _ _ _ (QhU s) h]
theorem QnS (al s:List UInt8):subB (Qkr al s) 96 32=derB s Qcc:=by
 rw[Qkr,k4,show derB s sMac++(derB s QeH++(derB s sPay++derB s Qcc))++(al++s)=(derB s sMac++(derB s QeH++derB s sPay))++(derB s Qcc++(al++s)) by simp only[QCU],
  QbW _ _ _ _ _ (by simp[QaF]) (QaF _ _)]
def Qb2 (ks us:List UInt8):List UInt8:=if Qa2 ks us=0 then Qkr us (Qbj ks us) else QCC 192 0
theorem QcM (ks us:List UInt8):(Qb2 ks us).length=192:=by
 unfold Qb2
 split
 ·rename_i h
  exact Qhf _ _ (Qld h).2 (QaV _ _)
 ·exact QCO
theorem Quf:Tryz.zeroCells53.toList.length=192:=by kernel_rfl
set_option maxRecDepth 100000 in
set_option maxHeartbeats 4000000 in
theorem QoH (A B:Option Addr) (n c m d:Nat) (ks us:List UInt8) (w:World) (hk:RdB w A n ks) (hu:RdB w B m us) (hn:n≤140737488355328) (hm:m≤140737488355328):
 Calls Tryz.prog 65 #[.slice A n c,.slice B m d] w fun e w'=>e= .returned (.tuple #[.agg ((Qb2 ks us).map W8).toArray,.int .i64 (Qa2 ks us:Nat)])∧Later w w':=by
 have hkl:=hk.len
 have hul:=hu.len
 have B0:=Qba w 53 Tryz.zeroCells53.toList
 have hz0:=Quf
 have hM:=hid (fun (w:World) A B c d h1 h2=>QhL A B n c m d ks us w h1 h2 hn hm)
 have hml:=QaV ks us
 have hP1:=hid (fun (h:Qa2 ks us=0)=>show Qb2 ks us=Qkr us (Qbj ks us) by rw[Qb2,if_pos h])
 have hP2:=hid (fun (h: ¬Qa2 ks us=0)=>show Qb2 ks us=QCC 192 0 by rw[Qb2,if_neg h])
 have hlen:=hid (fun (h:Qa2 ks us=0)=>(Qld h).2)
 have hPl:=QcM ks us
 generalize Qb2 ks us=PL at *
 generalize Qbj ks us=M at *
 generalize Qa2 ks us=e9 at *
 by_cases he:e9=0
 ·have hP:=hP1.out he
  have hul2:=hlen.out he
  have hS:=hid (fun w=>Qjy us M hul2 hml w)
  rw[show k4 M++(us++M)=PL from hP.symm]at hS
  obtain rfl:m=32:=by omega
  subst he
  clear hP1 hP2 hlen hP
  have hput:putB (QCC 32 (0:UInt8)) 0 us=us:=Qku _ _ (by simp[hul2])
  have hz32:(QCC 32 (0:UInt8)).length=32:=by simp
  have hzm:(QCC 32 (Value.int .u8 0))=(QCC 32 (0:UInt8)).map W8:=by rw[QDi];rfl
  generalize QCC 32 (0:UInt8)=Z at *
  have HP:=hid hput
  have HZ:=hid hzm
  clear hput hzm
  go_enter Tryz.func65,Tryz.ntmps65
  go_wp2_with fail
  generalize hW:w.alloc _=w0
  replace B0:Bag w w0 [(w.heap.size,53,Tryz.zeroCells53.toList)]:=by rw[←hW];exact B0
  clear hW
  (with_reducible refine (hM.out _ _ _ _ _ (hk.later B0.lat) (hu.later B0.lat)).mono ?_);rintro e w1 ⟨rfl,j1⟩
  go_wp2_with (first
   | (refine QaK rfl rfl _ _ rfl (Blk.new w1 _ (QCC 32 (.int .u8 0))) rfl rfl hml rfl ?_;intro w2 hb2 ho2
      have B1:=B0.push (j1.trans (Qaa w1 _)) j1.size ho2 hb2
      have B2:=B1.add (Qaa w2 (.cells (QCC 32 (Value.int .u8 0)).toArray 30)) (k:=w2.heap.size) (by have h1:=(B1.nth 0 rfl).lt;have h2:=(B1.nth 1 rfl).lt;simp;omega) B1.lat.size ((Blk.new w2 _ (QCC 32 (.int .u8 0))).cast HZ.out))
   | (refine QjI 0 32 rfl _ _ _ _ rfl 5 Tryz.underlying22 QbY (B2.nth 0 rfl) (hu.later B2.lat) rfl rfl (by omega) ?_;intro w3 hb3 ho3
      rw[HP.out]at hb3
      have B3:=B2.write 0 rfl ho3 hb3)
   | (refine QeW rfl _ rfl (B3.nth 0 rfl) hul2 rfl ?_)
   | (refine QeW rfl _ rfl (B3.nth 1 rfl) hml rfl ?_)
   | fail)
  (with_reducible refine (hS.out _).mono ?_);rintro e w4 ⟨rfl,j4⟩
  go_wp2_with (first
   | (refine Qec rfl rfl _ _ rfl ((B3.later j4).nth 2 rfl) rfl rfl hPl hz0 ?_;intro w9 hb9 ho9)
   | fail)
  exact bodyPost_ret (Qaf rfl _ _ _ _ _ _ hb9 rfl Tryz.underlying53 rfl (by rw[QCG,hPl];exact Qie)) rfl ⟨rfl,((B3.later j4).write 2 rfl ho9 hb9).lat⟩
 ·have hP:=hP2.out he
  have hb0:=QnN
  rw[←hP]at hb0
  have hne:((e9:Int) != 0)=true:=by simp;omega
  clear hP1 hP2 hlen hP
  go_enter Tryz.func65,Tryz.ntmps65
  go_wp2_with fail
  generalize hW:w.alloc _=w0
  replace B0:Bag w w0 [(w.heap.size,53,Tryz.zeroCells53.toList)]:=by rw[←hW];exact B0
  clear hW
  (with_reducible refine (hM.out _ _ _ _ _ (hk.later B0.lat) (hu.later B0.lat)).mono ?_);rintro e w1 ⟨rfl,j1⟩
  go_wp2_with (first
   | (refine QaK rfl rfl _ _ rfl (Blk.new w1 _ (QCC 32 (.int .u8 0))) rfl rfl hml rfl ?_;intro w2 hb2 ho2
      have B1:=B0.push (j1.trans (Qaa w1 _)) j1.size ho2 hb2)
   | (refine Qal rfl 53 _ rfl (PL.map W8) ?hb ?_;(case hb=>simp only[QCS,QC2];exact hb0))
   | (refine Qec rfl rfl _ _ rfl (B1.nth 1 rfl) rfl rfl hPl hz0 ?_;intro w9 hb9 ho9)
   | fail)
  exact bodyPost_ret (Qaf rfl _ _ _ _ _ _ hb9 rfl Tryz.underlying53 rfl (by rw[QCG,hPl];exact Qie)) rfl ⟨rfl,(B1.write 1 rfl ho9 hb9).lat⟩
def stA (x:List UInt8) (ps:List (List UInt8)):Nat→List UInt8×List (List UInt8)
 | 0=>(Qbj x (nb 9),[x])
 | k+1=>(Qbj (derB (QcA (ps.getD k []) (stA x ps k).2).1 Qcc) (stA x ps k).1,(stA x ps k).2++[derB (QcA (ps.getD k []) (stA x ps k).2).1 Qcc])
def secA (x:List UInt8) (ps:List (List UInt8)) (k:Nat):List UInt8:=(QcA (ps.getD k []) (stA x ps k).2).1
def errA (x:List UInt8) (ps:List (List UInt8)) (k:Nat):Nat:=(QcA (ps.getD k []) (stA x ps k).2).2
def Qcj (x:List UInt8) (ps:List (List UInt8)) (k:Nat):List UInt8:=Qkr (stA x ps k).1 (secA x ps k)
def goE (x:List UInt8) (ps:List (List UInt8)):Nat→Nat→Nat
 | 0,_=>0
 | r+1,k=>if errA x ps k=0 then goE x ps r (k+1) else errA x ps k
def fitS (x:List UInt8) (ps:List (List UInt8)):Prop:=x.length=32∧1≤ps.length∧ps.length≤5∧∀p∈ps,p.length=32
open Classical in
noncomputable def Qdr (x:List UInt8) (ps:List (List UInt8)):Nat:=if fitS x ps then goE x ps ps.length 0 else 2
def Qch (x:List UInt8) (ps:List (List UInt8)) (k:Nat):List (List UInt8):=(QDt k).map (Qcj x ps)
theorem Qeg (x:List UInt8) (ps:List (List UInt8)) (k:Nat):(stA x ps k).1.length=32:=by
 cases k<;>exact QaV _ _
theorem Qiw (x:List UInt8) (ps:List (List UInt8)) (k:Nat):(secA x ps k).length=32:=Qkt _ _
theorem Qco (x:List UInt8) (ps:List (List UInt8)) (k:Nat):(Qcj x ps k).length=192:=Qhf _ _ (Qeg x ps k) (Qiw x ps k)
theorem QfO (x:List UInt8) (ps:List (List UInt8)):∀k,(stA x ps k).2.length=k+1
 | 0=>rfl
 | k+1=>by
   rw[stA]
   simp[QfO x ps k]
theorem Qfx (x:List UInt8) (hx:x.length=32) (ps:List (List UInt8)):∀k,∀p∈(stA x ps k).2,p.length=32
 | 0,p,h=>by
   rw[stA,QEG]at h
   rw[h,hx]
 | k+1,p,h=>by
   rw[stA]at h
   rcases QD7.1 h with h|h
   ·exact Qfx x hx ps k p h
   ·rw[QEG.1 h,QaF]
theorem Qoy (x:List UInt8) (hx:x.length=32) (ps:List (List UInt8)):∀k,∃q,Ed.From9 q∧(stA x ps k).1=nb q
 | 0=>⟨_,Ed.from9_step Ed.from9_nine x hx,(QfB x 9 hx Qwo).1⟩
 | k+1=>by
   obtain⟨q,hq,e⟩:=Qoy x hx ps k
   refine⟨_,Ed.from9_step hq (derB (QcA (ps.getD k []) (stA x ps k).2).1 Qcc) (QaF _ _),?_⟩
   rw[stA,e]
   exact (QfB _ q (QaF _ _) hq.1).1
theorem Qn5 (x:List UInt8) (hx:x.length=32) (ps:List (List UInt8)) (k:Nat) (b:List UInt8) (hb:b.length=32):Qa2 b (stA x ps k).1=0:=by
 obtain⟨q,hq,e⟩:=Qoy x hx ps k
 rw[e,(QfB b q hb hq.1).2,if_neg (Ed.from9_ne (Ed.from9_step hq b hb))]
theorem Qnd (x:List UInt8) (ps:List (List UInt8)) (k:Nat):Qch x ps (k+1)=Qch x ps k++[Qcj x ps k]:=by
 rw[Qch,QEN,QDo]
 rfl
theorem Qgo (x:List UInt8) (ps:List (List UInt8)) (k:Nat):(Qch x ps k).length=k:=by simp[Qch]
theorem QgO (x:List UInt8) (ps:List (List UInt8)) (k:Nat):∀s∈Qch x ps k,s.length=192:=by
 intro s hs
 obtain⟨j,_,rfl⟩:=QDu.1 hs
 exact Qco x ps j
theorem Qnz (x:List UInt8) (ps:List (List UInt8)) (k:Nat):(Qch x ps (k+1)).flatten.map W8=(Qch x ps k).flatten.map W8++(Qcj x ps k).map W8:=by
 rw[Qnd,List.flatten_append,QDo]
 simp
theorem Qir (x:List UInt8) (ps:List (List UInt8)) (k:Nat):subB (Qcj x ps k) 96 32=derB (secA x ps k) Qcc:=QnS _ _
theorem QeP (x:List UInt8) (ps:List (List UInt8)) (k:Nat):subB (Qcj x ps k) 128 32=(stA x ps k).1:=QmE _ _ (Qeg x ps k)
def ScP (w0:World) (g8:Nat) (w:World) (v:Value) (p:List UInt8):Prop:=
 (∃ A c,v= .slice A 32 c∧32≤c∧RdB w0 A 32 p)∨(∃ b,v= .slice (some ⟨b,0,none⟩) 32 32∧b≠g8∧p.length=32∧Blk w b 30 (p.map W8))∨(∃ A c base,v= .slice A 32 c∧OwnB w base A 32 c p)
structure ScRow (w0:World) (g8:Nat) (w:World) (v:Value) (sc:List (List UInt8)) (vs:List Value):Prop where
 own:w.ownsRow w0.heap.size 22 1 v sc.length vs
 len:vs.length=sc.length
 each:∀(j:Nat) u p,vs[j]?=some u→sc[j]?=some p→ScP w0 g8 w u p
theorem Qve:(30:TypeId)≠22:=by decide
theorem ne8L:(5:TypeId)≠22:=by decide
theorem QB5:(5:TypeId)≠30:=by decide
theorem ScP.later {w0 w w':World} {g8:Nat} {v:Value} {p:List UInt8} (h:ScP w0 g8 w v p) (j:Later w w'):ScP w0 g8 w' v p:=by
 rcases h with h|⟨b,h1,h2,h3,h4⟩|⟨A,c,base,h1,h2⟩
 ·exact .inl h
 ·exact .inr (.inl ⟨b,h1,h2,h3,h4.later j⟩)
 ·exact .inr (.inr ⟨A,c,base,h1,QaB h2 j⟩)
theorem ScP.part {w0 w:World} {g8:Nat} {v:Value} {p:List UInt8} (h:ScP w0 g8 w v p) (j:Later w0 w):Part w (fun _=>False) v p:=by
 rcases h with ⟨A,c,rfl,hc,h⟩|⟨b,rfl,_,h3,h4⟩|⟨A,c,base,rfl,h2⟩
 ·exact QaX (h.later j) hc
 ·exact QaX (Qb9 h4 h3) (QCN _)
 ·exact QaX h2.rd h2.cap
theorem ScP.only {w0 w w':World} {g8:Nat} {v:Value} {p:List UInt8} {l:List Value} (h:ScP w0 g8 w v p) (hg:Blk w g8 30 l) (ho:Only g8 w w'):ScP w0 g8 w' v p:=by
 rcases h with h|⟨b,h1,h2,h3,h4⟩|⟨A,c,base,h1,h2⟩
 ·exact .inl h
 ·exact .inr (.inl ⟨b,h1,h2,h3,h4.only ho h2⟩)
 ·exact .inr (.inr ⟨A,c,base,h1,QaH h2 hg (fun e=>QB5 e.symm) ho⟩)
theorem ScP.grown {w0 w w':World} {g8 base sz:Nat} {v v2:Value} {p:List UInt8} {e:TypeId} {n:Nat} {vs:List Value} (h:ScP w0 g8 w v p) (hown:w.ownsRow base e sz v2 n vs) (h1:30≠e) (h2:5≠e) (hg:w.grownBy w' v2.ownBlock):ScP w0 g8 w' v p:=by
 rcases h with h|⟨b,k1,k2,k3,k4⟩|⟨A,c,base',k1,k2⟩
 ·exact .inl h
 ·exact .inr (.inl ⟨b,k1,k2,k3,QcJ k4 hown h1 hg⟩)
 ·exact .inr (.inr ⟨A,c,base',k1,QgK k2 hown h2 hg⟩)
theorem ScRow.later {w0 w w':World} {g8:Nat} {v:Value} {sc:List (List UInt8)} {vs:List Value} (h:ScRow w0 g8 w v sc vs) (j:Later w w'):ScRow w0 g8 w' v sc vs:=
 ⟨QaB h.own j,h.len,fun k u p hu hp=>(h.each k u p hu hp).later j⟩
theorem ScRow.only {w0 w w':World} {g8:Nat} {v:Value} {sc:List (List UInt8)} {vs:List Value} {l:List Value} (h:ScRow w0 g8 w v sc vs) (hg:Blk w g8 30 l) (ho:Only g8 w w'):ScRow w0 g8 w' v sc vs:=
 ⟨QaH h.own hg Qve ho,h.len,fun k u p hu hp=>(h.each k u p hu hp).only hg ho⟩
theorem ScRow.grown {w0 w w':World} {g8 base sz:Nat} {v v2:Value} {sc:List (List UInt8)} {us vs:List Value} {e:TypeId} {n:Nat} (h:ScRow w0 g8 w v sc us) (hown:w.ownsRow base e sz v2 n vs) (h0:22≠e) (h1:30≠e) (h2:5≠e) (hg:w.grownBy w' v2.ownBlock):ScRow w0 g8 w' v sc us:=
 ⟨QgK h.own hown h0 hg,h.len,fun k u p hu hp=>(h.each k u p hu hp).grown hown h1 h2 hg⟩
theorem ScRow.snoc {w0 w w':World} {g8:Nat} {v v' u:Value} {sc:List (List UInt8)} {vs:List Value} {p:List UInt8} (h:ScRow w0 g8 w v sc vs) (hu:ScP w0 g8 w u p) (hg:w.grownBy w' v.ownBlock) (hown:w'.ownsRow w0.heap.size 22 1 v' (sc.length+1) (vs++[u])):ScRow w0 g8 w' v' (sc++[p]) (vs++[u]):=by
 refine⟨by rw[QCM];exact hown,by simp[h.len],fun j x q hx hq=>?_⟩
 by_cases hj:j<vs.length
 ·rw[QC0 hj]at hx
  rw[QC0 (by rw[←h.len];exact hj)]at hq
  exact (h.each j x q hx hq).grown h.own Qve ne8L hg
 ·rw[QCR (by omega)]at hx
  rw[QCR (by rw[←h.len];omega),←h.len]at hq
  have h0:j-vs.length=0:=by
   have:=(QCX.1 hx).1
   simp at this
   omega
  rw[h0]at hx hq
  cases hx
  cases hq
  exact hu.grown h.own Qve ne8L hg
theorem ScRow.parts {w0 w:World} {g8:Nat} {A:Option Addr} {n c:Nat} {sc:List (List UInt8)} {vs:List Value} (h:ScRow w0 g8 w (.slice A n c) sc vs) (hn:sc.length=n) (j:Later w0 w):Parts w (fun _=>False) A n sc:=by
 have ho:=h.own
 rw[hn]at ho
 exact⟨vs,QjK ho,fun _ _ _ h=>h,h.len,fun k u p hu hp=>(h.each k u p hu hp).part j⟩
section
variable {P:Program} {ops:Array Oper} {rest:List Oper} {o:Oper} {a:Act} {w:World} {Q:Exit→Act→World→Prop}
theorem Qht (hgd:o.guard=none) (l c:Operand) (t:TypeId) (ho:o.op=Op.makeSlice t l c) (e:TypeId) (v:Value) (m bytes:Nat) (ht:P.underlying t=some (.slice e))
 (hinfo:(P.info? e).map (fun i=>(i.zero,i.size,i.bytes))=some (some (.agg (QCC m v).toArray),m,bytes)) (hm:0<m) (kl kc:IntKind) (C:Int) (n:Nat) (hl:a.eval l= .int kl 0) (hc:a.eval c= .int kc C) (hC:C=(n:Int))
 (hby:0<bytes) (hsz:n*bytes≤140737488355328) (h:∀w',Blk w' w.heap.size e (QCC (n*m) v)→Later w w'→wpList P ops Q rest (a.put o.dst (.slice (some ⟨w.heap.size,0,none⟩) 0 n)) w'):
 wpList P ops Q (o :: rest) a w:=by
 cases hq:P.info? e with
 | none=>simp[hq]at hinfo
 | some i=>
   simp only[hq,QEc,Option.some.injEq,Prod.mk.injEq]at hinfo
   obtain⟨hz,hsize,hbytes⟩:=hinfo
   have hn:n≤140737488355328:=QDk (QDK _ hby) hsz
   refine wpList_plain hgd fun K hK=>?_
   have hb:((i.bytes:Int)*(n:Int))≤281474976710656:=by
    rw[hbytes,←QEp,QDz]
    omega
   have hr:=run_make (P:=P) w t e i _ ht hq hz kl kc 0 n (by omega) (by omega) hb (by omega)
   have hcells:(Value.agg (QCC m v).toArray).cells=(QCC m v).toArray:=rfl
   simp only[QEs,Int.toNat_zero,hsize,hcells,Qn9 m _ v hm]at hr
   subst hC
   unfold Oper.wp
   simp only[execOp,ho,hl,hc,Sem.run_bind,hr,Result.andThen_ok,Sem.run_pure]
   exact hK _ _ (h _ (Blk.new w e _) (Qaa _ _))
end
theorem QjU {x:List UInt8} {ps:List (List UInt8)} (h: ¬fitS x ps):Qdr x ps=2:=by rw[Qdr,if_neg h]
theorem Qqd {x:List UInt8} {ps:List (List UInt8)} (h:fitS x ps):Qdr x ps=goE x ps ps.length 0:=by rw[Qdr,if_pos h]
theorem QrD:(Tryz.prog.info? 53).map (fun i=>(i.zero,i.size,i.bytes))=some (some (.agg (QCC 192 (W8 0)).toArray),192,192):=by kernel_rfl
theorem QtA:(Tryz.prog.info? 53).map (fun i=>(i.zero,i.size))=some (some (.agg (QCC 192 (W8 0)).toArray),192):=by kernel_rfl
theorem QnE {w:World} {base sz:Nat} {e:TypeId} {v:Value} {n:Nat} {vs:List Value} (h:w.ownsRow base e sz v n vs):∀b,v.ownBlock=some b→b<w.heap.size:=fun b hb=>(h.lt b hb).2
theorem Qp6:(30:TypeId)≠53:=by decide
theorem ne8S:(5:TypeId)≠53:=by decide
theorem neLS:(22:TypeId)≠53:=by decide
set_option maxRecDepth 100000 in
set_option maxHeartbeats 8000000 in
theorem Qi5 (A B:Option Addr) (n c m d:Nat) (x:List UInt8) (ps:List (List UInt8)) (w:World) (hx:RdB w A n x) (hc:n≤c) (hp:Parts w (fun _=>False) B m ps) (hm:m≤140737488355328):
 Calls Tryz.prog 15 #[.slice A n c,.slice B m d] w fun e w'=>Later w w'∧((Qdr x ps≠0∧e= .returned (.tuple #[.slice none 0 0,.int .i64 (Qdr x ps:Nat)]))∨
  (Qdr x ps=0∧∃A' c',e= .returned (.tuple #[.slice A' m c',.int .i64 0])∧m≤c'∧RdK 192 w' A' m (Qch x ps m)∧∀b o,A'=some ⟨b,o,none⟩→w.heap.size≤b)):=by
 have hxl:=hx.len
 have hpsl:=hp.len
 by_cases hok:n=32∧1≤m∧m≤5
 ·obtain⟨rfl,hm1,hm5⟩:=hok
  have k1:decide ((m:Int)<1)=false:=decide_eq_false (by omega)
  have k2:decide ((5:Int)<(m:Int))=false:=decide_eq_false (by omega)
  have hF:=hid (fun (h:∀p∈ps,p.length=32)=>Qqd (x:=x) (ps:=ps) ⟨hxl,by omega,by omega,h⟩)
  have hB:=hid (fun (h: ¬ ∀p∈ps,p.length=32)=>QjU (x:=x) (ps:=ps) (fun f=>h f.2.2.2))
  have hbadk:=hid (fun k (h:k<ps.length) (hk:(ps.getD k []).length≠32) (ha:∀p∈ps,p.length=32)=>hk (ha _ (QdL ps k h)))
  have hPub:=hid (fun (w:World) h=>Qpv A 32 c x w h (by omega))
  rw[QyO x hxl]at hPub
  have h0l:=QaV x (nb 9)
  have hst0:Hid ((stA x ps 0).1=Qbj x (nb 9)∧(stA x ps 0).2=[x]):=hid ⟨rfl,rfl⟩
  generalize Qdr x ps=E0 at *
  generalize Qbj x (nb 9)=al0 at *
  go_enter Tryz.func15,Tryz.ntmps15
  go_wp2_with fail
  go_loopw [33] (fun i wr=>∃k:Nat,k≤m∧i= .int .i64 k∧Hid (∀ j,j<k→(ps.getD j []).length=32)∧Later w wr) (fun i _=>m-(intOf i).toNat)
  case atStart=>exact⟨0,by omega,rfl,hid (fun j h=>by omega),Later.refl w⟩
  case round=>
   obtain⟨k,hk,rfl,hall,L⟩:=hrel
   by_cases hlt:k<m
   ·obtain⟨b,o,Ak,nk,ck,rfl,hb,hck,hcap,hrd,_⟩:=(hp.later L).at_ hlt
    have hlen:=hrd.len
    have hb2:=hid (fun h=>hB.out (hbadk.out k (by omega) h))
    rw[hlen]at hb2
    have hstep:Hid (nk=32→∀j,j<k+1→(ps.getD j []).length=32):=hid (fun h j hj=>by
     by_cases e:j=k
     ·rw[e,hlen,h]
     ·exact hall.out j (by omega))
    clear hrd hlen
    by_cases h32:nk=32
    ·have hne:((nk:Int) != 32)=false:=by simp;omega
     go_wp2_with fail
     go_roundw
     case rel=>exact⟨k+1,by omega,by go_num,hid (hstep.out h32),L⟩
     case measure=>simp[intOf];omega
    ·have hne:((nk:Int) != 32)=true:=by simp;omega
     go_wp2_with fail
     go_ret2
     exact⟨L,.inl (by rw[hb2.out h32];exact⟨by decide,rfl⟩)⟩
   ·have hall':=QoF ps (fun j hj=>hall.out j (by omega))
    have hE:=hF.out hall'
    have HE:=hid hE
    have HA:=hid hall'
    clear hF hB hbadk hall hall' hE
    go_wp2_with fail
    (with_reducible refine (hPub.out _ (hx.later L)).mono ?_);rintro e w1 ⟨rfl,j1⟩
    go_wp2_with (first
     | (refine QaK rfl rfl _ _ rfl (Blk.new w1 _ (QCC 32 (.int .u8 0))) rfl rfl h0l rfl ?_;intro w2 hb2 ho2)
     | (refine Qht rfl _ _ _ rfl 53 (W8 0) 192 192 Tryz.underlying45 QrD (by omega) _ _ _ m rfl rfl rfl (by omega) (by omega) ?_;intro w3 hb3 hl3)
     | fail)
    have L1:=L.trans j1
    have hg8:w.heap.size≤w1.heap.size:=L1.size
    have L2:=(L1.trans (Qaa w1 (.cells (QCC 32 (Value.int .u8 0)).toArray 30))).only ho2 hg8
    have L3:=L2.trans hl3
    have hrow:=QcZ (Qvf hb3 L2.size (by rw[QCO]) (by unfold maxLen;omega)) (Qaa w3 (.cells #[.slice A 32 c] 22))
    have hal:=(hb2.later hl3).later (Qaa w3 (.cells #[.slice A 32 c] 22))
    have L4:=L3.trans (Qaa w3 (.cells #[.slice A 32 c] 22))
    have hsc:ScRow w w1.heap.size (w3.alloc (.cells #[.slice A 32 c] 22)) (.slice (some ⟨w3.heap.size,0,none⟩) 1 1) [x] [.slice A 32 c]:=
     ⟨Qcu (Qnr w3 22 [.slice A 32 c] (by simp)) L3.size,rfl,fun j u p hu hp=>by
       have hj:j=0:=by have:=(QCX.1 hu).1;simpa using this
       subst hj
       cases hu
       cases hp
       exact .inl ⟨A,c,rfl,hc,hx⟩⟩
    clear hb2 ho2 hb3 hl3 j1 L1 L2 L3 L hPub
    generalize w3.alloc _=w4 at *
    generalize w1.heap.size=g8 at *
    go_loopw [10,11,56] (fun v u i wr=>∃(k:Nat) (vs:List Value),k≤m∧i= .int .i64 k∧wr.ownsRow w.heap.size 53 192 v k ((Qch x ps k).flatten.map W8)∧ScRow w g8 wr u (stA x ps k).2 vs∧Blk wr g8 30 ((stA x ps k).1.map W8)∧Later w wr∧Hid (E0=goE x ps (m-k) k)) (fun _ _ i _=>m-(intOf i).toNat)
    case atStart=>exact⟨0,_,by omega,rfl,hrow,hsc,by rw[hst0.out.1];exact hal,L4,hid (by rw[HE.out,hpsl];rfl)⟩
    case round=>
     clear hrow hsc hal L4
     obtain⟨k,vs,hk,rfl,hrow,hsc,hal,L,HG⟩:=hrel
     by_cases hlt:k<m
     ·obtain⟨b,o,Ak,nk,ck,rfl,hb,hck,hcap,hrd,_⟩:=(hp.later L).at_ hlt
      have hlen:=hrd.len
      obtain rfl:nk=32:=by rw[←hlen];exact HA.out _ (QdL ps k (by omega))
      have hscl:(stA x ps k).2.length=k+1:=QfO x ps k
      have hsc32:=hid (Qfx x hxl ps k)
      have hall:=Qeg x ps k
      have cC:Hid (∀ (w:World) B d,RdB w Ak 32 (ps.getD k [])→Parts w (fun _=>False) B (k+1) (stA x ps k).2→
       Calls Tryz.prog 57 #[.slice Ak 32 ck,.slice B (k+1) d] w fun e w'=>e= .returned (.tuple #[.agg ((secA x ps k).map W8).toArray,.int .i64 (errA x ps k:Nat)])∧Later w w'):=
       hid (fun w B d h1 h2=>QrU Ak B 32 ck (k+1) d (ps.getD k []) (stA x ps k).2 w h1 h2 (by omega) (by omega))
      have hsl:=Qiw x ps k
      have hTl:=Qco x ps k
      have F1:=hid (show Qcj x ps k=k4 (secA x ps k)++((stA x ps k).1++secA x ps k) from rfl)
      have F2:=hid (show (stA x ps (k+1)).1=Qbj (derB (secA x ps k) Qcc) (stA x ps k).1 from rfl)
      have F3:=hid (show (stA x ps (k+1)).2=(stA x ps k).2++[derB (secA x ps k) Qcc] from rfl)
      have F4:=Qir x ps k
      have F5:=QeP x ps k
      have F6:=Qn5 x hxl ps k (derB (secA x ps k) Qcc) (QaF _ _)
      have F7:=hid (Qnz x ps k)
      have F8:=hid (show errA x ps k=0→E0=goE x ps (m-(k+1)) (k+1) by
       intro h
       have:=HG.out
       rw[show m-k=(m-(k+1))+1 by omega,goE,if_pos h]at this
       exact this)
      have F9:=hid (show errA x ps k≠0→E0=errA x ps k by
       intro h
       have:=HG.out
       rw[show m-k=(m-(k+1))+1 by omega,goE,if_neg h]at this
       exact this)
      have hbl:=QaF (secA x ps k) Qcc
      obtain⟨B1,d1,hu,hd1⟩:=Qg0 hsc.own
      rw[hscl]at hu hd1
      subst hu
      have hdone:=hid (QgO x ps (k+1))
      clear HG hlen
      generalize Qcj x ps k=T at *
      generalize derB (secA x ps k) Qcc=bl at *
      generalize hS:secA x ps k=S at *
      generalize errA x ps k=e1 at *
      generalize (stA x ps k).1=al at *
      generalize (stA x ps k).2=sc at *
      generalize ps.getD k []=p at *
      by_cases he:e1=0
      ·subst he
       have G1:=F8.out rfl
       have hSt:=hid (fun w=>Qjy al S hall hsl w)
       rw[←F1.out]at hSt
       have hNx:=hid (fun w=>Qoq T bl al hTl F4 F5 w)
       rw[F6]at hNx
       have hNl:=QaV bl al
       rw[←F2.out]at hNx hNl
       clear F1 F2 F6 F8 F9 hS
       generalize ha2:(stA x ps (k+1)).1=al2 at *
       have HA2:=hid ha2
       clear ha2
       have hzc:=Quf
       have H4:=hid F4
       have HG1:=hid G1
       clear F4 F5 G1
       go_wp2_with fail
       (with_reducible refine (cC.out _ B1 d1 hrd (hsc.parts hscl L)).mono ?_);rintro e w5 ⟨rfl,j5⟩
       go_wp2_with (first
        | (refine QaK rfl rfl _ _ rfl (Blk.new w5 _ (QCC 32 (.int .u8 0))) rfl rfl hsl rfl ?_;intro w6 hb6 ho6
           have J6:=(j5.trans (Qaa w5 (.cells (QCC 32 (Value.int .u8 0)).toArray 30))).only ho6 j5.size
           have hal6:=hal.later J6)
        | (refine QeW rfl _ rfl hal6 hall rfl ?_)
        | (refine QeW rfl _ rfl hb6 hsl rfl ?_)
        | fail)
       (with_reducible refine (hSt.out _).mono ?_);rintro e w7 ⟨rfl,j7⟩
       have hgr:∀b,u10.ownBlock=some b→b<w7.heap.size:=fun b hb=>QC3 (QnE hrow b hb) (J6.trans j7).size
       have hcase:(((k:Int)+1==(m:Int))=true∧k+1=m)∨(((k:Int)+1==(m:Int))=false∧k+1<m):=by
        simp only[beq_iff_eq,beq_eq_false_iff_ne,ne_eq]
        omega
       rcases hcase with ⟨kl,hlast⟩|⟨kl,hlast⟩
       ·go_wp2_with (first
         | (refine Qec rfl rfl _ _ rfl (Blk.new w7 _ Tryz.zeroCells53.toList) rfl rfl hTl hzc ?_;intro w8 hb8 ho8
            have J8:=(J6.trans j7).trans ((Qaa w7 (.cells Tryz.zeroCells53 53)).only ho8 (QCN _))
            have J8':=J8.trans (Qaa w8 (.cells (T.map W8).toArray 53)))
         | (refine QeN rfl _ rfl hb8 hTl rfl ?_)
         | (refine Qlo rfl 45 _ rfl 53 192 _ T Tryz.underlying45 QtA (by omega) (by omega) hTl rfl ?_)
         | (refine QdE rfl _ _ _ rfl 53 _ 192 192 Tryz.underlying45 QrD rfl (by omega) w _ k _ (QcZ hrow J8') (L.trans J8') w8.heap.size 1 1 53 (T.map W8) (Blk.new _ _ _) (by rw[QCG,hTl]) (QaW T) rfl rfl (by omega) (by omega) ?_;intro v9 w9 hown9 hl9 hg9
            have hT9:Blk w9 w7.heap.size 53 (T.map W8):=by
             have h8:=hb8.later (Qaa w8 (.cells (T.map W8).toArray 53))
             refine (hg9.block _ h8.lt ?_).trans h8
             intro e
             exact absurd (hgr _ e.symm) (Nat.lt_irrefl _))
         | (refine QeN rfl _ rfl hT9 hTl rfl ?_)
         | fail)
        have hrow8:=QcZ hrow J8'
        have hsc9:=(hsc.later J8').grown hrow8 neLS Qp6 ne8S hg9
        have hal9:=QcJ (hal.later J8') hrow8 Qp6 hg9
        have hg8:w.heap.size≤g8∨True:=.inr trivial
        clear hrow hsc hal hb8 ho8 J8 J8' hg9 hrow8 hg8 hgr J6 hal6 hb6 ho6 j5 j7 L
        rw[←F7.out]at hown9
        obtain⟨A9,c9,rfl,hc9⟩:=Qg0 hown9
        have hrd9:=Qsm hown9 (Qgo x ps (k+1)) hdone.out
        have hE0:E0=0:=by rw[HG1.out,hlast,QD0];rfl
        rw[hlast]at hrd9 hc9
        go_ret2
        exact⟨hl9,.inr ⟨hE0,A9,c9,by rw[hlast];rfl,hc9,hrd9,fun b o e=>by subst e;exact (hown9.lt b rfl).1⟩⟩
       ·go_wp2_with (first
         | (refine Qec rfl rfl _ _ rfl (Blk.new w7 _ Tryz.zeroCells53.toList) rfl rfl hTl hzc ?_;intro w8 hb8 ho8
            have J8:=(J6.trans j7).trans ((Qaa w7 (.cells Tryz.zeroCells53 53)).only ho8 (QCN _))
            have J8':=J8.trans (Qaa w8 (.cells (T.map W8).toArray 53)))
         | (refine QeN rfl _ rfl hb8 hTl rfl ?_)
         | (refine Qlo rfl 45 _ rfl 53 192 _ T Tryz.underlying45 QtA (by omega) (by omega) hTl rfl ?_)
         | (refine QdE rfl _ _ _ rfl 53 _ 192 192 Tryz.underlying45 QrD rfl (by omega) w _ k _ (QcZ hrow J8') (L.trans J8') w8.heap.size 1 1 53 (T.map W8) (Blk.new _ _ _) (by rw[QCG,hTl]) (QaW T) rfl rfl (by omega) (by omega) ?_;intro v9 w9 hown9 hl9 hg9
            have hT9:Blk w9 w7.heap.size 53 (T.map W8):=by
             have h8:=hb8.later (Qaa w8 (.cells (T.map W8).toArray 53))
             refine (hg9.block _ h8.lt ?_).trans h8
             intro e
             exact absurd (hgr _ e.symm) (Nat.lt_irrefl _))
         | (refine QeN rfl _ rfl hT9 hTl rfl ?_)
         | fail)
        have hrow8:=QcZ hrow J8'
        have hsc9:=(hsc.later J8').grown hrow8 neLS Qp6 ne8S hg9
        have hal9:=QcJ (hal.later J8') hrow8 Qp6 hg9
        have hg8:w.heap.size≤g8∨True:=.inr trivial
        clear hrow hsc hal hb8 ho8 J8 J8' hg9 hrow8 hg8 hgr J6 hal6 hb6 ho6 j5 j7 L
        rw[←F7.out]at hown9
        (with_reducible refine (hNx.out _).mono ?_);rintro e w10 ⟨rfl,j10⟩
        have hT10:=hT9.later j10
        have hal10:=hal9.later j10
        have hsc10:=hsc9.later j10
        have hrow10:=QcZ hown9 j10
        have L10:=hl9.trans j10
        have hne:w7.heap.size≠g8:=hT10.ne_type hal10 (fun e=>Qp6 e.symm)
        clear hT9 hal9 hsc9 hown9 hl9 j10 hSt hNx cC
        go_wp2_with (first
         | (refine QaK rfl rfl _ _ rfl hal10 rfl rfl hNl (by rw[QCG,hall]) ?_;intro w11 hb11 ho11
            have hT11:=hT10.only ho11 hne)
         | (refine QoD 96 32 rfl _ rfl hT11 rfl Tryz.underlying30 rfl Qc6 H4.out hbl ?_)
         | (refine QaK rfl rfl _ _ rfl (Blk.new w11 _ (QCC 32 (.int .u8 0))) rfl rfl hbl rfl ?_;intro w12 hb12 ho12
            have hsc11:=hsc10.only hal10 ho11
            have hrow11:=QaH hrow10 hal10 Qp6 ho11
            have L11:=L10.only ho11 hg8
            have J12:Later w11 (w12.alloc (.cells #[.slice (some ⟨w11.heap.size,0,none⟩) 32 32] 22)):=((Qaa w11 (.cells (QCC 32 (Value.int .u8 0)).toArray 30)).only ho12 (QCN _)).trans (Qaa _ _)
            have hsc12:=hsc11.later J12
            have hrow12:=QcZ hrow11 J12
            have hal12:=hb11.later J12
            have hbl12:=hb12.later (Qaa w12 (.cells #[.slice (some ⟨w11.heap.size,0,none⟩) 32 32] 22))
            have L12:=L11.trans J12
            have hsco:=hsc12.own
            rw[hscl]at hsco)
         | (refine QdE rfl _ _ _ rfl 22 _ 1 24 Tryz.underlying48 Qq7 rfl (by omega) w _ (k+1) vs hsco L12 w12.heap.size 1 1 22 [.slice (some ⟨w11.heap.size,0,none⟩) 32 32] (Blk.new _ _ _) rfl (by intro u hu;rw[QEG.1 hu];rfl) rfl rfl (by omega) (by omega) ?_;intro v13 w13 hown13 hl13 hg13)
         | fail)
        have hsc13:=hsc12.snoc (p:=bl) (.inr (.inl ⟨w11.heap.size,rfl,by have:=hb11.lt;omega,hbl,hbl12⟩)) hg13 (by rw[hscl];exact hown13)
        rw[←F3.out]at hsc13
        have hrow13:=QgK hrow12 hsco (fun e=>neLS e.symm) hg13
        have hal13:=QcJ hal12 hsco Qve hg13
        go_roundw
        case rel=>exact⟨k+1,_,by omega,by go_num,hrow13,hsc13,by rw[HA2.out];exact hal13,hl13,HG1⟩
        case measure=>simp[intOf];omega
      ·have hE0:=F9.out he
       have hne:((e1:Int) != 0)=true:=by simp;omega
       go_wp2_with fail
       (with_reducible refine (cC.out _ B1 d1 hrd (hsc.parts hscl L)).mono ?_);rintro e w5 ⟨rfl,j5⟩
       go_wp2_with (first
        | (refine QaK rfl rfl _ _ rfl (Blk.new w5 _ (QCC 32 (.int .u8 0))) rfl rfl hsl rfl ?_;intro w6 hb6 ho6)
        | fail)
       go_ret2
       exact⟨(L.trans (j5.trans (Qaa w5 _))).only ho6 (L.trans j5).size,.inl ⟨by rw[hE0];exact he,by rw[hE0];rfl⟩⟩
     ·have hkm:k=m:=by omega
      subst hkm
      have hE0:E0=0:=by rw[HG.out,QD0];rfl
      obtain⟨A9,c9,rfl,hc9⟩:=Qg0 hrow
      have hrd9:=Qsm hrow (Qgo x ps k) (QgO x ps k)
      go_wp2_with fail
      go_ret2
      exact⟨L,.inr ⟨hE0,A9,c9,rfl,hc9,hrd9,fun b o e=>by subst e;exact (hrow.lt b rfl).1⟩⟩
 ·have hE:=QjU (x:=x) (ps:=ps) (fun f=>hok ⟨by have:=f.1;omega,by have:=f.2.1;omega,by have:=f.2.2.1;omega⟩)
  rw[hE]
  clear hE
  have key:((n:Int) != 32)=true∨(((n:Int) != 32)=false∧decide ((m:Int)<1)=true)∨(((n:Int) != 32)=false∧decide ((m:Int)<1)=false∧decide ((5:Int)<(m:Int))=true):=by
   simp only[bne_iff_ne,bne_eq_false_iff_eq,ne_eq,decide_eq_true_eq,decide_eq_false_iff_not]
   omega
  rcases key with h1|⟨h1,h2⟩|⟨h1,h2,h3⟩
  all_goals
   go_enter Tryz.func15,Tryz.ntmps15
   go_wp2_with fail
   go_ret2
   exact⟨Later.refl w,.inl ⟨by decide,rfl⟩⟩
theorem Qke (A B:Option Addr) (n c m d:Nat) (x:List UInt8) (ps:List (List UInt8)) (w:World) (hx:RdB w A n x) (hc:n≤c) (hp:Parts w (fun _=>False) B m ps) (hm:m≤140737488355328):
 Calls Tryz.prog 15 #[.slice A n c,.slice B m d] w fun e w'=>Later w w'∧((Qdr x ps≠0∧e= .returned (.tuple #[.slice none 0 0,.int .i64 (Qdr x ps:Nat)]))∨
  (Qdr x ps=0∧∃A' c',e= .returned (.tuple #[.slice A' m c',.int .i64 0])∧m≤c'∧RdK 192 w' A' m (Qch x ps m))):=
 (Qi5 A B n c m d x ps w hx hc hp hm).mono fun _ _ h=>⟨h.1,h.2.imp id fun h=>⟨h.1,by obtain⟨A',c',e,h1,h2,_⟩:=h.2;exact⟨A',c',e,h1,h2⟩⟩⟩
end Go.Proofs.YtdhgpkdjdmlphaaGreat
